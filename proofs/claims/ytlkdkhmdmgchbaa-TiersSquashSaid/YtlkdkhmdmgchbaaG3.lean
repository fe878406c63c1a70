/- the laws' statements: the head of the cut, read by its first words alone. -/
import Derived.Test.YtlkdkhmdmgchbaaG2
namespace Go.Proofs.Ytlkdkhmdmgchbaa
set_option linter.unusedSimpArgs false
set_option linter.unusedVariables false
open Go.ChangeShapes Go.WideShapes Go.ChangeAt Go.RowKit Go.Joins Go.Deep

theorem words_space (r : List Char) : wordsSigns (Char.ofNat 32 :: r) = [] :: wordsSigns r := rfl
theorem words_other (c : Char) (r : List Char) (h : c ≠ Char.ofNat 32) (w : List Char) (ws : List (List Char)) (hr : wordsSigns r = w :: ws) : wordsSigns (c :: r) = (c :: w) :: ws := by
  rw [wordsSigns]
  · rw [hr]
  · exact h
theorem words_split : ∀ (a r : List Char), (a.all fun c => decide (c ≠ Char.ofNat 32)) = true → wordsSigns (a ++ Char.ofNat 32 :: r) = a :: wordsSigns r
  | [], r, _ => words_space r
  | c :: a, r, h => by
    simp only [List.all_cons, Bool.and_eq_true, decide_eq_true_eq] at h
    rw [List.cons_append]
    exact words_other _ _ h.1 _ _ (words_split a r h.2)
set_option maxRecDepth 100000 in
theorem head_is : ∃ L, Try.prog.initOrder = String.ofList L ∧ L = L.take 7 ++ Char.ofNat 32 :: ((L.drop 8).take 64 ++ Char.ofNat 32 :: ((L.drop 73).take 3 ++ Char.ofNat 32 :: L.drop 77)) ∧ ((L.take 7).all fun c => decide (c ≠ Char.ofNat 32)) = true ∧ (((L.drop 8).take 64).all fun c => decide (c ≠ Char.ofNat 32)) = true ∧ (((L.drop 73).take 3).all fun c => decide (c ≠ Char.ofNat 32)) = true ∧
    ((L.take 7 == "harness".toList || L.take 7 == "ownmain".toList) && isSumSigns ((L.drop 8).take 64)) = true ∧ (L.drop 73).take 3 = "cut".toList := ⟨_, rfl, by kernel_rfl, by kernel_rfl, by kernel_rfl, by kernel_rfl, by kernel_rfl, by kernel_rfl⟩
theorem head_cut : ∃ rest, behindMainWord (wordsSigns Try.prog.initOrder.toList) = "cut".toList :: rest := by
  obtain ⟨L, h1, h2, n1, n2, n3, h3, h4⟩ := head_is
  rw [h1, String.toList_ofList, h2, words_split _ _ n1, words_split _ _ n2, words_split _ _ n3, behindMainWord, if_pos h3, h4]
  exact ⟨_, rfl⟩
theorem make_of (P : Program) (rest : List (List Char)) (h : behindMainWord (wordsSigns P.initOrder.toList) = "cut".toList :: rest) : (P.make == some Make.cut) = true := by
  unfold Program.make
  rw [h]
  kernel_rfl
theorem strip_is (rest : List (List Char)) : stripLifts liftWords ("cut".toList :: rest) = ([], "cut".toList :: rest) := by kernel_rfl
theorem final_of (P : Program) (rest : List (List Char)) (h : behindMainWord (wordsSigns P.initOrder.toList) = "cut".toList :: rest) : (false == P.liftsFinal) = true := by
  unfold Program.liftsFinal Program.headLifts
  rw [h]
  simp only [strip_is]
  kernel_rfl
theorem enter_of (P : Program) (rest : List (List Char)) (h : behindMainWord (wordsSigns P.initOrder.toList) = "cut".toList :: rest) (h1 : P.laysLater = false) (h2 : P.bearsReflect = false) (h3 : P.doorFits [] = true) : P.mayEnter = true := by
  unfold Program.mayEnter
  rw [h]
  simp only [strip_is, h1, h2, h3]
  kernel_rfl
theorem lays_is : Try.prog.laysLater = false := by kernel_rfl
theorem bears_is : Try.prog.bearsReflect = false := by kernel_rfl
theorem door_is : Try.prog.doorFits [] = true := by kernel_rfl
theorem make_is : (Try.pinned.checked.prog.make == some Make.cut) = true := by
  obtain ⟨rest, h⟩ := head_cut
  exact make_of Try.prog rest h
theorem final_is : (false == Try.pinned.checked.prog.liftsFinal) = true := by
  obtain ⟨rest, h⟩ := head_cut
  exact final_of Try.prog rest h
theorem enter_is : Try.pinned.checked.prog.mayEnter = true := by
  obtain ⟨rest, h⟩ := head_cut
  exact enter_of Try.prog rest h lays_is bears_is door_is
end Go.Proofs.Ytlkdkhmdmgchbaa
