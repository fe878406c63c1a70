/- The second logic: rows turned about. -/
import Derived.Test.YtlkdkhmdmgchbaaJD
import Derived.Test.YtlkdkhmdmgchbaaJP
import Derived.Shelf.SlicesQ.Reverse
import Derived.Test.YtlkdkhmdmgchbaaJS
namespace Go.Proofs.Ytlkdkhmdmgchbaa
set_option linter.unusedSimpArgs false
set_option linter.unusedVariables false
open Go.RowKit Go.Shelf Go.Lib Go.Sort
theorem holds_own {w : World} {g : Nat} {cur : Array Value} {E : TypeId} {l : List Pr} (hg : w.heap[g]? = some (.cells cur E (0, 0))) (h4 : cur.toList.take (l.length * 2) = flatP l) : HoldsK encP 2 w g 0 l.toArray := by
  intro j hj
  rw [flatK_P] at hj ⊢
  have hj' : j < (flatP l).length := by simpa using hj
  have e : cur[j]? = (flatP l)[j]? := by
    rw [← h4, List.getElem?_take, if_pos (by rw [flatP_len] at hj'; exact hj')]
    simp
  refine ⟨?_, ?_⟩
  · unfold World.cell?
    simp only [hg, Nat.zero_add, e, List.getElem?_eq_getElem hj']
    simp [getElem!_def, hj']
  · unfold World.frozen?
    simp only [hg]
    simp
theorem reverse_ku (l : List Pr) (hn : l.length ≤ 1000000000) : Ku Try.prog 63 [] 52 2 (l.map PD) (l.reverse.map PD) := by
  intro Z w v vs hrow hnz hr
  have how := rowat_to hrow trivial
  obtain rfl : vs = #[] := Array.size_eq_zero_iff.1 hr.1
  rcases how.2 with ⟨rfl, h0⟩ | ⟨g, cap, cur, rfl, -, hg, h1, h2, h3, h4⟩
  · have hl : l = [] := List.length_eq_zero_iff.1 h0
    subst hl
    have hcon := AnyQ.slices_Reverse_empty Try.revPr none 0 w
    change Calls Try.prog 63 _ _ _ at hcon
    refine hcon.mono ?_
    rintro e w' ⟨rfl, rfl⟩
    exact ⟨rfl, Keeps.refl _ _, hrow⟩
  · have hlt : g < w.heap.size := (Array.getElem?_eq_some_iff.1 hg).1
    have hcon := AnyQ.slices_Reverse Try.revPr 2 Try.isAgg52 Try.sizeOf52 encP (fun _ => rfl) (fun x v hv => by simp [encP] at hv; rcases hv with rfl | rfl <;> rfl) g 0 cap l.toArray w (holds_own hg h4) (by simp; omega)
    change Calls Try.prog 63 _ _ _ at hcon
    have hs : l.toArray.size = l.length := by simp
    rw [hs] at hcon
    refine hcon.mono ?_
    rintro e w' ⟨rfl, n, hw⟩
    obtain ⟨k1, cur', k2, k3, k4⟩ := sort_world_row (n := n) (os := #[]) (l' := l.reverse) hg (by rw [List.length_reverse]; omega)
    have hw : w' = sortWorldK encP 2 w g 0 n l.reverse.toArray #[] := by
      rw [hw]
      unfold sortWorldK
      rw [Go.Sort.grow_empty]
      simp
    rw [← hw] at k1 k2
    refine ⟨rfl, ⟨k1.os, k1.tape, k1.output, k1.size, fun k hk hb => k1.block k hk (fun e => hb (by rw [e]; rfl))⟩, rowat_of _ _ _ _ _ ?_⟩
    rw [List.length_reverse] at k4 ⊢
    exact ⟨by rw [flatP_len, List.length_reverse], .inr ⟨g, cap, cur', rfl, Nat.zero_le _, k2, h1, h2, k3.trans h3, k4⟩⟩
theorem right_ofL {l : List Pr} (hn : l.length ≤ 1048576) : rightL (ofL l) = true := by
  unfold rightL
  have := ofL_len l
  simp only [Bool.and_eq_true, decide_eq_true_eq]
  exact ⟨ofL_rises l, by omega⟩
theorem ofL_rev (l : List Pr) : ofL l.reverse = ofL l := rises_ext (ofL_rises _) (ofL_rises _) fun p => by rw [ofL_mem, ofL_mem]; simp
theorem turn_turn (p : Pr) : turnP (turnP p) = p := rfl
theorem turn_mem (l : List Pr) (p : Pr) : p ∈ ofL ((ofL l).map turnP) ↔ turnP p ∈ l := by
  rw [ofL_mem, List.mem_map]
  constructor
  · rintro ⟨q, hq, rfl⟩
    rw [turn_turn]
    exact (ofL_mem l q).1 hq
  · intro h
    exact ⟨turnP p, (ofL_mem l _).2 h, turn_turn p⟩
theorem turn_back (l : List Pr) : ofL ((ofL ((ofL l).map turnP)).map turnP) = ofL l := rises_ext (ofL_rises _) (ofL_rises _) fun p => by
  rw [ofL_mem, List.mem_map, ofL_mem]
  constructor
  · rintro ⟨q, hq, rfl⟩
    exact (turn_mem l q).1 hq
  · intro h
    exact ⟨turnP p, (turn_mem l _).2 (by rw [turn_turn]; exact h), turn_turn p⟩
theorem lt_irr (p : Pr) : ¬ lt p p := by unfold lt; omega
theorem rises_nodup {l : List Pr} (h : Rises l) : l.Nodup := by
  unfold List.Nodup
  exact List.Pairwise.imp (fun {a b} hab e => by subst e; exact lt_irr _ hab) h
theorem turn_len (l : List Pr) : (ofL ((ofL l).map turnP)).length = (ofL l).length := by
  have h1 := rises_nodup (ofL_rises ((ofL l).map turnP))
  have h2 : ((ofL l).map turnP).Nodup := by
    unfold List.Nodup
    rw [List.pairwise_map]
    exact List.Pairwise.imp (fun {a b} hab e => hab (by have := congrArg turnP e; simpa [turn_turn] using this)) (rises_nodup (ofL_rises l))
  have p := (List.perm_ext_iff_of_nodup h1 h2).2 fun a => ofL_mem _ a
  rw [p.length_eq, List.length_map]
end Go.Proofs.Ytlkdkhmdmgchbaa
