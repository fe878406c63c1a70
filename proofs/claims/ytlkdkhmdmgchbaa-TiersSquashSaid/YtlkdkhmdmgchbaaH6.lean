/- the program's tiers: one, Check. -/
import Derived.Test.YtlkdkhmdmgchbaaH5
namespace Go.Proofs.Ytlkdkhmdmgchbaa
set_option linter.unusedSimpArgs false
set_option linter.unusedVariables false
open Go.RowKit

set_option maxRecDepth 100000 in
set_option maxHeartbeats 2000000 in
/-- tiers.one. -/
theorem pone_any (vA vD : Value) (t : Tr) (w : World) (h : TPair w vA vD t) (hlen : t.1.length + t.2.length ≤ 1048576) : Calls Try.prog 137 #[.agg #[vA, vD]] w fun e w' => e = .returned (.bool (oneL t)) ∧ Below w.heap.size w w' := by
  have MT := hid (fun W (B : Below w.heap.size w W) => meet_any W vA vD t.1 t.2 (h.1.below B) (h.2.below B) hlen)
  have KB := hid (fun (h1 : Rises t.1) (h2 : Rises t.2) => keptH_both h1 h2)
  obtain ⟨pa, ka, rfl⟩ := h.1.form
  obtain ⟨pb, kb, rfl⟩ := h.2.form
  clear h hlen
  have EO : Hid (oneL t = ((rightL t.1 && rightL t.2) && decide ((keptH (fun x y => x && y) t.1 t.2).length = 0))) := by
    show _ = _
    unfold oneL
    cases h1 : rightL t.1 with
    | false => rfl
    | true =>
      cases h2 : rightL t.2 with
      | false => rfl
      | true =>
        unfold rightL at h1 h2
        simp only [Bool.and_eq_true, decide_eq_true_eq] at h1 h2
        simp only [KB.out h1.1 h2.1]
  rw [EO.out]
  clear EO KB
  obtain ⟨res, hres⟩ : ∃ res, ((rightL t.1 && rightL t.2) && decide ((keptH (fun x y => x && y) t.1 t.2).length = 0)) = res := ⟨_, rfl⟩
  rw [hres]
  have HR := hid hres; clear hres
  go_enter Try.func137, Try.ntmps137
  go_wp2_with fail
  refine (MT.out _ ?_).mono ?_
  · repeat' (first | exact Below.refl _ _ | with_reducible refine Below.alloc ?_ ?_ _ | with_reducible refine Below.setCell ?_ ?_ _ | with_reducible refine Below.drew ?_ | with_reducible refine below_drewN ?_ _ | refine Below.trans ?_ (Below.mono (by assumption) ?_))
    all_goals (first | omega | (simp <;> omega))
  rintro e w1 ⟨k1, k2, k3⟩
  have K1 : Hid (Below w.heap.size w w1) := by
    show Below _ _ _
    refine Below.trans ?_ (k1.mono (by simp <;> omega))
    repeat' (first | exact Below.refl _ _ | with_reducible refine Below.alloc ?_ ?_ _ | with_reducible refine Below.setCell ?_ ?_ _ | with_reducible refine Below.drew ?_ | with_reducible refine below_drewN ?_ _ | refine Below.trans ?_ (Below.mono (by assumption) ?_))
    all_goals (first | omega | (simp <;> omega))
  have K2 := hid k2; have K3 := hid k3
  clear k1 k2 k3 MT
  generalize keptH (fun x y => x && y) t.1 t.2 = q at *
  cases hr : (rightL t.1 && rightL t.2) with
  | false =>
    rw [hr] at K2 K3
    obtain rfl := K2.out rfl
    rw [hr] at HR
    clear K2 K3 hr
    go_wp2_with fail
    go_ret
    exact ⟨by rw [← HR.out]; rfl, K1.out⟩
  | true =>
    rw [hr] at K2 K3
    obtain ⟨v, rfl, own⟩ := K3.out rfl
    obtain ⟨pq, kq, rfl⟩ := own.row.form
    rw [hr] at HR
    clear K2 K3 hr own
    by_cases hq : q.length = 0
    · have h1 : ((q.length : Int) == 0) = true := by simpa using hq
      rw [decide_eq_true hq] at HR
      clear hq
      go_wp2_with fail
      go_ret
      exact ⟨by rw [← HR.out]; rfl, K1.out⟩
    · have h1 : ((q.length : Int) == 0) = false := by simpa using hq
      rw [decide_eq_false hq] at HR
      clear hq
      go_wp2_with fail
      go_ret
      exact ⟨by rw [← HR.out]; rfl, K1.out⟩
theorem notone_any (vA vD : Value) (t : Tr) (w : World) (h : TPair w vA vD t) (hlen : t.1.length + t.2.length ≤ 1048576) : Calls Try.prog 142 #[.agg #[vA, vD]] w fun e w' => e = .returned (.bool (!oneL t)) ∧ Below w.heap.size w w' := by
  have MT := hid (fun W (B : Below w.heap.size w W) => pone_any vA vD t W (h.below B) hlen)
  obtain ⟨pa, ka, rfl⟩ := h.1.form
  obtain ⟨pb, kb, rfl⟩ := h.2.form
  clear h hlen
  go_enter Try.func142, Try.ntmps142
  go_wp2_with fail
  refine (MT.out _ ?_).mono ?_
  · repeat' (first | exact Below.refl _ _ | with_reducible refine Below.alloc ?_ ?_ _ | with_reducible refine Below.setCell ?_ ?_ _ | with_reducible refine Below.drew ?_ | with_reducible refine below_drewN ?_ _ | refine Below.trans ?_ (Below.mono (by assumption) ?_))
    all_goals (first | omega | (simp <;> omega))
  rintro e w1 ⟨rfl, B⟩
  have K1 : Hid (Below w.heap.size w w1) := by
    show Below _ _ _
    refine Below.trans ?_ (B.mono (by simp <;> omega))
    repeat' (first | exact Below.refl _ _ | with_reducible refine Below.alloc ?_ ?_ _ | with_reducible refine Below.setCell ?_ ?_ _ | with_reducible refine Below.drew ?_ | with_reducible refine below_drewN ?_ _ | refine Below.trans ?_ (Below.mono (by assumption) ?_))
    all_goals (first | omega | (simp <;> omega))
  clear MT B
  go_wp2_with fail
  go_ret
  exact ⟨rfl, K1.out⟩

def IxPost (w : World) (l : List Tr) (e : Ending) (w' : World) : Prop := (∃ r : Int, e = .returned (.int .i64 (r)) ∧ -1 ≤ r ∧ (if l.all oneL then r = -1 else 0 ≤ r)) ∧ Below w.heap.size w w'
set_option maxRecDepth 100000 in
set_option maxHeartbeats 2000000 in
theorem index_any (v : Value) (l : List Tr) (w : World) (h : TRow w v l) (hs : ∀ t ∈ l, t.1.length + t.2.length ≤ 1048576) : Calls Try.prog 162 #[v, .func (.func 142) #[] #[]] w (IxPost w l) := by
  have HL := h.len
  obtain ⟨p, cap, rfl⟩ := h.form
  have H := hid h; clear h
  have HS := hid hs; clear hs
  go_enter Try.func162, Try.ntmps162
  go_wp2_with fail
  go_loopw [8] (fun v8 wr => ∃ k : Nat, v8 = (.int .i64 (k)) ∧ k ≤ l.length ∧ Hid ((l.take k).all oneL = true) ∧ Hid (Below w.heap.size w wr)) (fun v8 _ => l.length - (intOf v8).toNat)
  case atStart => exact ⟨0, rfl, Nat.zero_le _, rfl, Below.refl _ _⟩
  case round =>
    obtain ⟨k, rfl, hk, AL, BEL⟩ := hrel
    by_cases hgo : k < l.length
    · have hgo' : (k : Int) < (l.length : Int) := by omega
      have hwk : IntKind.i64.wrap ((k : Int) + 1) = ((k + 1 : Nat) : Int) := by rw [i64_ok _ (by omega) (by omega)]; omega
      obtain ⟨g, o, cap', hv, hcell⟩ := (H.out.below BEL.out).cell (by omega)
      simp only [Value.slice.injEq] at hv
      obtain ⟨hv, -, -⟩ := hv
      subst hv
      obtain ⟨vA, vD, d0, d1, hT⟩ := hcell k hgo
      have hmem := HS.out _ (List.getElem_mem hgo)
      have ts : Hid (l.take (k + 1) = l.take k ++ [l[k]]) := List.take_succ_eq_append_getElem hgo
      have MEM : Hid (l[k] ∈ l) := List.getElem_mem hgo
      obtain ⟨t, ht⟩ : ∃ t, l[k] = t := ⟨_, rfl⟩
      rw [ht] at hT hmem ts MEM
      clear ht hcell
      have CT := hid (fun W (B : Below wr.heap.size wr W) => notone_any vA vD t W (hT.below B) hmem)
      clear hT hmem
      go_wp2_with fail
      refine (CT.out _ (Below.refl _ _)).mono ?_
      rintro e w1 ⟨rfl, B⟩
      have BEL1 := hid (bel_step BEL.out B)
      clear B CT d0 d1
      cases ho : oneL t with
      | true =>
        have AL1 : Hid ((l.take (k + 1)).all oneL = true) := by
          show _ = _
          rw [ts.out, List.all_append, AL.out]
          simp [ho]
        clear ho ts
        go_wp2_with fail
        exact ⟨⟨k + 1, by simp, hgo, AL1, BEL1⟩, by simp [intOf]; omega⟩
      | false =>
        have HO := hid ho; clear ho
        go_wp2_with fail
        (try rw [Exit.noGoto_ret]); go_ret
        refine ⟨⟨(k : Int), rfl, by omega, ?_⟩, BEL1.out⟩
        have : l.all oneL = false := by
          rw [List.all_eq_false]
          exact ⟨t, MEM.out, by rw [HO.out]; simp⟩
        rw [this]
        simp
    · obtain rfl : k = l.length := by omega
      have h1 : ¬ (l.length : Int) < (l.length : Int) := by omega
      go_wp2_with fail
      (try rw [Exit.noGoto_ret]); go_ret
      refine ⟨⟨-1, rfl, by omega, ?_⟩, BEL.out⟩
      have := AL.out
      rw [List.take_length] at this
      rw [this]
      simp
set_option maxRecDepth 100000 in
theorem contains_any (v : Value) (l : List Tr) (w : World) (h : TRow w v l) (hs : ∀ t ∈ l, t.1.length + t.2.length ≤ 1048576) : Calls Try.prog 141 #[v, .func (.func 142) #[] #[]] w fun e w' => e = .returned (.bool (!l.all oneL)) ∧ Below w.heap.size w w' := by
  have IX := hid (index_any v l w h hs)
  obtain ⟨p, cap, rfl⟩ := h.form
  clear h hs
  go_enter Try.func141, Try.ntmps141
  go_wp2_with fail
  refine IX.out.mono ?_
  rintro e w1 ⟨⟨r, rfl, h0, h1⟩, B⟩
  have B1 := hid B
  clear IX B
  cases ha : l.all oneL with
  | true =>
    rw [ha] at h1
    simp only [if_true] at h1
    subst h1
    have HA := hid ha
    clear ha h0
    go_wp2_with fail
    go_ret
    exact ⟨by rw [HA.out]; rfl, B1.out⟩
  | false =>
    rw [ha] at h1
    simp only [Bool.false_eq_true, if_false] at h1
    have HA := hid ha
    clear ha h0
    go_wp2_with fail
    go_ret
    exact ⟨by rw [HA.out]; rfl, B1.out⟩
set_option maxRecDepth 100000 in
/-- tiers.Check. -/
theorem tcheck_any (v : Value) (l : List Tr) (w : World) (h : TRow w v l) (hs : ∀ t ∈ l, t.1.length + t.2.length ≤ 1048576) (hl : l.length ≤ 24) : Calls Try.prog 87 #[v] w fun e w' => e = .returned (errno (l.all oneL) 210) ∧ Below w.heap.size w w' := by
  have CT := hid (contains_any v l w h hs)
  have h24 : (l.length : Int) ≤ 24 := by omega
  obtain ⟨p, cap, rfl⟩ := h.form
  clear h hs hl
  generalize l.all oneL = al at CT ⊢
  go_enter Try.func87, Try.ntmps87
  go_wp2_with fail
  refine CT.out.mono ?_
  rintro e w1 ⟨rfl, B⟩
  have B1 := hid B
  clear CT B
  cases al
  all_goals
    go_wp2_with fail
    go_ret
    exact ⟨rfl, B1.out⟩
end Go.Proofs.Ytlkdkhmdmgchbaa
