/- the law WideTexts: its walk. -/
import Derived.Test.YtdpcfpmlkhdmkaaDoorR10
namespace Go.Proofs.YtdpcfpmlkhdmkaaDoor
open Go.RowKit

/-- the slice reads as these texts. -/
def SRow (w : World) (v : Value) (l : List ByteArray) : Prop :=
  ∃ p cap, v = .slice p l.length cap ∧ (0 < l.length → ∃ g o : Nat, p = some ⟨g, o, none⟩ ∧ ∀ j x, l[j]? = some x → w.cell? ⟨g, o + j, none⟩ = some (.string x))
theorem SRow.below {w w' : World} {v : Value} {l : List ByteArray} (h : SRow w v l) (hb : Below w.heap.size w w') : SRow w' v l := by
  obtain ⟨p, cap, e, h3⟩ := h
  refine ⟨p, cap, e, fun hl => ?_⟩
  obtain ⟨g, o, e, h3⟩ := h3 hl
  exact ⟨g, o, e, fun j x hj => cellB hb (h3 j x hj)⟩
theorem SRow.form {w : World} {v : Value} {l : List ByteArray} (h : SRow w v l) : ∃ p cap, v = .slice p l.length cap := by
  obtain ⟨p, cap, e, _⟩ := h
  exact ⟨p, cap, e⟩
theorem SRow.cell {w : World} {v : Value} {l : List ByteArray} (h : SRow w v l) (hl : 0 < l.length) : ∃ g o cap : Nat, v = .slice (some ⟨g, o, none⟩) l.length cap ∧ ∀ k (hk : k < l.length), w.cell? ⟨g, o + k, none⟩ = some (.string l[k]) := by
  obtain ⟨p, cap, e, hx⟩ := h
  obtain ⟨g, o, rfl, hx'⟩ := hx hl
  exact ⟨g, o, cap, e, fun k hk => hx' k _ (List.getElem?_eq_getElem hk)⟩
theorem ReadPost.got {s : ByteArray} {w : World} {e : Ending} {w' : World} (h : ReadPost s w e w') : Below w.heap.size w w' ∧ ∃ x y c, e = .returned (.tuple #[.agg #[.int .u64 x, .int .u64 y], .int .i64 c]) ∧ ((GoodS s ∧ Got (numOf s.data.toList : Nat) x y c) ∨ (¬ GoodS s ∧ x = 0 ∧ y = 0 ∧ c = 2)) := by
  obtain ⟨g, h⟩ | ⟨g, h, b⟩ := h
  · obtain ⟨b, x, y, c, e, q⟩ := h.got
    exact ⟨b, x, y, c, e, .inl ⟨g, q⟩⟩
  · exact ⟨b, _, _, _, h, .inr ⟨g, rfl, rfl, rfl⟩⟩

set_option maxRecDepth 100000 in
set_option maxHeartbeats 4000000 in
theorem texts_any (v u : Value) (l : List (Int × Int)) (m : List ByteArray) (w : World) (hr : WRow w v l) (hu : WU l) (hs : SRow w u m) (g : One w) (hlen : (l.length : Int) ≤ 9223372036854775807) (hlen2 : (m.length : Int) ≤ 9223372036854775807) :
    Calls Tryd.prog 5 #[v, u] w fun e w' => e = .returned (.bool true) ∧ Below w.heap.size w w' := by
  obtain ⟨pa, ca, rfl⟩ := hr.form
  obtain ⟨pb, cb, rfl⟩ := hs.form
  have HR := hid hr; have HU := hid hu; have HS := hid hs; have HG := hid g
  clear hr hu hs g
  go_enter Tryd.func5, Tryd.ntmps5
  go_wp2_with fail
  ((with_reducible refine (wakes_any _ HG.out).mono ?_); rintro e w1 ⟨rfl, B1⟩)
  have BB1 := hid B1; clear B1
  go_wp2_with fail
  go_loopw [15] (fun v15 wr => ∃ k : Nat, v15 = (.int .i64 (k)) ∧ k ≤ l.length ∧ Hid (Below w.heap.size w wr)) (fun v15 _ => l.length - (intOf v15).toNat)
  case atStart => exact ⟨0, rfl, Nat.zero_le _, BB1⟩
  case round =>
    clear BB1
    obtain ⟨k, rfl, hk, BEL⟩ := hrel
    by_cases hgo : k < l.length
    · have hgo' : (k : Int) < (l.length : Int) := by omega
      have hwk : IntKind.i64.wrap ((k : Int) + 1) = ((k + 1 : Nat) : Int) := by rw [IntWalk.i64_in _ ⟨by omega, by omega⟩]; omega
      obtain ⟨g, o, cap, hv, hcell⟩ := (HR.out.below BEL.out).cell (by omega)
      simp only [Value.slice.injEq] at hv
      obtain ⟨rfl, -, -⟩ := hv
      obtain ⟨d0, d1⟩ := hcell k hgo
      obtain ⟨ua, ub⟩ := HU.out l[k] (List.getElem_mem hgo)
      generalize l[k] = x at *
      obtain ⟨a, b⟩ := x
      simp only at d0 d1 ua ub
      clear hcell
      by_cases h12 : k < 12
      · have h12' : (k : Int) < 12 := by omega
        obtain ⟨n, hn⟩ := Int.eq_ofNat_of_zero_le (W128.lt ua ub).1
        have HN := hid hn; clear hn
        go_wp2_with fail
        have st : A1 w wr.heap.size a b ((wr.alloc (.cells #[(.int .u64 (a)), (.int .u64 (b))] 27)).drew) := ⟨(BEL.out.alloc BEL.out.size _).drew, by go_simp, by go_simp, by simp⟩
        generalize (wr.alloc (.cells #[(.int .u64 (a)), (.int .u64 (b))] 27)) = W0 at *
        generalize wr.heap.size = E at *
        clear d0 d1 BEL
        go_region_held3 (fun w' => Below w.heap.size w w' ∧ w'.cell? ⟨E, 0, none⟩ = some (.int .u64 (a)) ∧ w'.cell? ⟨E, 1, none⟩ = some (.int .u64 (b)) ∧ E < w'.heap.size) (first | assumption | go_keep)
          (first | (go_at_call 25; refine (text_of a b n _ ua ub HN.out).mono ?_; rintro e wa ⟨rfl, B⟩; have hx := A1.keep (by assumption) B; clear B) | (go_at_call 26; refine (reftext_any a b n _ ua ub HN.out).mono ?_; rintro e wb ⟨rfl, B⟩; have hx := A1.keep (by assumption) B; clear B))
        all_goals
          have hz := hid (by assumption : A1 w E a b wb)
          go_wp2_with fail
          exact ⟨⟨k + 1, by simp, hgo, hz.out.1⟩, by simp [intOf]; omega⟩
      · go_wp2_with fail
        have h12' : ¬ (k : Int) < 12 := by omega
        go_region_with (fail)
        all_goals
          go_wp2_with fail
          exact ⟨⟨k + 1, by simp, hgo, (BEL.out.alloc BEL.out.size _).drew⟩, by simp [intOf]; omega⟩
    · have h1' : ¬ (k : Int) < (l.length : Int) := by omega
      clear hgo
      go_wp2_with fail
      go_loopw [32] (fun v32 wr => ∃ k : Nat, v32 = (.int .i64 (k)) ∧ k ≤ m.length ∧ Hid (Below w.heap.size w wr)) (fun v32 _ => m.length - (intOf v32).toNat)
      case atStart => exact ⟨0, rfl, Nat.zero_le _, BEL⟩
      case round =>
        clear BEL hk h1'
        obtain ⟨j, rfl, hk, BEL⟩ := hrel
        by_cases hgo : j < m.length
        · have hgo' : (j : Int) < (m.length : Int) := by omega
          have hwk : IntKind.i64.wrap ((j : Int) + 1) = ((j + 1 : Nat) : Int) := by rw [IntWalk.i64_in _ ⟨by omega, by omega⟩]; omega
          obtain ⟨g, o, cap, hv, hcell⟩ := (HS.out.below BEL.out).cell (by omega)
          simp only [Value.slice.injEq] at hv
          obtain ⟨rfl, -, -⟩ := hv
          have d0 := hcell j hgo
          generalize m[j] = s at *
          clear hcell
          by_cases h12 : j = 12
          · have h12' : ((j : Int) == 12) = true := by rw [beq_iff_eq]; omega
            clear h12
            go_wp2_with fail
            go_ret
            exact ⟨rfl, BEL.out⟩
          · have h12' : ((j : Int) == 12) = false := by rw [beq_eq_false_iff_ne]; omega
            clear h12
            have hsz : (s.extract 0 (min (s.size : Int) 60).toNat).size ≤ 60 := by rw [ByteArray.size_extract]; omega
            go_wp2_with fail
            generalize s.extract 0 (min (s.size : Int) 60).toNat = t at *
            clear d0
            refine (read_any t _).mono ?_
            rintro e w2 hq
            obtain ⟨B, x, y, c, rfl, q⟩ := hq.got
            have GQ := hid q
            have b9 := hid (Bx.new w2 x y 27)
            clear hq q
            replace BEL := hid (bel_step BEL.out B)
            clear B
            have B := below_alloc w2 (.cells #[(.int .u64 (x)), (.int .u64 (y))] 27)
            replace BEL := hid (bel_step BEL.out B)
            clear B
            go_wp2_with fail
            generalize (w2.alloc (.cells #[(.int .u64 (x)), (.int .u64 (y))] 27)) = W3 at *
            generalize w2.heap.size = E at *
            refine (right_any t _ (by omega)).mono ?_
            rintro e w3 ⟨⟨r, rfl, hg⟩, rfl⟩
            cases r with
            | false =>
              obtain ⟨rfl, rfl, rfl⟩ : x = 0 ∧ y = 0 ∧ c = 2 := by
                rcases GQ.out with ⟨h, _⟩ | ⟨_, h⟩
                · exact absurd (hg.2 h) (by simp)
                · exact h
              have st : A1 w E 0 0 W3.drew := ⟨BEL.out.drew, b9.out.1, b9.out.2.1, b9.out.2.2⟩
              clear hg GQ b9 BEL
              go_wp2_with fail
              go_region_held3 (fun w' => Below w.heap.size w w' ∧ w'.cell? ⟨E, 0, none⟩ = some (.int .u64 (0)) ∧ w'.cell? ⟨E, 1, none⟩ = some (.int .u64 (0)) ∧ E < w'.heap.size) (first | assumption | go_keep)
                (first | (go_at_call 13; refine (of_any _ _).mono ?_; rintro e wa ⟨rfl, B⟩; have hx := A1.keep (by assumption) B; clear B))
              all_goals
                have hz := hid (by assumption : A1 w E 0 0 wa)
                go_wp2_with fail
                exact ⟨⟨j + 1, by simp, hgo, hz.out.1⟩, by simp [intOf]; omega⟩
            | true =>
              have GD := hid (hg.1 rfl)
              have GG : Hid (Got (numOf t.data.toList : Nat) x y c) := by
                rcases GQ.out with ⟨_, h⟩ | ⟨h, _⟩
                · exact h
                · exact absurd GD.out h
              have DS : Hid (DigS t) := GD.out.2.2
              have st : A1 w E x y W3.drew := ⟨BEL.out.drew, b9.out.1, b9.out.2.1, b9.out.2.2⟩
              clear hg GQ b9 BEL
              go_wp2_with fail
              go_region_held3 (fun w' => Below w.heap.size w w' ∧ w'.cell? ⟨E, 0, none⟩ = some (.int .u64 (x)) ∧ w'.cell? ⟨E, 1, none⟩ = some (.int .u64 (y)) ∧ E < w'.heap.size) (first | assumption | go_keep)
                (first | (go_at_call 29; refine (refread_any t _ hsz DS.out).mono ?_; rintro e wa ⟨⟨v9, rfl, n9⟩, B⟩; have N9 := hid n9; clear n9; have hx := A1.keep (by assumption) B; clear B) | (go_at_call 15; refine (like_any x y c _ v9 _ GG.out N9.out).mono ?_; rintro e wb ⟨rfl, B⟩; have hx := A1.keep (by assumption) B; clear B))
              all_goals
                have hz := hid (by assumption : A1 w E x y wb)
                go_wp2_with fail
                exact ⟨⟨j + 1, by simp, hgo, hz.out.1⟩, by simp [intOf]; omega⟩
        · have h2' : ¬ (j : Int) < (m.length : Int) := by omega
          clear hgo
          go_wp2_with fail
          go_ret
          exact ⟨rfl, BEL.out⟩
end Go.Proofs.YtdpcfpmlkhdmkaaDoor
