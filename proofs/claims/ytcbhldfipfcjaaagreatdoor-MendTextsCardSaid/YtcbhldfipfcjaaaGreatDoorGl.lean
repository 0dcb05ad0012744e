/- The law's small functions: Long, SameRows, Great. -/
import Derived.Test.YtcbhldfipfcjaaaGreatDoorLt
import Derived.Test.YtcbhldfipfcjaaaGreatDoorPr
import Derived.Test.YtcbhldfipfcjaaaGreatDoorRb

namespace Go.Proofs.YtcbhldfipfcjaaaGreatDoor
open Go Go.RowKit Go.Shelf
set_option maxRecDepth 100000

def AnyBool (w : World) (e : Ending) (w' : World) : Prop := (∃ g, e = .returned (.bool g)) ∧ Below w.heap.size w w'

set_option maxHeartbeats 2000000 in
theorem sameRows_calls (av bv : Value) (a b : List (List Int)) (w : World) (ha : RowsAt w w.heap.size av a) (hb : RowsAt w w.heap.size bv b) :
    Calls Tryz.prog 14 #[av, bv] w fun e w' => e = .returned (.bool (decide (a = b))) ∧ Below w.heap.size w w' := by
  obtain ⟨pA, pc, rfl, hpl, hpr⟩ := ha
  obtain ⟨qA, qc, rfl, hql, hqr⟩ := hb
  have HPR := Lib.hid hpr
  have HQR := Lib.hid hqr
  clear hpr hqr
  go_enter Tryz.func14, Tryz.ntmps14
  by_cases hl : a.length = b.length
  · have hl1 : ((a.length : Int) != (b.length : Int)) = false := by simp [hl]
    have hl2 : (!((a.length : Int) == (b.length : Int))) = false := by simp [hl]
    have HL := Lib.hid hl
    clear hl
    go_wp2_with fail
    go_loopw [5] (fun c wr => ∃ i : Nat, i ≤ a.length ∧ c = .int .i64 (i : Int) ∧ Hid (a.take i = b.take i) ∧ Hid (Below w.heap.size w wr)) (fun c _ => a.length - (intOf c).toNat)
    case atStart => exact ⟨0, Nat.zero_le _, rfl, Lib.hid rfl, Lib.hid (Below.refl _ _)⟩
    case round =>
      obtain ⟨i, hi, rfl, HT, HB⟩ := hrel
      by_cases hlt : i < a.length
      · have hlt2 : i < b.length := by rw [← HL.out]; exact hlt
        obtain ⟨b1, o1, rfl, hb1, hc1⟩ := HPR.out (by intro e; rw [e] at hlt; simp at hlt)
        obtain ⟨b2, o2, rfl, hb2, hc2⟩ := HQR.out (by intro e; rw [e] at hlt2; simp at hlt2)
        obtain ⟨u1, hu1, rA1, rc1, rfl, hr1⟩ := hc1 i _ (List.getElem?_eq_getElem hlt)
        obtain ⟨u2, hu2, rA2, rc2, rfl, hr2⟩ := hc2 i _ (List.getElem?_eq_getElem hlt2)
        have hil : (i : Int) < (a.length : Int) := by omega
        have hil2 : (i : Int) < (b.length : Int) := by omega
        have hi0 : (0 : Int) ≤ (i : Int) := by omega
        have hadd : IntKind.i64.wrap ((i : Int) + 1) = (i : Int) + 1 := IntWalk.i64_in _ (by omega)
        have htx : a[i] = b[i] → a.take (i + 1) = b.take (i + 1) := fun h => by
          rw [List.take_succ_eq_append_getElem hlt, List.take_succ_eq_append_getElem hlt2, HT.out, h]
        have hnx : a[i] ≠ b[i] → a ≠ b := fun h e => h (by subst e; rfl)
        have HTX := Lib.hid htx
        have HNX := Lib.hid hnx
        clear htx hnx hc1 hc2
        generalize a[i] = x at *
        generalize b[i] = y at *
        have hq : ∀ w4, Grows wr w4 → _ := fun w4 hw4 => And.intro (((HB.out.trans (hw4.mono HB.out.size)).cell (p := ⟨b1, o1 + i, none⟩) hb1).trans hu1) (((HB.out.trans (hw4.mono HB.out.size)).cell (p := ⟨b2, o2 + i, none⟩) hb2).trans hu2)
        have hcall := fun w4 (hw4 : Grows wr w4) => sameInts_calls w.heap.size rA1 rA2 rc1 rc2 x y w4 (hr1.below (HB.out.trans (hw4.mono HB.out.size))) (hr2.below (HB.out.trans (hw4.mono HB.out.size))) (Nat.le_trans HB.out.size (Below.size hw4))
        have HQ := Lib.hid hq
        have HCALL := Lib.hid hcall
        clear hq hcall hu1 hu2 hr1 hr2
        go_wp2_with fail
        refine wp_region_rg Grows (fun | 8 => .ex (.bool (decide (x = y))) | _ => .fn) (by kernel_rfl) (by kernel_rfl) Grows.refl growsT (by intro i; split <;> trivial) ?_
        iterate 8 (refine rg_step fun K hK => ?_; apply rg_fn rfl; (intro w4 hw; obtain ⟨q1, q2⟩ := HQ.out w4 hw.undrew; go_simp; try rfl); go_simp; (try with_reducible refine hK _ _ ?_); try clear hK K)
        refine rg_step fun K hK => ?_
        apply rg_call (.inl rfl) rfl
        · intro w4 hw
          go_simp
          exact ⟨rfl, rfl⟩
        · intro w4 hw
          exact HCALL.out w4 hw.undrew
        go_simp
        (try with_reducible refine hK _ _ ?_)
        try clear hK K
        iterate 1 (refine rg_step fun K hK => ?_; apply rg_fn rfl; (intro w4 hw; go_simp; try rfl); go_simp; (try with_reducible refine hK _ _ ?_); try clear hK K)
        refine rg_nil ?_
        intro w5 hw5 _
        have HB5 := Lib.hid (HB.out.trans (hw5.undrew.mono HB.out.size))
        clear hw5 HQ HCALL
        generalize hdq : decide (x = y) = q at *
        cases q
        · have he : a ≠ b := HNX.out (by simpa using hdq)
          have HE := Lib.hid he
          clear he hdq
          go_wp2_with fail
          go_ret
          exact ⟨by simp [HE.out], HB5.out⟩
        · have he : a.take (i + 1) = b.take (i + 1) := HTX.out (by simpa using hdq)
          have HE := Lib.hid he
          clear he hdq
          go_wp2_with fail
          go_round
          case rel => exact ⟨i + 1, by omega, by go_num, HE, HB5⟩
          case measure => simp [intOf]; omega
      · have hil : ¬ (i : Int) < (a.length : Int) := by omega
        have hab : a = b := by
          have h := HT.out
          rw [show i = a.length by omega, List.take_length, HL.out, List.take_length] at h
          exact h
        have HAB := Lib.hid hab
        clear hab
        go_wp2_with fail
        go_ret
        exact ⟨by simp [HAB.out], HB.out⟩
  · have hl1 : ((a.length : Int) != (b.length : Int)) = true := by simp; omega
    have hl2 : (!((a.length : Int) == (b.length : Int))) = true := by simp; omega
    have hab : a ≠ b := fun e => hl (by rw [e])
    go_wp2_with fail
    go_ret
    exact ⟨by simp [hab], Below.refl _ _⟩
end Go.Proofs.YtcbhldfipfcjaaaGreatDoor
