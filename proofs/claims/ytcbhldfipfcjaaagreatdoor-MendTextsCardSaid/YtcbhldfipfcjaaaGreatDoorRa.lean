/- The specification's small functions. -/
import Derived.Test.YtcbhldfipfcjaaaGreatDoorY6

namespace Go.Proofs.YtcbhldfipfcjaaaGreatDoor
open Go Go.RowKit Go.Shelf
set_option maxRecDepth 100000

set_option maxHeartbeats 1000000 in
theorem sameInts_calls (n0 : Nat) (A B : Option Addr) (ca cb : Nat) (xs ys : List Int) (w : World) (hx : RowC w n0 A (xs.map (Value.int .i64))) (hy : RowC w n0 B (ys.map (Value.int .i64))) (hn : n0 ≤ w.heap.size) :
    Calls Tryz.prog 37 #[.slice A xs.length ca, .slice B ys.length cb] w fun e w' => e = .returned (.bool (decide (xs = ys))) ∧ Below w.heap.size w w' := by
  have hxl : xs.length ≤ 9223372036854775807 := by simpa using hx.1
  by_cases hl : xs.length = ys.length
  · have hli : (xs.length : Int) = (ys.length : Int) := by omega
    rw [← hl]
    go_enter Tryz.func37, Tryz.ntmps37
    go_wp2
    go_loopw [5] (fun c wr => ∃ i : Nat, i ≤ xs.length ∧ c = .int .i64 (i : Int) ∧ xs.take i = ys.take i ∧ Below w.heap.size w wr) (fun c _ => xs.length - (intOf c).toNat)
    case atStart => exact ⟨0, Nat.zero_le _, rfl, rfl, Below.refl _ _⟩
    case round =>
      obtain ⟨i, hi, rfl, heq, hbe⟩ := hrel
      by_cases hlt : i < xs.length
      · have hlt2 : i < ys.length := by omega
        obtain ⟨b, o, rfl, hbk, hc⟩ := (hx.below (hbe.mono hn)).at_ i (by simpa using hlt)
        obtain ⟨b2, o2, rfl, hbk2, hc2⟩ := (hy.below (hbe.mono hn)).at_ i (by simpa using hlt2)
        simp only [List.getElem_map] at hc hc2
        have hil : (i : Int) < (xs.length : Int) := by omega
        have hi0 : (0 : Int) ≤ (i : Int) := by omega
        have hadd : IntKind.i64.wrap ((i : Int) + 1) = (i : Int) + 1 := IntWalk.i64_in _ (by omega)
        have htx : xs[i] = ys[i] → xs.take (i + 1) = ys.take (i + 1) := fun h => by
          rw [List.take_succ_eq_append_getElem hlt, List.take_succ_eq_append_getElem hlt2, heq, h]
        have hnx : xs[i] ≠ ys[i] → xs ≠ ys := fun h e => h (by subst e; rfl)
        have HT := Lib.hid htx
        have HN := Lib.hid hnx
        have hs1 := hbe.size
        have HBE := Lib.hid hbe
        have hb1 : b < wr.heap.size := by omega
        have hb2 : b2 < wr.heap.size := by omega
        clear htx hnx heq hbe
        generalize xs[i] = x at *
        generalize ys[i] = y at *
        go_wp2_with fail
        refine wp_region_rg (Below wr.heap.size) (fun _ => .fn) (by kernel_rfl) (by kernel_rfl) (Below.refl _) belowR (fun _ => trivial) ?_
        iterate 9 (refine rg_step fun K hK => ?_; apply rg_fn rfl; (intro w4 hw; have hc := below_cells (undrew hw); go_simp; try rfl); go_simp; (try with_reducible refine hK _ _ ?_); try clear hK K)
        refine rg_nil ?_
        intro w5 hw5 _
        have HB5 := Lib.hid (HBE.out.trans ((undrew hw5).mono hs1))
        clear hw5
        by_cases he : x = y
        · subst he
          go_wp2_with fail
          exact ⟨⟨i + 1, by omega, by simp, HT.out trivial, HB5.out⟩, by simp [intOf]; omega⟩
        · go_wp2_with fail
          go_ret
          exact ⟨by simp [HN.out he], HB5.out⟩
      · have hin : i = xs.length := by omega
        have hxy : xs = ys := by
          rw [hin, List.take_length, hl, List.take_length] at heq
          exact heq
        have hnil : ¬ (i : Int) < (xs.length : Int) := by omega
        have HXY := Lib.hid hxy
        have HBE := Lib.hid hbe
        clear heq hxy hbe
        go_wp2_with fail
        go_ret
        exact ⟨by simp [HXY.out], HBE.out⟩
  · have hli : ¬ (xs.length : Int) = (ys.length : Int) := by omega
    have hne : xs ≠ ys := fun e => hl (by rw [e])
    go_enter Tryz.func37, Tryz.ntmps37
    go_wp2
    go_ret
    exact ⟨by simp [hne], Below.refl _ _⟩

def beforeB (xs ys : List Int) : Bool := decide (lexI xs ys < 0)
end Go.Proofs.YtcbhldfipfcjaaaGreatDoor
