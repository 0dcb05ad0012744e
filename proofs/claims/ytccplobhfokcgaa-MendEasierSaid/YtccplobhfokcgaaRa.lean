/- The specification's small functions. -/
import Derived.Test.YtccplobhfokcgaaMr
namespace Go.Proofs.Ytccplobhfokcgaa
open Go Go.RowKit Go.Shelf
set_option maxRecDepth 100000

set_option maxHeartbeats 1000000 in
theorem sameInts_calls (n0 : Nat) (A B : Option Addr) (ca cb : Nat) (xs ys : List Int) (w : World) (hx : RowC w n0 A (xs.map (Value.int .i64))) (hy : RowC w n0 B (ys.map (Value.int .i64))) (hn : n0 ≤ w.heap.size) :
    Calls Try.prog 49 #[.slice A xs.length ca, .slice B ys.length cb] w fun e w' => e = .returned (.bool (decide (xs = ys))) ∧ Below w.heap.size w w' := by
  have hxl : xs.length ≤ 9223372036854775807 := by simpa using hx.1
  by_cases hl : xs.length = ys.length
  · have hli : (xs.length : Int) = (ys.length : Int) := by omega
    rw [← hl]
    go_enter Try.func49, Try.ntmps49
    go_wp2
    go_loopw [5] (fun c wr => ∃ i : Nat, i ≤ xs.length ∧ c = .int .i64 (i : Int) ∧ xs.take i = ys.take i ∧ Below w.heap.size w wr) (fun c _ => xs.length - (intOf c).toNat)
    case atStart => exact ⟨0, Nat.zero_le _, rfl, rfl, Below.refl _ _⟩
    case round =>
      obtain ⟨i, hi, rfl, heq, hbe⟩ := hrel
      by_cases hlt : i < xs.length
      · have hlt2 : i < ys.length := by omega
        obtain ⟨b, o, rfl, hbk, hc⟩ := (hx.below (hbe.mono hn)).at_ i (by simpa using hlt)
        obtain ⟨b2, o2, rfl, hbk2, hc2⟩ := (hy.below (hbe.mono hn)).at_ i (by simpa using hlt2)
        simp only [List.getElem_map] at hc hc2
        have hil : (i : Int) < (xs.length : Int) := by omega
        have hi0 : (0 : Int) ≤ (i : Int) := by omega
        have hadd : IntKind.i64.wrap ((i : Int) + 1) = (i : Int) + 1 := IntWalk.i64_in _ (by omega)
        have htx : xs[i] = ys[i] → xs.take (i + 1) = ys.take (i + 1) := fun h => by
          rw [List.take_succ_eq_append_getElem hlt, List.take_succ_eq_append_getElem hlt2, heq, h]
        have hnx : xs[i] ≠ ys[i] → xs ≠ ys := fun h e => h (by subst e; rfl)
        have HT := Lib.hid htx
        have HN := Lib.hid hnx
        have hs1 := hbe.size
        have HBE := Lib.hid hbe
        have hb1 : b < wr.heap.size := by omega
        have hb2 : b2 < wr.heap.size := by omega
        clear htx hnx heq hbe
        generalize xs[i] = x at *
        generalize ys[i] = y at *
        go_wp2_with fail
        refine wp_region_rg (Below wr.heap.size) (fun _ => .fn) (by kernel_rfl) (by kernel_rfl) (Below.refl _) belowR (fun _ => trivial) ?_
        iterate 9 (refine rg_step fun K hK => ?_; apply rg_fn rfl; (intro w4 hw; have hc := below_cells (undrew hw); go_simp; try rfl); go_simp; (try with_reducible refine hK _ _ ?_); try clear hK K)
        refine rg_nil ?_
        intro w5 hw5 _
        have HB5 := Lib.hid (HBE.out.trans ((undrew hw5).mono hs1))
        clear hw5
        by_cases he : x = y
        · subst he
          go_wp2_with fail
          exact ⟨⟨i + 1, by omega, by simp, HT.out trivial, HB5.out⟩, by simp [intOf]; omega⟩
        · go_wp2_with fail
          go_ret
          exact ⟨by simp [HN.out he], HB5.out⟩
      · have hin : i = xs.length := by omega
        have hxy : xs = ys := by
          rw [hin, List.take_length, hl, List.take_length] at heq
          exact heq
        have hnil : ¬ (i : Int) < (xs.length : Int) := by omega
        have HXY := Lib.hid hxy
        have HBE := Lib.hid hbe
        clear heq hxy hbe
        go_wp2_with fail
        go_ret
        exact ⟨by simp [HXY.out], HBE.out⟩
  · have hli : ¬ (xs.length : Int) = (ys.length : Int) := by omega
    have hne : xs ≠ ys := fun e => hl (by rw [e])
    go_enter Try.func49, Try.ntmps49
    go_wp2
    go_ret
    exact ⟨by simp [hne], Below.refl _ _⟩

def beforeB (xs ys : List Int) : Bool := decide (lexI xs ys < 0)
set_option maxHeartbeats 1000000 in
theorem before_calls (n0 : Nat) (A B : Option Addr) (ca cb : Nat) (xs ys : List Int) (w : World) (hx : RowC w n0 A (xs.map (Value.int .i64))) (hy : RowC w n0 B (ys.map (Value.int .i64))) (hn : n0 ≤ w.heap.size) (hl : xs.length = ys.length) :
    Calls Try.prog 61 #[.slice A xs.length ca, .slice B xs.length cb] w fun e w' => e = .returned (.bool (beforeB xs ys)) ∧ Below w.heap.size w w' := by
  have hxl : xs.length ≤ 9223372036854775807 := by simpa using hx.1
  go_enter Try.func61, Try.ntmps61
  go_wp2
  go_loopw [5] (fun c wr => ∃ i : Nat, i ≤ xs.length ∧ c = .int .i64 (i : Int) ∧ xs.take i = ys.take i ∧ Below w.heap.size w wr) (fun c _ => xs.length - (intOf c).toNat)
  case atStart => exact ⟨0, Nat.zero_le _, rfl, rfl, Below.refl _ _⟩
  case round =>
    obtain ⟨i, hi, rfl, heq, hbe⟩ := hrel
    by_cases hlt : i < xs.length
    · have hlt2 : i < ys.length := by omega
      obtain ⟨b, o, rfl, hbk, hc⟩ := (hx.below (hbe.mono hn)).at_ i (by simpa using hlt)
      obtain ⟨b2, o2, rfl, hbk2, hc2⟩ := (hy.below (hbe.mono hn)).at_ i (by simpa using hlt2)
      simp only [List.getElem_map] at hc hc2
      have hil : (i : Int) < (xs.length : Int) := by omega
      have hi0 : (0 : Int) ≤ (i : Int) := by omega
      have hadd : IntKind.i64.wrap ((i : Int) + 1) = (i : Int) + 1 := IntWalk.i64_in _ (by omega)
      have htx : xs[i] = ys[i] → xs.take (i + 1) = ys.take (i + 1) := fun h => by
        rw [List.take_succ_eq_append_getElem hlt, List.take_succ_eq_append_getElem hlt2, heq, h]
      have hdx : xs.drop i = xs[i] :: xs.drop (i + 1) := List.drop_eq_getElem_cons hlt
      have hdy : ys.drop i = ys[i] :: ys.drop (i + 1) := List.drop_eq_getElem_cons hlt2
      have hnx : xs[i] ≠ ys[i] → beforeB xs ys = decide (xs[i] < ys[i]) := fun h => by
        unfold beforeB
        rw [lexI_drop xs ys i heq, hdx, hdy, lexI, if_neg (fun e => h (cmpI_eq e))]
        unfold cmpI
        by_cases h1 : xs[i] < ys[i]
        · simp [h1]
        · rw [if_neg h1, if_pos (by omega)]; simp [h1]
      have HT := Lib.hid htx
      have HN := Lib.hid hnx
      have hs1 := hbe.size
      have HBE := Lib.hid hbe
      have hb1 : b < wr.heap.size := by omega
      have hb2 : b2 < wr.heap.size := by omega
      clear htx hnx heq hbe hdx hdy hl
      generalize xs[i] = x at *
      generalize ys[i] = y at *
      go_wp2_with fail
      refine wp_region_rg (Below wr.heap.size) (fun _ => .fn) (by kernel_rfl) (by kernel_rfl) (Below.refl _) belowR (fun _ => trivial) ?_
      iterate 9 (refine rg_step fun K hK => ?_; apply rg_fn rfl; (intro w4 hw; have hc := below_cells (undrew hw); go_simp; try rfl); go_simp; (try with_reducible refine hK _ _ ?_); try clear hK K)
      refine rg_nil ?_
      intro w5 hw5 _
      have hb5 := undrew hw5
      have x5 : w5.cell? ⟨b, o + i, none⟩ = some (.int .i64 x) := (below_cells hb5 _ _ hb1).trans hc
      have y5 : w5.cell? ⟨b2, o2 + i, none⟩ = some (.int .i64 y) := (below_cells hb5 _ _ hb2).trans hc2
      have hs5 := hb5.size
      have hb15 : b < w5.heap.size := by omega
      have hb25 : b2 < w5.heap.size := by omega
      have HB5 := Lib.hid (HBE.out.trans (hb5.mono hs1))
      clear hw5 hb5 hc hc2
      by_cases he : x = y
      · subst he
        go_wp2_with fail
        exact ⟨⟨i + 1, by omega, by simp, HT.out rfl, HB5.out⟩, by simp [intOf]; omega⟩
      · go_wp2_with fail
        refine wp_region_rg (Below w5.heap.size) (fun _ => .fn) (by kernel_rfl) (by kernel_rfl) (Below.refl _) belowR (fun _ => trivial) ?_
        iterate 10 (refine rg_step fun K hK => ?_; apply rg_fn rfl; (intro w4 hw; have hc := below_cells (undrew hw); go_simp; try rfl); go_simp; (try with_reducible refine hK _ _ ?_); try clear hK K)
        refine rg_nil ?_
        intro w6 hw6 _
        have HB6 := Lib.hid (HB5.out.trans ((undrew hw6).mono (by omega)))
        clear hw6
        go_wp2_with fail
        go_ret
        exact ⟨by rw [HN.out he]; rfl, HB6.out⟩
    · have hin : i = xs.length := by omega
      have hz : beforeB xs ys = false := by
        unfold beforeB
        rw [lexI_drop xs ys i heq, hin, List.drop_length, hl, List.drop_length]; rfl
      have hnil : ¬ (i : Int) < (xs.length : Int) := by omega
      have HZ := Lib.hid hz
      have HBE := Lib.hid hbe
      clear heq hz hbe
      go_wp2_with fail
      go_ret
      exact ⟨by rw [HZ.out]; rfl, HBE.out⟩
end Go.Proofs.Ytccplobhfokcgaa
