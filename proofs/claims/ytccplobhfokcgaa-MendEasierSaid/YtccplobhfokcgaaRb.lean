/- The specification's take. -/
import Derived.Test.YtccplobhfokcgaaRa
namespace Go.Proofs.Ytccplobhfokcgaa
open Go Go.RowKit Go.Shelf
set_option maxRecDepth 100000

theorem take_calls (n0 : Nat) (s : Slope) (tA : Option Addr) (tc : Nat) (y : Int) (w : World) (ht : RowC w n0 tA (s.takes.map (Value.int .i64))) (hn : n0 ≤ w.heap.size) (hl : s.takes.length ≤ 12) (hy : 0 ≤ y ∧ y ≤ 40) :
    Calls Try.prog 66 #[.agg #[.int .i64 s.now, .int .i64 s.need, .int .i64 s.full, .int .i64 s.size, .slice tA s.takes.length tc], .int .i64 y] w fun e w' => e = .returned (.int .i64 (if s.takes.length = 0 then 0 else takeOf s y)) ∧ Below w.heap.size w w' := by
  by_cases h0 : s.takes.length = 0
  · rw [if_pos h0, h0]
    go_enter Try.func66, Try.ntmps66
    go_wp2
    go_ret
    exact ⟨rfl, below1 _ _⟩
  · rw [if_neg h0]
    go_enter Try.func66, Try.ntmps66
    have h0i : ¬ (s.takes.length : Int) = 0 := by omega
    obtain ⟨yn, rfl⟩ : ∃ yn : Nat, y = (yn : Int) := ⟨y.toNat, by omega⟩
    have hlt : yn % s.takes.length < s.takes.length := Nat.mod_lt _ (by omega)
    have hmj : (yn : Int).tmod (s.takes.length : Int) = ((yn % s.takes.length : Nat) : Int) := by rw [Int.tmod_eq_emod_of_nonneg (by omega)]; simp
    obtain ⟨b, o, rfl, hbk, hc⟩ := ht.at_ (yn % s.takes.length) (by simpa using hlt)
    simp only [List.getElem_map] at hc
    have hv : takeOf s (yn : Int) = s.takes[yn % s.takes.length] := by simp [takeOf, List.getD_eq_getElem?_getD, List.getElem?_eq_getElem hlt]
    rw [hv]
    have hji : ((yn % s.takes.length : Nat) : Int) < (s.takes.length : Int) := by omega
    have hj0 : (0 : Int) ≤ ((yn % s.takes.length : Nat) : Int) := by omega
    generalize yn % s.takes.length = j at *
    have hwr : IntKind.i64.wrap ((yn : Int).tmod (s.takes.length : Int)) = (j : Int) := by rw [hmj]; exact IntWalk.i64_in _ (by omega)
    have hb1 : b < w.heap.size := by omega
    obtain ⟨W1, hW1⟩ : ∃ W1, W1 = w.alloc (.cells #[.int .i64 s.now, .int .i64 s.need, .int .i64 s.full, .int .i64 s.size, .slice (some ⟨b, o, none⟩) s.takes.length tc] 55) := ⟨_, rfl⟩
    have hB1 : Below w.heap.size w W1 := by rw [hW1]; exact below1 _ _
    have g1 : W1.heap[w.heap.size]? = some (.cells #[.int .i64 s.now, .int .i64 s.need, .int .i64 s.full, .int .i64 s.size, .slice (some ⟨b, o, none⟩) s.takes.length tc] 55 (0, 0)) := by rw [hW1]; exact heap_alloc_self _ _
    have c1 : W1.cell? ⟨w.heap.size, 4, none⟩ = some (.slice (some ⟨b, o, none⟩) s.takes.length tc) := by rw [cell_blk g1]; rfl
    have d1 : W1.cell? ⟨b, o + j, none⟩ = some (.int .i64 s.takes[j]) := (below_cells hB1 _ _ hb1).trans hc
    have z1 : w.heap.size < W1.heap.size := lt_blk g1
    have hb2 : b < W1.heap.size := by omega
    go_wp2_with fail
    rw [← hW1]
    have HB1 := Lib.hid hB1
    clear hW1 hB1 g1 hc
    refine wp_region_rg (Below W1.heap.size) (fun _ => .fn) (by kernel_rfl) (by kernel_rfl) (Below.refl _) belowR (fun _ => trivial) ?_
    iterate 10 (refine rg_step fun K hK => ?_; apply rg_fn rfl; (intro w4 hw; have hc := below_cells (undrew hw); go_simp; try rfl); go_simp; (try with_reducible refine hK _ _ ?_); try clear hK K)
    refine rg_nil ?_
    intro w6 hw6 _
    have HB6 := Lib.hid (HB1.out.trans ((undrew hw6).mono (by omega)))
    go_wp2_with fail
    go_ret
    exact ⟨rfl, HB6.out⟩
end Go.Proofs.Ytccplobhfokcgaa
