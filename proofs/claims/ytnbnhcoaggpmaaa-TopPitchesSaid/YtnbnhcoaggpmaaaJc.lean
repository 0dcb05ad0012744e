/- Roofs: edges' ends, what two edges share, an opening's box, points of the plan. -/
import Derived.Test.YtnbnhcoaggpmaaaJb

namespace Go.Proofs.Ytnbnhcoaggpmaaa
open Go Go.RowKit Go.Shelf
set_option maxRecDepth 100000
attribute [local go_sem] Oper.semAt_some

theorem rin_any (n l h : Int) (w : World) : Calls Try.prog 30 #[.int .i64 n, .int .i64 l, .int .i64 h] w (BoolP w) := by
  refine (rin_calls n l h w).mono ?_
  rintro e w' ⟨rfl, rfl⟩
  exact ⟨⟨_, rfl⟩, Below.refl _ _⟩
theorem cmp_any (x y : Int) (w : World) : Calls Try.prog 46 #[.int .i64 x, .int .i64 y] w (IntP w) := by
  refine (compareInt_calls x y w).mono ?_
  rintro e w' ⟨rfl, rfl⟩
  exact ⟨⟨_, rfl⟩, Below.refl _ _⟩
theorem planned_calls (x y : Int) (w : World) : Calls Try.prog 33 #[.agg #[.int .i64 x, .int .i64 y]] w (BoolP w) := by
  obtain ⟨W, hW⟩ : ∃ W, W = w.alloc (.cells #[.int .i64 x, .int .i64 y] 55) := ⟨_, rfl⟩
  have hb : Below w.heap.size w W := by rw [hW]; exact below1 _ _
  have hg : W.heap[w.heap.size]? = some (.cells #[.int .i64 x, .int .i64 y] 55 (0, 0)) := by rw [hW]; exact heap_alloc_self _ _
  have hz : W.heap.size = w.heap.size + 1 := by rw [hW]; simp
  go_enter Try.func33, Try.ntmps33
  go_wp2_with fail
  rw [← hW]
  refine (rin_any _ _ _ W).mono ?_
  rintro e W1 ⟨⟨q, rfl⟩, hb1⟩
  have hg1 := blk_below hb1 hg (by omega)
  have y1 : W1.cell? ⟨w.heap.size, 1, none⟩ = some (.int .i64 y) := by rw [cell_blk hg1]; rfl
  have HB := Lib.hid (hb.trans (hb1.mono (by omega)))
  clear hW hb hg hz hb1 hg1
  cases q
  · go_wp2_with fail
    go_ret
    exact ⟨⟨_, rfl⟩, HB.out⟩
  · go_wp2_with fail
    refine (rin_any _ _ _ W1).mono ?_
    rintro e W2 ⟨⟨q, rfl⟩, hb2⟩
    have HB2 := Lib.hid (HB.out.trans (hb2.mono HB.out.size))
    clear hb2
    go_wp2_with fail
    go_ret
    exact ⟨⟨_, rfl⟩, HB2.out⟩
theorem ends_calls (a b c d : Int) (w : World) : Calls Try.prog 13 #[.agg #[.int .i64 a, .int .i64 b, .int .i64 c, .int .i64 d]] w (SideP w) := by
  obtain ⟨W, hW⟩ : ∃ W, W = (w.alloc (.cells #[.int .i64 a, .int .i64 b, .int .i64 c, .int .i64 d] 65)).alloc (.cells #[.int .i64 0, .int .i64 0, .int .i64 0, .int .i64 0] 65) := ⟨_, rfl⟩
  have hb : Below w.heap.size w W := by rw [hW]; exact two_allocs _ _ _
  have hg0 : W.heap[w.heap.size]? = some (.cells #[.int .i64 a, .int .i64 b, .int .i64 c, .int .i64 d] 65 (0, 0)) := by
    rw [hW]
    exact blk_below (below1 _ _) (heap_alloc_self _ _) (by simp)
  have hg1 : W.heap[w.heap.size + 1]? = some (.cells #[.int .i64 0, .int .i64 0, .int .i64 0, .int .i64 0] 65 (0, 0)) := by rw [hW]; exact heap_alloc_two _ _ _
  have hz : W.heap.size = w.heap.size + 2 := by rw [hW]; simp
  have hq : ∀ w4, Grows W w4 → w4.cell? ⟨w.heap.size, 0, none⟩ = some (.int .i64 a) ∧ w4.cell? ⟨w.heap.size, 1, none⟩ = some (.int .i64 b) ∧ w4.cell? ⟨w.heap.size, 2, none⟩ = some (.int .i64 c) ∧ w4.cell? ⟨w.heap.size, 3, none⟩ = some (.int .i64 d) := fun w4 hw => by
    have h0 := blk_below hw hg0 (lt_blk hg0)
    exact ⟨by rw [cell_blk h0]; rfl, by rw [cell_blk h0]; rfl, by rw [cell_blk h0]; rfl, by rw [cell_blk h0]; rfl⟩
  have hend : ∀ W5 x0 x1 x2 x3, Below W.heap.size W W5 → (((((W5.setCell ⟨w.heap.size + 1, 0, none⟩ (.int .i64 x0)).setCell ⟨w.heap.size + 1, 1, none⟩ (.int .i64 x1)).setCell ⟨w.heap.size + 1, 2, none⟩ (.int .i64 x2)).setCell ⟨w.heap.size + 1, 3, none⟩ (.int .i64 x3)).heap[w.heap.size + 1]? = some (.cells #[.int .i64 x0, .int .i64 x1, .int .i64 x2, .int .i64 x3] 65 (0, 0))) ∧
      Below w.heap.size w ((((W5.setCell ⟨w.heap.size + 1, 0, none⟩ (.int .i64 x0)).setCell ⟨w.heap.size + 1, 1, none⟩ (.int .i64 x1)).setCell ⟨w.heap.size + 1, 2, none⟩ (.int .i64 x2)).setCell ⟨w.heap.size + 1, 3, none⟩ (.int .i64 x3)) := fun W5 x0 x1 x2 x3 h5 => by
    have h1 := blk_below h5 hg1 (lt_blk hg1)
    have hbb := hb.trans (h5.mono (by omega))
    refine ⟨by rw [heap_set (heap_set (heap_set (heap_set h1 0 _) 1 _) 2 _) 3 _]; rfl, ?_⟩
    exact (((hbb.setCell (p := ⟨w.heap.size + 1, 0, none⟩) (Nat.le_succ _) _).setCell (p := ⟨w.heap.size + 1, 1, none⟩) (Nat.le_succ _) _).setCell (p := ⟨w.heap.size + 1, 2, none⟩) (Nat.le_succ _) _).setCell (p := ⟨w.heap.size + 1, 3, none⟩) (Nat.le_succ _) _
  have hcl : ∀ W5, Below W.heap.size W W5 → (W5.cell? ⟨w.heap.size + 1, 0, none⟩ = some (.int .i64 0) ∧ W5.cell? ⟨w.heap.size + 1, 1, none⟩ = some (.int .i64 0) ∧ W5.cell? ⟨w.heap.size + 1, 2, none⟩ = some (.int .i64 0) ∧ W5.cell? ⟨w.heap.size + 1, 3, none⟩ = some (.int .i64 0)) ∧ ∀ i, W5.frozen? ⟨w.heap.size + 1, i, none⟩ = false := fun W5 h5 => by
    have h1 := blk_below h5 hg1 (lt_blk hg1)
    exact ⟨⟨by rw [cell_blk h1]; rfl, by rw [cell_blk h1]; rfl, by rw [cell_blk h1]; rfl, by rw [cell_blk h1]; rfl⟩, frozen_blk h1⟩
  have HQ := Lib.hid hq
  have HEND := Lib.hid hend
  have HCL := Lib.hid hcl
  clear hq hend hcl hb hg0 hg1 hz
  go_enter Try.func13, Try.ntmps13
  go_wp2_with fail
  rw [← hW]
  clear hW
  refine wp_region_rg_tail 14 Grows (fun | 6 => .any intW (fun _ _ _ => True) | 13 => .any intW (fun _ _ _ => True) | _ => .fn) (by kernel_rfl) (by kernel_rfl) Grows.refl growsT (by intro i; split <;> first | trivial | exact fun _ _ _ _ _ _ => trivial) ?_
  iterate 6 (refine rg_step fun K hK => ?_; apply rg_fn rfl; (intro w4 hw; obtain ⟨x0, x1, x2, x3⟩ := HQ.out w4 hw.undrew; go_simp; try rfl); go_simp; (try with_reducible refine hK _ _ ?_); try clear hK K)
  refine rg_step fun K hK => ?_
  apply rg_call_any (.inl rfl) rfl
  · intro w4 hw
    go_simp
    exact ⟨rfl, rfl⟩
  · intro w4 hw
    refine (cmp_any _ _ w4).mono ?_
    rintro e w5 ⟨⟨n6, rfl⟩, hb⟩
    exact ⟨_, rfl, hb, ⟨n6, rfl⟩, trivial⟩
  rintro v5 ⟨n6, rfl⟩
  go_simp
  (try with_reducible refine hK _ _ ?_)
  try clear hK K
  iterate 6 (refine rg_step fun K hK => ?_; apply rg_fn rfl; (intro w4 hw; obtain ⟨x0, x1, x2, x3⟩ := HQ.out w4 hw.undrew; go_simp; try rfl); go_simp; (try with_reducible refine hK _ _ ?_); try clear hK K)
  refine rg_step fun K hK => ?_
  apply rg_call_any (.inl rfl) rfl
  · intro w4 hw
    go_simp
    exact ⟨rfl, rfl⟩
  · intro w4 hw
    refine (cmp_any _ _ w4).mono ?_
    rintro e w5 ⟨⟨n7, rfl⟩, hb⟩
    exact ⟨_, rfl, hb, ⟨n7, rfl⟩, trivial⟩
  rintro v5 ⟨n7, rfl⟩
  go_simp
  (try with_reducible refine hK _ _ ?_)
  try clear hK K
  refine rg_nil ?_
  intro w5 hw5 _
  replace hw5 := hw5.undrew
  simp only [List.drop_succ_cons, List.drop_zero]
  have hor := or_calls (w5.heap.size + 1) (some ⟨w5.heap.size, 0, none⟩) 2 [n6, n7] (w5.alloc (.cells #[.int .i64 n6, .int .i64 n7] 3)) (rowC_two _ _ _) (by simp)
  have hb6 : Below W.heap.size W (w5.alloc (.cells #[.int .i64 n6, .int .i64 n7] 3)) := hw5.trans ((below1 w5 _).mono hw5.size)
  have HB6 := Lib.hid hb6
  have HOR := Lib.hid hor
  clear hw5 hb6 hor
  go_wp2_with fail
  refine HOR.out.mono ?_
  rintro e w6 ⟨rfl, rfl⟩
  obtain ⟨x0, x1, x2, x3⟩ := HQ.out _ HB6.out
  obtain ⟨⟨y0, y1, y2, y3⟩, fy⟩ := HCL.out _ HB6.out
  have HE := fun x0 x1 x2 x3 => Lib.hid (HEND.out _ x0 x1 x2 x3 HB6.out)
  generalize orL [n6, n7] = r at *
  generalize w5.alloc (.cells #[.int .i64 n6, .int .i64 n7] 3) = w6 at *
  by_cases hr : r > 0
  · go_wp2_with fail
    exact bodyPost_ret (results_cell_row (by rfl) _ _ (w.heap.size + 1) 65 _ (0, 0) _ (by rfl) (HE _ _ _ _).out.1 Try.underlying65 (by rfl) infoSide) (by rfl) ⟨⟨_, _, _, _, rfl⟩, (HE _ _ _ _).out.2⟩
  · go_wp2_with fail
    exact bodyPost_ret (results_cell_row (by rfl) _ _ (w.heap.size + 1) 65 _ (0, 0) _ (by rfl) (HE _ _ _ _).out.1 Try.underlying65 (by rfl) infoSide) (by rfl) ⟨⟨_, _, _, _, rfl⟩, (HE _ _ _ _).out.2⟩
end Go.Proofs.Ytnbnhcoaggpmaaa
