/- compare. -/
import Derived.Test.YtnbnhcoaggpmaaaMr
import Derived.Sort.Grow
import Derived.Deep.Draws

namespace Go.Proofs.Ytnbnhcoaggpmaaa
open Go Go.RowKit Go.Shelf Go.Sort
set_option maxRecDepth 100000

/-- Draws and new blocks. -/
def GrowN (a b : World) : Prop := ∃ q os, b = grow (a.drewN q) os
theorem GrowN.refl (a : World) : GrowN a a := ⟨0, #[], by simp [World.drewN]⟩
theorem GrowN.trans : ∀ a b c : World, GrowN a b → GrowN b c → GrowN a c := by
  rintro a b c ⟨q, os, rfl⟩ ⟨q', os', rfl⟩
  refine ⟨q + q', os ++ os', ?_⟩
  rw [← grow_grow]
  simp [grow, World.drewN, Nat.add_assoc]
theorem GrowN.alloc (a : World) (o : Obj) : GrowN a (a.alloc o) := ⟨0, #[o], by rw [alloc_eq_grow]; simp [World.drewN]⟩
theorem GrowN.undrew {a b : World} (h : GrowN a.drew b) : GrowN a b := by
  obtain ⟨q, os, rfl⟩ := h
  exact ⟨1 + q, os, by unfold grow World.drewN World.drew; simp only [Nat.add_assoc]⟩
theorem GrowN.below {a b : World} (h : GrowN a b) : Below a.heap.size a b := by
  obtain ⟨q, os, rfl⟩ := h
  exact ⟨rfl, rfl, rfl, by simp [World.drewN], fun k hk => by simp [grow, World.drewN, Array.getElem?_append, hk]⟩

def thL (s : St) : List Int := [s.a, s.b, s.c, s.d]
theorem arrElem : Try.prog.underlying 3 = some (.int .i64) := Try.underlying3
theorem run_equalIn_four (w : World) (d : Nat) (t : TypeId) (ht : Try.prog.underlying t = some (.array 4 3)) (x0 x1 x2 x3 y0 y1 y2 y3 : Int) :
    (Op.equalIn (d + 2) t (.agg #[.int .i64 x0, .int .i64 x1, .int .i64 x2, .int .i64 x3]) (.agg #[.int .i64 y0, .int .i64 y1, .int .i64 y2, .int .i64 y3])).run Try.prog w = .ok (x0 == y0 && (x1 == y1 && (x2 == y2 && x3 == y3))) w := by
  have hsz : ∀ w, (sizeOf 3).run Try.prog w = .ok 1 w := by intro w; kernel_rfl
  have he := fun a b w => run_equalIn_int (P := Try.prog) w d 3 .i64 .i64 a b Try.underlying3
  rw [Op.equalIn]
  simp only [Sem.run_bind, run_underlying ht, Result.andThen_ok, hsz, Std.Legacy.Range.forIn_eq_forIn_range', Std.Legacy.Range.size, Nat.sub_zero, Nat.add_sub_cancel, Nat.div_one]
  simp only [List.range', List.forIn_cons, List.forIn_nil]
  by_cases h0 : x0 = y0 <;> by_cases h1 : x1 = y1 <;> by_cases h2 : x2 = y2 <;> by_cases h3 : x3 = y3 <;>
    simp [Sem.run_bind, part, isAgg, run_underlying Try.underlying3, he, h0, h1, h2, h3]
def cmpS (a b : St) : Int := if cmpI a.y b.y = 0 then lexI (thL a) (thL b) else cmpI a.y b.y
theorem guardArr : Try.prog.eqGuardType Try.prog.depth 77 = false := by kernel_rfl
theorem lexI_self : ∀ xs : List Int, lexI xs xs = 0
  | [] => rfl
  | x :: xs => by simp [lexI, cmpI_self, lexI_self xs]
theorem orL_two (p q : Int) : orL [p, q] = if p = 0 then q else p := by
  simp only [orL]
  by_cases h : p = 0
  · by_cases k : q = 0 <;> simp [h, k]
  · simp [h]
theorem rowC_box {w : World} {k : Nat} {s : St} (h : w.heap[k]? = some (.cells (stC s).toArray 79 (0, 0))) : RowC w w.heap.size (some ⟨k, 1, none⟩) ((thL s).map (Value.int .i64)) :=
  ⟨by simp [thL], fun _ => ⟨k, 1, rfl, lt_blk h, fun j u hu => by
    rw [cell_blk h]
    rw [Nat.add_comm]
    simpa [thL, stC] using hu⟩⟩
theorem rowC_two (w : World) (x y : Int) : RowC (w.alloc (.cells #[.int .i64 x, .int .i64 y] 3)) (w.heap.size + 1) (some ⟨w.heap.size, 0, none⟩) ([x, y].map (Value.int .i64)) :=
  ⟨by simp, fun _ => ⟨w.heap.size, 0, rfl, Nat.lt_succ_self _, fun j u hu => by
    rw [cell_blk (heap_alloc_self w _)]
    simpa using hu⟩⟩
/-- The fourth part of compare: the years, then the thicknesses. -/
theorem compare_calls (a b : St) (w : World) : Calls Try.prog 54 #[stV a, stV b] w fun e w' => e = .returned (.int .i64 (cmpS a b)) ∧ GrowN w w' := by
  have hgd := guardArr
  have heq : ∀ W, (binOp .eql 77 (.agg #[.int .i64 a.a, .int .i64 a.b, .int .i64 a.c, .int .i64 a.d]) (.agg #[.int .i64 b.a, .int .i64 b.b, .int .i64 b.c, .int .i64 b.d])).run Try.prog W = .ok (.bool (decide (thL a = thL b))) W := by
    intro W
    rw [run_eql_struct, run_equalIn_four W 9998 _ Try.underlying77]
    simp only [Result.andThen_ok]
    congr 2
    rw [Bool.eq_iff_iff]
    simp [thL]
  obtain ⟨W2, hW2⟩ : ∃ W2, W2 = (w.alloc (.cells (stC a).toArray 79)).alloc (.cells (stC b).toArray 79) := ⟨_, rfl⟩
  have hg2 : GrowN w W2 := by rw [hW2]; exact GrowN.trans _ _ _ (GrowN.alloc _ _) (GrowN.alloc _ _)
  have ga : W2.heap[w.heap.size]? = some (.cells (stC a).toArray 79 (0, 0)) := by rw [hW2]; exact (Below.heap_alloc _ _ _ (by simp)).trans (heap_alloc_self _ _)
  have gb : W2.heap[w.heap.size + 1]? = some (.cells (stC b).toArray 79 (0, 0)) := by rw [hW2]; simpa using heap_alloc_self (w.alloc (.cells (stC a).toArray 79)) (.cells (stC b).toArray 79)
  have hq : ∀ w4, GrowN W2 w4 → _ := fun w4 h => And.intro (blk5 (blk_below h.below ga (lt_blk ga))) (And.intro (blk5 (blk_below h.below gb (lt_blk gb))) (And.intro (blk_below h.below ga (lt_blk ga)) (blk_below h.below gb (lt_blk gb))))
  have HQ := Lib.hid hq
  have HG2 := Lib.hid hg2
  have HW2 := Lib.hid hW2
  clear hq hg2 hW2 ga gb
  by_cases hy : a.y = b.y
  · by_cases ht : thL a = thL b
    · have e : cmpS a b = 0 := by unfold cmpS; rw [hy, cmpI_self, if_pos rfl, ht, lexI_self]
      simp only [ht, decide_true] at heq
      go_enter Try.func54, Try.ntmps54
      simp only [stV, hy]
      go_wp2_with fail
      go_ret
      have hw := HG2.out
      rw [HW2.out] at hw
      simp only [stC, hy] at hw
      exact ⟨ret_int (by show (0 : Int) = _; rw [e]), hw⟩
    · simp only [ht, decide_false] at heq
      go_enter Try.func54, Try.ntmps54
      simp only [stV]
      have hd : decide (a.y = b.y) = true := by simpa using hy
      have hd2 : (a.y == b.y) = true := by simpa using hy
      clear hy
      go_wp2_with fail
      rw [show (w.alloc (.cells #[.int .i64 a.y, .int .i64 a.a, .int .i64 a.b, .int .i64 a.c, .int .i64 a.d] 79)).alloc (.cells #[.int .i64 b.y, .int .i64 b.a, .int .i64 b.b, .int .i64 b.c, .int .i64 b.d] 79) = W2 from HW2.out.symm]
      refine wp_region_rg_tail 10 GrowN (fun | 4 => .ex (.int .i64 (cmpI a.y b.y)) | 9 => .ex (.int .i64 (lexI (thL a) (thL b))) | _ => .fn) (by kernel_rfl) (by kernel_rfl) GrowN.refl GrowN.trans (by intro i; split <;> trivial) ?_
      iterate 4 (refine rg_step fun K hK => ?_; apply rg_fn rfl; (intro w4 hw; obtain ⟨⟨p0, p1, p2, p3, p4⟩, ⟨q0, q1, q2, q3, q4⟩, _, _⟩ := HQ.out _ hw.undrew; go_simp; try rfl); go_simp; (try with_reducible refine hK _ _ ?_); try clear hK K)
      refine rg_step fun K hK => ?_
      apply rg_call (.inl rfl) rfl
      · intro w4 hw
        go_simp
        exact ⟨rfl, rfl⟩
      · intro w4 hw
        refine (compareInt_calls a.y b.y w4).mono ?_
        rintro e w5 ⟨he, rfl⟩
        exact ⟨he, GrowN.refl _⟩
      go_simp
      (try with_reducible refine hK _ _ ?_)
      try clear hK K
      iterate 4 (refine rg_step fun K hK => ?_; apply rg_fn rfl; (intro w4 hw; obtain ⟨⟨p0, p1, p2, p3, p4⟩, ⟨q0, q1, q2, q3, q4⟩, _, _⟩ := HQ.out _ hw.undrew; go_simp; try rfl); go_simp; (try with_reducible refine hK _ _ ?_); try clear hK K)
      refine rg_step fun K hK => ?_
      apply rg_call (.inl rfl) rfl
      · intro w4 hw
        go_simp
        exact ⟨rfl, rfl⟩
      · intro w4 hw
        obtain ⟨_, _, hba, hbb⟩ := HQ.out _ hw.undrew
        refine (slicesCompare_calls w4.heap.size (some ⟨w.heap.size, 1, none⟩) (some ⟨w.heap.size + 1, 1, none⟩) 4 4 (thL a) (thL b) w4 (rowC_box hba) (rowC_box hbb) rfl (by simp [thL])).mono ?_
        rintro e w5 ⟨he, rfl⟩
        exact ⟨he, GrowN.refl _⟩
      go_simp
      (try with_reducible refine hK _ _ ?_)
      try clear hK K
      refine rg_nil ?_
      intro w5 hw5 _
      replace hw5 := hw5.undrew
      simp only [List.drop_succ_cons, List.drop_zero]
      have hor := or_calls (w5.heap.size + 1) (some ⟨w5.heap.size, 0, none⟩) 2 [cmpI a.y b.y, lexI (thL a) (thL b)] (w5.alloc (.cells #[.int .i64 (cmpI a.y b.y), .int .i64 (lexI (thL a) (thL b))] 3)) (rowC_two _ _ _) (by simp)
      rw [orL_two, show (if cmpI a.y b.y = 0 then lexI (thL a) (thL b) else cmpI a.y b.y) = cmpS a b from rfl] at hor
      have HF := Lib.hid (GrowN.trans _ _ _ HG2.out (GrowN.trans _ _ _ hw5 (GrowN.alloc w5 (.cells #[.int .i64 (cmpI a.y b.y), .int .i64 (lexI (thL a) (thL b))] 3))))
      clear hw5
      go_wp2_with (go_at_call 45; refine hor.mono ?_; rintro e w' ⟨rfl, rfl⟩)
      go_ret
      exact ⟨rfl, HF.out⟩
  · go_enter Try.func54, Try.ntmps54
    simp only [stV]
    have hd : decide (a.y = b.y) = false := by simpa using hy
    have hd2 : (a.y == b.y) = false := by simpa using hy
    go_wp2_with fail
    rw [show (w.alloc (.cells #[.int .i64 a.y, .int .i64 a.a, .int .i64 a.b, .int .i64 a.c, .int .i64 a.d] 79)).alloc (.cells #[.int .i64 b.y, .int .i64 b.a, .int .i64 b.b, .int .i64 b.c, .int .i64 b.d] 79) = W2 from HW2.out.symm]
    refine wp_region_rg_tail 10 GrowN (fun | 4 => .ex (.int .i64 (cmpI a.y b.y)) | 9 => .ex (.int .i64 (lexI (thL a) (thL b))) | _ => .fn) (by kernel_rfl) (by kernel_rfl) GrowN.refl GrowN.trans (by intro i; split <;> trivial) ?_
    iterate 4 (refine rg_step fun K hK => ?_; apply rg_fn rfl; (intro w4 hw; obtain ⟨⟨p0, p1, p2, p3, p4⟩, ⟨q0, q1, q2, q3, q4⟩, _, _⟩ := HQ.out _ hw.undrew; go_simp; try rfl); go_simp; (try with_reducible refine hK _ _ ?_); try clear hK K)
    refine rg_step fun K hK => ?_
    apply rg_call (.inl rfl) rfl
    · intro w4 hw
      go_simp
      exact ⟨rfl, rfl⟩
    · intro w4 hw
      refine (compareInt_calls a.y b.y w4).mono ?_
      rintro e w5 ⟨he, rfl⟩
      exact ⟨he, GrowN.refl _⟩
    go_simp
    (try with_reducible refine hK _ _ ?_)
    try clear hK K
    iterate 4 (refine rg_step fun K hK => ?_; apply rg_fn rfl; (intro w4 hw; obtain ⟨⟨p0, p1, p2, p3, p4⟩, ⟨q0, q1, q2, q3, q4⟩, _, _⟩ := HQ.out _ hw.undrew; go_simp; try rfl); go_simp; (try with_reducible refine hK _ _ ?_); try clear hK K)
    refine rg_step fun K hK => ?_
    apply rg_call (.inl rfl) rfl
    · intro w4 hw
      go_simp
      exact ⟨rfl, rfl⟩
    · intro w4 hw
      obtain ⟨_, _, hba, hbb⟩ := HQ.out _ hw.undrew
      refine (slicesCompare_calls w4.heap.size (some ⟨w.heap.size, 1, none⟩) (some ⟨w.heap.size + 1, 1, none⟩) 4 4 (thL a) (thL b) w4 (rowC_box hba) (rowC_box hbb) rfl (by simp [thL])).mono ?_
      rintro e w5 ⟨he, rfl⟩
      exact ⟨he, GrowN.refl _⟩
    go_simp
    (try with_reducible refine hK _ _ ?_)
    try clear hK K
    refine rg_nil ?_
    intro w5 hw5 _
    replace hw5 := hw5.undrew
    simp only [List.drop_succ_cons, List.drop_zero]
    have hor := or_calls (w5.heap.size + 1) (some ⟨w5.heap.size, 0, none⟩) 2 [cmpI a.y b.y, lexI (thL a) (thL b)] (w5.alloc (.cells #[.int .i64 (cmpI a.y b.y), .int .i64 (lexI (thL a) (thL b))] 3)) (rowC_two _ _ _) (by simp)
    rw [orL_two, show (if cmpI a.y b.y = 0 then lexI (thL a) (thL b) else cmpI a.y b.y) = cmpS a b from rfl] at hor
    have HF := Lib.hid (GrowN.trans _ _ _ HG2.out (GrowN.trans _ _ _ hw5 (GrowN.alloc w5 (.cells #[.int .i64 (cmpI a.y b.y), .int .i64 (lexI (thL a) (thL b))] 3))))
    clear hw5
    go_wp2_with (go_at_call 45; refine hor.mono ?_; rintro e w' ⟨rfl, rfl⟩)
    go_ret
    exact ⟨rfl, HF.out⟩
end Go.Proofs.Ytnbnhcoaggpmaaa
