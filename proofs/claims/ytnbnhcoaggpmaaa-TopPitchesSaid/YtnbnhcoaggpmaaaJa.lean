/- Roofs: small functions. -/
import Derived.Test.YtnbnhcoaggpmaaaMr
import Derived.Test.YtnbnhcoaggpmaaaMs
import Derived.Test.YtnbnhcoaggpmaaaRh
import Derived.Test.YtnbnhcoaggpmaaaMw

namespace Go.Proofs.Ytnbnhcoaggpmaaa
open Go Go.RowKit Go.Shelf
set_option maxRecDepth 100000
attribute [local go_sem] Oper.semAt_some

def IntP (w : World) (e : Ending) (w' : World) : Prop := (∃ n : Int, e = .returned (.int .i64 n)) ∧ Below w.heap.size w w'
def BoolP (w : World) (e : Ending) (w' : World) : Prop := (∃ b : Bool, e = .returned (.bool b)) ∧ Below w.heap.size w w'
def AtP (w : World) (e : Ending) (w' : World) : Prop := (∃ x y : Int, e = .returned (.agg #[.int .i64 x, .int .i64 y])) ∧ Below w.heap.size w w'
def SideP (w : World) (e : Ending) (w' : World) : Prop := (∃ a b c d : Int, e = .returned (.agg #[.int .i64 a, .int .i64 b, .int .i64 c, .int .i64 d])) ∧ Below w.heap.size w w'
theorem signOf_calls (n : Int) (w : World) : Calls Try.prog 65 #[.int .i64 n] w (IntP w) := by
  go_enter Try.func65, Try.ntmps65
  go_wp2_with (go_at_call 46; refine (compareInt_calls _ _ _).mono ?_; rintro e w' ⟨rfl, rfl⟩)
  go_ret
  exact ⟨⟨_, rfl⟩, Below.refl _ _⟩
theorem flat_calls (n : Int) (w : World) : Calls Try.prog 47 #[.int .i64 n] w (BoolP w) := by
  go_enter Try.func47, Try.ntmps47
  go_wp2_with fail
  go_ret
  exact ⟨⟨_, rfl⟩, Below.refl _ _⟩
theorem up_calls (n : Int) (w : World) : Calls Try.prog 40 #[.int .i64 n] w (BoolP w) := by
  go_enter Try.func40, Try.ntmps40
  go_wp2_with fail
  go_ret
  exact ⟨⟨_, rfl⟩, Below.refl _ _⟩
theorem down_calls (n : Int) (w : World) : Calls Try.prog 64 #[.int .i64 n] w (BoolP w) := by
  go_enter Try.func64, Try.ntmps64
  go_wp2_with fail
  go_ret
  exact ⟨⟨_, rfl⟩, Below.refl _ _⟩
theorem rin_calls (n l h : Int) (w : World) : Calls Try.prog 30 #[.int .i64 n, .int .i64 l, .int .i64 h] w fun e w' => e = .returned (.bool (decide (l ≤ n ∧ n ≤ h))) ∧ w' = w := by
  go_enter Try.func30, Try.ntmps30
  by_cases h1 : l ≤ n
  · by_cases h2 : n ≤ h
    · go_wp2_with fail
      go_ret
      exact ⟨by simp [h1, h2], rfl⟩
    · go_wp2_with fail
      go_ret
      exact ⟨by simp; omega, rfl⟩
  · go_wp2_with fail
    go_ret
    exact ⟨by simp; omega, rfl⟩
theorem cross_calls (a b c d : Int) (w : World) : Calls Try.prog 66 #[.agg #[.int .i64 a, .int .i64 b], .agg #[.int .i64 c, .int .i64 d]] w (IntP w) := by
  go_enter Try.func66, Try.ntmps66
  go_wp2_with fail
  go_ret
  exact ⟨⟨_, rfl⟩, ((below1 w _).trans ((below1 _ _).mono (by simp)))⟩
theorem dot_calls (a b c d : Int) (w : World) : Calls Try.prog 48 #[.agg #[.int .i64 a, .int .i64 b], .agg #[.int .i64 c, .int .i64 d]] w (IntP w) := by
  go_enter Try.func48, Try.ntmps48
  go_wp2_with fail
  go_ret
  exact ⟨⟨_, rfl⟩, ((below1 w _).trans ((below1 _ _).mono (by simp)))⟩
theorem infoAt : (Try.prog.info? 55).map (·.size) = some 2 := by kernel_rfl
theorem infoSide : (Try.prog.info? 65).map (·.size) = some 4 := by kernel_rfl
def atV : { S : Value → Prop // ∃ u, S u } := ⟨fun v => ∃ x y : Int, v = .agg #[.int .i64 x, .int .i64 y], _, 0, 0, rfl⟩
def intW : { S : Value → Prop // ∃ u, S u } := ⟨fun v => ∃ n : Int, v = .int .i64 n, _, 0, rfl⟩
def boolW : { S : Value → Prop // ∃ u, S u } := ⟨fun v => ∃ b : Bool, v = .bool b, _, false, rfl⟩
def sideW : { S : Value → Prop // ∃ u, S u } := ⟨fun v => ∃ a b c d : Int, v = .agg #[.int .i64 a, .int .i64 b, .int .i64 c, .int .i64 d], _, 0, 0, 0, 0, rfl⟩
theorem two_allocs (w : World) (o o' : Obj) : Below w.heap.size w ((w.alloc o).alloc o') := (below1 w _).trans ((below1 _ _).mono (by simp))
theorem heap_alloc_two (w : World) (o o' : Obj) : ((w.alloc o).alloc o').heap[w.heap.size + 1]? = some o' := by
  have h := heap_alloc_self (w.alloc o) o'
  rwa [World.size_alloc] at h
theorem way_calls (a b c d : Int) (w : World) : Calls Try.prog 49 #[.agg #[.int .i64 a, .int .i64 b, .int .i64 c, .int .i64 d]] w (AtP w) := by
  go_enter Try.func49, Try.ntmps49
  go_wp2_with fail
  exact bodyPost_ret (results_cell_row (by rfl) _ _ (w.heap.size + 1) 55 _ (0, 0) _ (by rfl) (heap_alloc_two _ _ _) Try.underlying55 (by rfl) infoAt) (by rfl) ⟨⟨_, _, rfl⟩, two_allocs _ _ _⟩
theorem growsB {w w' : World} (h : Grows w w') : Below w.heap.size w w' := h
theorem of_calls (a b c d x y : Int) (w : World) : Calls Try.prog 43 #[.agg #[.int .i64 a, .int .i64 b, .int .i64 c, .int .i64 d], .agg #[.int .i64 x, .int .i64 y]] w (IntP w) := by
  go_enter Try.func43, Try.ntmps43
  go_wp2_with fail
  obtain ⟨W, hW⟩ : ∃ W, W = (w.alloc (.cells #[.int .i64 a, .int .i64 b, .int .i64 c, .int .i64 d] 65)).alloc (.cells #[.int .i64 x, .int .i64 y] 55) := ⟨_, rfl⟩
  rw [← hW]
  have hb : Below w.heap.size w W := by rw [hW]; exact two_allocs _ _ _
  have hg0 : W.heap[w.heap.size]? = some (.cells #[.int .i64 a, .int .i64 b, .int .i64 c, .int .i64 d] 65 (0, 0)) := by
    rw [hW]
    exact blk_below (below1 _ _) (heap_alloc_self _ _) (by simp)
  have hg1 : W.heap[w.heap.size + 1]? = some (.cells #[.int .i64 x, .int .i64 y] 55 (0, 0)) := by rw [hW]; exact heap_alloc_two _ _ _
  have hq : ∀ w4, Grows W w4 → (w4.cell? ⟨w.heap.size, 0, none⟩ = some (.int .i64 a) ∧ w4.cell? ⟨w.heap.size, 1, none⟩ = some (.int .i64 b) ∧ w4.cell? ⟨w.heap.size, 2, none⟩ = some (.int .i64 c) ∧ w4.cell? ⟨w.heap.size, 3, none⟩ = some (.int .i64 d)) ∧ w4.cell? ⟨w.heap.size + 1, 0, none⟩ = some (.int .i64 x) ∧ w4.cell? ⟨w.heap.size + 1, 1, none⟩ = some (.int .i64 y) := fun w4 hw => by
    have h0 := blk_below hw hg0 (lt_blk hg0)
    have h1 := blk_below hw hg1 (lt_blk hg1)
    exact ⟨⟨by rw [cell_blk h0]; rfl, by rw [cell_blk h0]; rfl, by rw [cell_blk h0]; rfl, by rw [cell_blk h0]; rfl⟩, by rw [cell_blk h1]; rfl, by rw [cell_blk h1]; rfl⟩
  have HQ := Lib.hid hq
  have HB := Lib.hid hb
  clear hq hb hg0 hg1 hW
  refine wp_region_rg Grows (fun | 1 => .any atV (fun _ _ _ => True) | 6 => .any atV (fun _ _ _ => True) | 7 => .any intW (fun _ _ _ => True) | 8 => .any intW (fun _ _ _ => True) | _ => .fn) (by kernel_rfl) (by kernel_rfl) Grows.refl growsT (by intro i; split <;> first | trivial | exact fun _ _ _ _ _ _ => trivial) ?_
  iterate 1 (refine rg_step fun K hK => ?_; apply rg_fn rfl; (intro w4 hw; obtain ⟨⟨x0, x1, x2, x3⟩, y0, y1⟩ := HQ.out w4 hw.undrew; go_simp; try rfl); go_simp; (try with_reducible refine hK _ _ ?_); try clear hK K)
  refine rg_step fun K hK => ?_
  apply rg_call_any (.inl rfl) rfl
  · intro w4 hw
    go_simp
    exact ⟨rfl, rfl⟩
  · intro w4 hw
    refine (way_calls _ _ _ _ w4).mono ?_
    rintro e w5 ⟨⟨x6, y6, rfl⟩, hb⟩
    exact ⟨_, rfl, hb, ⟨x6, y6, rfl⟩, trivial⟩
  rintro v5 ⟨x6, y6, rfl⟩
  go_simp
  (try with_reducible refine hK _ _ ?_)
  try clear hK K
  iterate 4 (refine rg_step fun K hK => ?_; apply rg_fn rfl; (intro w4 hw; obtain ⟨⟨x0, x1, x2, x3⟩, y0, y1⟩ := HQ.out w4 hw.undrew; go_simp; try rfl); go_simp; (try with_reducible refine hK _ _ ?_); try clear hK K)
  refine rg_step fun K hK => ?_
  apply rg_call_any (.inl rfl) rfl
  · intro w4 hw
    go_simp
    exact ⟨rfl, rfl⟩
  · intro w4 hw
    refine (way_calls _ _ _ _ w4).mono ?_
    rintro e w5 ⟨⟨x7, y7, rfl⟩, hb⟩
    exact ⟨_, rfl, hb, ⟨x7, y7, rfl⟩, trivial⟩
  rintro v5 ⟨x7, y7, rfl⟩
  go_simp
  (try with_reducible refine hK _ _ ?_)
  try clear hK K
  refine rg_step fun K hK => ?_
  apply rg_call_any (.inl rfl) rfl
  · intro w4 hw
    go_simp
    exact ⟨rfl, rfl⟩
  · intro w4 hw
    refine (cross_calls _ _ _ _ w4).mono ?_
    rintro e w5 ⟨⟨n8, rfl⟩, hb⟩
    exact ⟨_, rfl, hb, ⟨n8, rfl⟩, trivial⟩
  rintro v5 ⟨n8, rfl⟩
  go_simp
  (try with_reducible refine hK _ _ ?_)
  try clear hK K
  refine rg_step fun K hK => ?_
  apply rg_call_any (.inl rfl) rfl
  · intro w4 hw
    go_simp
    exact ⟨rfl, rfl⟩
  · intro w4 hw
    refine (signOf_calls _ w4).mono ?_
    rintro e w5 ⟨⟨n9, rfl⟩, hb⟩
    exact ⟨_, rfl, hb, ⟨n9, rfl⟩, trivial⟩
  rintro v5 ⟨n9, rfl⟩
  go_simp
  (try with_reducible refine hK _ _ ?_)
  try clear hK K
  iterate 1 (refine rg_step fun K hK => ?_; apply rg_fn rfl; (intro w4 hw; go_simp; try rfl); go_simp; (try with_reducible refine hK _ _ ?_); try clear hK K)
  refine rg_nil ?_
  intro w6 hw6 _
  replace hw6 := hw6.undrew
  have HM := Lib.hid hw6
  clear hw6
  go_wp2_with fail
  go_ret
  exact ⟨⟨_, rfl⟩, HB.out.trans (HM.out.mono HB.out.size)⟩
end Go.Proofs.Ytnbnhcoaggpmaaa
