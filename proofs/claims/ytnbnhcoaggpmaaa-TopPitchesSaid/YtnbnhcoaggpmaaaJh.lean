/- Roofs: where a point lies. -/
import Derived.Test.YtnbnhcoaggpmaaaJg

namespace Go.Proofs.Ytnbnhcoaggpmaaa
open Go Go.RowKit Go.Shelf
set_option maxRecDepth 100000
attribute [local go_sem] Oper.semAt_some

/-- What a loop over edges keeps of a frame that began at w: everything that was there, and blocks of its own. -/
structure FrK (w : World) (k : Nat) (F : World → Prop) (W : World) : Prop where
  below : Below w.heap.size w W
  big : w.heap.size + k ≤ W.heap.size
  own : F W
theorem FrK.bel {w W W' : World} {k : Nat} {F : World → Prop} {S : Nat → Prop} (h : FrK w k F W) (hb : Bel S W W') (hS : ∀ j, S j → w.heap.size + k ≤ j) (hF : F W → (∀ j, j < w.heap.size + k → W'.heap[j]? = W.heap[j]?) → F W') : FrK w k F W' :=
  ⟨h.below.trans (hb.below (Nat.le_trans (Nat.le_add_right _ _) h.big) (fun j hj => Nat.le_trans (Nat.le_add_right _ _) (hS j hj))), Nat.le_trans h.big hb.size,
    hF h.own fun j hj => hb.block j (Nat.lt_of_lt_of_le hj h.big) (fun e => by have := hS j e; omega)⟩
/-- The blocks of lies. -/
def LiF (w : World) (A : Option Addr) (n c : Nat) (x y : Int) (W : World) : Prop :=
  W.heap[w.heap.size]? = some (.cells #[.int .i64 x, .int .i64 y] 55 (0, 0)) ∧ (∃ s : Int, W.heap[w.heap.size + 1]? = some (.cells #[.int .i64 s] 101 (0, 0))) ∧ W.heap[w.heap.size + 2]? = some (.cells #[.slice A n c] 36 (0, 0))
theorem LiF.kept {w W W' : World} {A : Option Addr} {n c : Nat} {x y : Int} (h : LiF w A n c x y W) (hk : ∀ j, j < w.heap.size + 3 → W'.heap[j]? = W.heap[j]?) : LiF w A n c x y W' := by
  obtain ⟨h1, ⟨s, h2⟩, h3⟩ := h
  exact ⟨(hk _ (by omega)).trans h1, ⟨s, (hk _ (by omega)).trans h2⟩, (hk _ (by omega)).trans h3⟩
set_option maxHeartbeats 4000000 in
theorem lies_calls (v : Value) (ps : List (Int × Int)) (x y : Int) (w : World) (h : AtsAt w w.heap.size v ps) : Calls Try.prog 39 #[v, .agg #[.int .i64 x, .int .i64 y]] w (IntP w) := by
  obtain ⟨A, c, rfl, _⟩ := id h
  refine (callsIn_wide (n := 10)).1 ?_
  have hFw : ∀ f, Fence.wide.fn f := fun _ => trivial
  have HA := Lib.hid h
  clear h
  refine callsIn_of_wp_marks Try.func39 rfl trivial ?_ rfl
  simp only [Try.ntmps39, List.size_toArray, List.length_cons, List.length_nil, Nat.reduceAdd, Nat.reduceSub, Array.replicate_succ, Array.replicate_zero, List.push_toArray, List.append_toArray, List.nil_append, List.cons_append]
  gi_wp2_with fail
  obtain ⟨W0, hW0⟩ : ∃ W0, W0 = (w.alloc (.cells #[.int .i64 x, .int .i64 y] 55)).alloc (.cells #[.int .i64 1] 101) := ⟨_, rfl⟩
  rw [← hW0]
  have hb0 : Below w.heap.size w W0 := by rw [hW0]; exact two_allocs _ _ _
  have g0 : W0.heap[w.heap.size]? = some (.cells #[.int .i64 x, .int .i64 y] 55 (0, 0)) := by rw [hW0]; exact blk_below (below1 _ _) (heap_alloc_self _ _) (by simp)
  have g1 : W0.heap[w.heap.size + 1]? = some (.cells #[.int .i64 1] 101 (0, 0)) := by rw [hW0]; exact heap_alloc_two _ _ _
  have hz : W0.heap.size = w.heap.size + 2 := by rw [hW0]; simp
  refine (callsIn_wide.2 (sides_calls A ps.length c W0)).mono ?_
  rintro e W1 ⟨rfl, hW1⟩
  have hb1 : Below W0.heap.size W0 W1 := by rw [hW1]; exact below1 _ _
  have g2 : W1.heap[w.heap.size + 2]? = some (.cells #[.slice A ps.length c] 36 (0, 0)) := by rw [hW1, ← hz]; exact heap_alloc_self _ _
  have hz1 : W1.heap.size = w.heap.size + 3 := by rw [hW1]; simp [hz]
  have hk : FrK w 3 (LiF w A ps.length c x y) W1 := ⟨hb0.trans (hb1.mono (by omega)), by omega, blk_below hb1 g0 (by omega), ⟨1, blk_below hb1 g1 (by omega)⟩, g2⟩
  have HK := Lib.hid (And.intro hk hz1)
  rw [hz]
  clear hW0 hb0 g0 g1 hW1 hb1 g2 hz1 hk hz
  gi_wp2_with fail
  have hlo := HK.out.2
  refine wpIn_rangeSides A ps.length c ps (w.heap.size + 2) w.heap.size (d := 7) rfl (FrK w 3 (LiF w A ps.length c x y)) (fun _ _ => False) ?hIa ?hI ?hIx ?h0 ?assign ?body ?done ?stop
  case hIa => exact fun W h => ⟨h.own.2.2, HA.out.below h.below, h.below.size⟩
  case hI => exact fun W W' h hb => h.bel hb (fun j hj => by omega) fun hF hk => hF.kept hk
  case hIx => exact fun _ _ _ h => h.elim
  case h0 => exact fun W hb hz => ⟨HK.out.1.below.trans (hb.mono (by omega)), by omega, HK.out.1.own.kept fun j hj => hb.block j (by omega)⟩
  case assign =>
    intro l i x0 y0 x1 y1 W K hK
    unfold sideG sideO at *
    gi_wp2_with fail
    simpa using hK
  case body =>
    intro l sb i x0 y0 x1 y1 W hI hsb hbig hloop hl
    obtain ⟨h1, ⟨s, h2⟩, h3⟩ := id hI.own
    have hq : ∀ w4, Below W.heap.size W w4 → w4.cell? ⟨w.heap.size + 1, 0, none⟩ = some (.int .i64 s) ∧ (w4.cell? ⟨sb, 0, none⟩ = some (.int .i64 x0) ∧ w4.cell? ⟨sb, 1, none⟩ = some (.int .i64 y0) ∧ w4.cell? ⟨sb, 2, none⟩ = some (.int .i64 x1) ∧ w4.cell? ⟨sb, 3, none⟩ = some (.int .i64 y1)) ∧
        w4.cell? ⟨w.heap.size, 0, none⟩ = some (.int .i64 x) ∧ w4.cell? ⟨w.heap.size, 1, none⟩ = some (.int .i64 y) := fun w4 h4 => by
      have e1 := blk_below h4 h1 (lt_blk h1)
      have e2 := blk_below h4 h2 (lt_blk h2)
      have e3 := blk_below h4 hsb (lt_blk hsb)
      exact ⟨(cell_blk e2 0).trans rfl, ⟨(cell_blk e3 0).trans rfl, (cell_blk e3 1).trans rfl, (cell_blk e3 2).trans rfl, (cell_blk e3 3).trans rfl⟩, (cell_blk e1 0).trans rfl, (cell_blk e1 1).trans rfl⟩
    have HQ := Lib.hid hq
    have HI := Lib.hid hI
    have hsbl := lt_blk hsb
    clear hq hI h1 h2 h3 hsb hloop hl
    gi_wp2_with fail
    refine wpIn_region_rg_tail 4 Grows (fun | 3 => .any intW (fun _ _ _ => True) | _ => .fn) (by kernel_rfl) (fun _ => trivial) (by kernel_rfl) Grows.refl growsT (by intro i; split <;> first | trivial | exact fun _ _ _ _ _ _ => trivial) ?_
    iterate 3 (refine rg_step fun K hK => ?_; apply rg_fn rfl; (intro w4 hw; obtain ⟨q0, ⟨q1, q2, q3, q4⟩, q5, q6⟩ := HQ.out w4 hw.undrew; go_simp; try rfl); go_simp; (try with_reducible refine hK _ _ ?_); try clear hK K)
    refine rg_step fun K hK => ?_
    apply rg_call_any (.inr ⟨l, rfl⟩) rfl
    · intro w4 hw
      go_simp
      exact ⟨rfl, rfl⟩
    · intro w4 hw
      refine (of_calls _ _ _ _ _ _ w4).mono ?_
      rintro e w5 ⟨⟨n3, rfl⟩, hb⟩
      exact ⟨_, rfl, hb, ⟨n3, rfl⟩, trivial⟩
    rintro v5 ⟨n3, rfl⟩
    go_simp
    (try with_reducible refine hK _ _ ?_)
    try clear hK K
    refine rg_nil ?_
    intro w12 hw12 _
    replace hw12 := hw12.undrew
    have hg1 : ∃ s : Int, w12.heap[w.heap.size + 1]? = some (.cells #[.int .i64 s] 101 (0, 0)) := by
      obtain ⟨_, ⟨s, h2⟩, _⟩ := HI.out.own
      exact ⟨s, blk_below hw12 h2 (lt_blk h2)⟩
    obtain ⟨s2, hg1⟩ := hg1
    have o1 : w12.cell? ⟨w.heap.size + 1, 0, none⟩ = some (.int .i64 s2) := (cell_blk hg1 0).trans rfl
    have f1 := frozen_blk hg1 0
    have hfin : ∀ u : Int, KeptJ (fun j => j = W1.heap.size ∨ j = W1.heap.size + 1) W (w12.setCell ⟨w.heap.size + 1, 0, none⟩ (.int .i64 u)) ∧ FrK w 3 (LiF w A ps.length c x y) (w12.setCell ⟨w.heap.size + 1, 0, none⟩ (.int .i64 u)) := fun u => by
      have hbg := HI.out.big
      have ho : ∀ j, j ≠ w.heap.size + 1 → (w12.setCell ⟨w.heap.size + 1, 0, none⟩ (.int .i64 u)).heap[j]? = w12.heap[j]? := fun j hj => Below.heap_setCell _ _ _ _ hj
      have hsz : (w12.setCell ⟨w.heap.size + 1, 0, none⟩ (.int .i64 u)).heap.size = w12.heap.size := by simp [World.setCell]
      have hz12 := Below.size hw12
      obtain ⟨h1, _, h3⟩ := HI.out.own
      refine ⟨⟨by omega, fun j hj => ?_⟩, ⟨(HI.out.below.trans (Below.mono hw12 HI.out.below.size)).setCell (p := ⟨w.heap.size + 1, 0, none⟩) (Nat.le_succ _) _, by omega, ?_⟩⟩
      · have hjl : j < W.heap.size := by
          have := hbig
          rcases hj with e | e <;> omega
        exact (ho j (by rcases hj with e | e <;> omega)).trans (hw12.block j hjl)
      · exact ⟨(ho _ (by omega)).trans (blk_below hw12 h1 (lt_blk h1)), ⟨u, (heap_set hg1 0 _).trans rfl⟩, (ho _ (by omega)).trans (blk_below hw12 h3 (lt_blk h3))⟩
    have HFIN := fun u => Lib.hid (hfin u)
    clear hfin hg1 hw12
    simp only [List.drop_succ_cons, List.drop_zero]
    gi_wp2_with fail
    exact (HFIN _).out
  case done =>
    intro W hI hD
    obtain ⟨_, ⟨s, h2⟩, _⟩ := id hI.own
    have o1 : W.cell? ⟨w.heap.size + 1, 0, none⟩ = some (.int .i64 s) := (cell_blk h2 0).trans rfl
    have HI := Lib.hid hI
    have HD := Lib.hid hD
    clear hI hD h2
    gi_wp2_with fail
    refine bodyPostM_ret (b := w.heap.size + 3) (hi := w.heap.size + 4) ⟨w.heap.size + 3, by omega, by rw [HK.out.2], by rw [← HK.out.2]; exact HD.out, Nat.le_refl _⟩ fun w' hw' => ?_
    exact ⟨_, results_tmp (fn := Try.f39) (t := 4) (by rfl) _ _ _, ⟨s, rfl⟩, HI.out.below.trans (hw'.below (by omega) HI.out.big)⟩
  case stop => exact fun _ _ h => h.elim
end Go.Proofs.Ytnbnhcoaggpmaaa
