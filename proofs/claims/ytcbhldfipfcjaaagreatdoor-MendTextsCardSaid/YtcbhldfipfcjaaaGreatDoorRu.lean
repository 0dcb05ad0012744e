/- runs: the examples. -/
import Derived.Test.YtcbhldfipfcjaaaGreatDoorWk

namespace Go.Proofs.YtcbhldfipfcjaaaGreatDoor
open Go Go.RowKit Go.Shelf
set_option maxRecDepth 100000

theorem rowsAt_of {w : World} {b c : Nat} {xss : List (List Int)} {vs : Array Value} {t : TypeId} {f : Nat × Nat} (hb : w.heap[b]? = some (.cells vs t f)) (hl : xss.length ≤ 9223372036854775807)
    (h : ∀ (i : Nat) (xs : List Int), xss[i]? = some xs → ∃ u, vs[i]? = some u ∧ IntsAt w w.heap.size u xs) : RowsAt w w.heap.size (.slice (some ⟨b, 0, none⟩) xss.length c) xss :=
  ⟨_, c, rfl, hl, fun _ => ⟨b, 0, rfl, lt_blk hb, fun i xs hi => by
    obtain ⟨u, h1, h2⟩ := h i xs hi
    exact ⟨u, by rw [cell_blk hb, Nat.zero_add]; exact h1, h2⟩⟩⟩
theorem ints1 {w : World} {b : Nat} {x : Int} {t : TypeId} {f : Nat × Nat} (hb : w.heap[b]? = some (.cells #[.int .i64 x] t f)) : IntsAt w w.heap.size (.slice (some ⟨b, 0, none⟩) 1 1) [x] :=
  ⟨_, 1, rfl, by simp, fun _ => ⟨b, 0, rfl, lt_blk hb, fun j u hu => by
    match j, hu with
    | 0, hu => simp at hu; subst hu; rw [cell_blk hb]; rfl
    | j + 1, hu => simp at hu⟩⟩
/-- Three rows of one number each, built. -/
def built3 (W : World) (x y z : Int) : World := (((W.alloc (.cells #[.int .i64 x] 3)).alloc (.cells #[.int .i64 y] 3)).alloc (.cells #[.int .i64 z] 3)).alloc (.cells #[.slice (some ⟨W.heap.size, 0, none⟩) 1 1, .slice (some ⟨W.heap.size + 1, 0, none⟩) 1 1, .slice (some ⟨W.heap.size + 1 + 1, 0, none⟩) 1 1] 35)
theorem built3_rows (W : World) (x y z : Int) : RowsAt (built3 W x y z) (built3 W x y z).heap.size (.slice (some ⟨W.heap.size + 1 + 1 + 1, 0, none⟩) 3 3) [[x], [y], [z]] ∧ Below W.heap.size W (built3 W x y z) := by
  have g0 : (built3 W x y z).heap[W.heap.size]? = some (.cells #[.int .i64 x] 3 (0, 0)) := by
    unfold built3; exact (Below.heap_alloc _ _ _ (by simp <;> omega)).trans ((Below.heap_alloc _ _ _ (by simp <;> omega)).trans ((Below.heap_alloc _ _ _ (by simp)).trans (heap_alloc_self _ _)))
  have g1 : (built3 W x y z).heap[W.heap.size + 1]? = some (.cells #[.int .i64 y] 3 (0, 0)) := by
    unfold built3; exact (Below.heap_alloc _ _ _ (by simp <;> omega)).trans ((Below.heap_alloc _ _ _ (by simp)).trans (by simpa using heap_alloc_self (W.alloc _) _))
  have g2 : (built3 W x y z).heap[W.heap.size + 1 + 1]? = some (.cells #[.int .i64 z] 3 (0, 0)) := by
    unfold built3; exact (Below.heap_alloc _ _ _ (by simp)).trans (by simpa using heap_alloc_self ((W.alloc _).alloc _) _)
  have g3 : (built3 W x y z).heap[W.heap.size + 1 + 1 + 1]? = some (.cells #[.slice (some ⟨W.heap.size, 0, none⟩) 1 1, .slice (some ⟨W.heap.size + 1, 0, none⟩) 1 1, .slice (some ⟨W.heap.size + 1 + 1, 0, none⟩) 1 1] 35 (0, 0)) := by
    unfold built3; simpa using heap_alloc_self (((W.alloc _).alloc _).alloc _) _
  refine ⟨rowsAt_of (xss := [[x], [y], [z]]) g3 (by simp) (fun i xs hi => ?_), by unfold built3; exact (((below1 _ _).alloc (by simp) _).alloc (by simp <;> omega) _).alloc (by simp <;> omega) _⟩
  match i, hi with
  | 0, hi => simp at hi; subst hi; exact ⟨_, rfl, ints1 g0⟩
  | 1, hi => simp at hi; subst hi; exact ⟨_, rfl, ints1 g1⟩
  | 2, hi => simp at hi; subst hi; exact ⟨_, rfl, ints1 g2⟩
  | i + 3, hi => simp at hi
def built2 (W : World) (x y : Int) : World := ((W.alloc (.cells #[.int .i64 x] 3)).alloc (.cells #[.int .i64 y] 3)).alloc (.cells #[.slice (some ⟨W.heap.size, 0, none⟩) 1 1, .slice (some ⟨W.heap.size + 1, 0, none⟩) 1 1] 35)
theorem built2_rows (W : World) (x y : Int) : RowsAt (built2 W x y) (built2 W x y).heap.size (.slice (some ⟨W.heap.size + 1 + 1, 0, none⟩) 2 2) [[x], [y]] ∧ Below W.heap.size W (built2 W x y) := by
  have g0 : (built2 W x y).heap[W.heap.size]? = some (.cells #[.int .i64 x] 3 (0, 0)) := by
    unfold built2; exact (Below.heap_alloc _ _ _ (by simp <;> omega)).trans ((Below.heap_alloc _ _ _ (by simp)).trans (heap_alloc_self _ _))
  have g1 : (built2 W x y).heap[W.heap.size + 1]? = some (.cells #[.int .i64 y] 3 (0, 0)) := by
    unfold built2; exact (Below.heap_alloc _ _ _ (by simp)).trans (by simpa using heap_alloc_self (W.alloc _) _)
  have g2 : (built2 W x y).heap[W.heap.size + 1 + 1]? = some (.cells #[.slice (some ⟨W.heap.size, 0, none⟩) 1 1, .slice (some ⟨W.heap.size + 1, 0, none⟩) 1 1] 35 (0, 0)) := by
    unfold built2; simpa using heap_alloc_self ((W.alloc _).alloc _) _
  refine ⟨rowsAt_of (xss := [[x], [y]]) g2 (by simp) (fun i xs hi => ?_), by unfold built2; exact ((below1 _ _).alloc (by simp) _).alloc (by simp <;> omega) _⟩
  match i, hi with
  | 0, hi => simp at hi; subst hi; exact ⟨_, rfl, ints1 g0⟩
  | 1, hi => simp at hi; subst hi; exact ⟨_, rfl, ints1 g1⟩
  | i + 2, hi => simp at hi

/-- What stays through runs. -/
structure RunInv (w : World) (sl cr : Value) (bx : Nat) (W : World) : Prop where
  below : Below w.heap.size w W
  slopes : SlopesAt W W.heap.size sl m0.slopes
  crafts : CraftsAt W W.heap.size cr m0.crafts
  box : W.heap[bx]? = some (.cells #[sl, cr, .int .i64 3, .int .i64 10, .int .i64 1] 25 (0, 0))
theorem RunInv.later {w : World} {sl cr : Value} {bx : Nat} {W W' : World} (h : RunInv w sl cr bx W) (hb : Below W.heap.size W W') : RunInv w sl cr bx W' :=
  ⟨h.below.trans (hb.mono h.below.size), (h.slopes.below hb).mono hb.size, (h.crafts.below hb).mono hb.size, blk_below hb h.box (lt_blk h.box)⟩

set_option maxHeartbeats 4000000 in
theorem runs_calls (w : World) : Calls Tryz.prog 6 #[] w fun e w' => e = .returned (.bool true) ∧ Below w.heap.size w w' := by
  go_enter Tryz.func6, Tryz.ntmps6
  go_wp2_with fail
  refine (works_calls w).mono ?_
  rintro e W1 ⟨sl, cr, rfl, hs1, hc1, hb1⟩
  obtain ⟨sA, sc, rfl, _, _⟩ := id hs1
  obtain ⟨cA, cc, rfl, _, _⟩ := id hc1
  obtain ⟨W2, hW2⟩ : ∃ W2, W2 = W1.alloc (.cells #[.slice sA m0.slopes.length sc, .slice cA m0.crafts.length cc, .int .i64 3, .int .i64 10, .int .i64 1] 25) := ⟨_, rfl⟩
  have z2 : W2.heap.size = W1.heap.size + 1 := by rw [hW2]; simp
  have b2 : Below W1.heap.size W1 W2 := by rw [hW2]; exact below1 _ _
  have h2 : RunInv w (.slice sA m0.slopes.length sc) (.slice cA m0.crafts.length cc) W1.heap.size W2 := ⟨hb1.trans (b2.mono hb1.size), (hs1.below b2).mono b2.size, (hc1.below b2).mono b2.size, by rw [hW2]; exact heap_alloc_self _ _⟩
  obtain ⟨hr3, b3⟩ := built3_rows W2 (-1) (-1) (-1)
  obtain ⟨W3, hW3⟩ : ∃ W3, W3 = built3 W2 (-1) (-1) (-1) := ⟨_, rfl⟩
  rw [← hW3] at hr3 b3
  have h3 := h2.later b3
  rw [z2] at hr3
  unfold built3 at hW3
  rw [hW2] at hW3
  simp only [World.size_alloc] at hW3
  have x5 := blk5 h3.box
  rw [hW3] at x5
  obtain ⟨x0, x1, x2, x3, x4⟩ := x5
  have HW3 := Lib.hid hW3
  have HR3 := Lib.hid hr3
  have H3 := Lib.hid h3
  clear hW2 hW3 hr3 b3 h3 h2 b2 hs1 hc1 hb1
  go_wp2_with fail
  rw [← HW3.out]
  refine (follow_calls m0 _ _ _ [[-1], [-1], [-1]] W3 H3.out.slopes H3.out.crafts HR3.out).mono ?_
  rintro e W4 ⟨v4, he, hr4, hb4⟩
  rw [ev_follow] at he hr4
  subst he
  obtain ⟨A4, c4, rfl, _⟩ := id hr4
  have h4 := H3.out.later hb4
  obtain ⟨hq5, b5⟩ := built2_rows W4 35 20
  obtain ⟨W5, hW5⟩ : ∃ W5, W5 = built2 W4 35 20 := ⟨_, rfl⟩
  rw [← hW5] at hq5 b5
  have hs5 := sameRows_calls _ _ _ _ W5 ((hr4.below b5).mono b5.size) hq5
  have h5 := h4.later b5
  unfold built2 at hW5
  have HW5 := Lib.hid hW5
  have HS5 := Lib.hid hs5
  have H5 := Lib.hid h5
  clear hW5 hs5 hq5 b5 h5 h4 hb4 hr4 HR3 HW3 x0 x1 x2 x3 x4
  simp only []
  go_wp2_with fail
  rw [← HW5.out]
  refine HS5.out.mono ?_
  rintro e W6 ⟨rfl, hb6⟩
  have h6 := H5.out.later hb6
  obtain ⟨x0, x1, x2, x3, x4⟩ := blk5 h6.box
  have H6 := Lib.hid h6
  simp only [decide_true]
  clear h6 hb6 H5 HS5 HW5 H3
  go_wp2_with fail
  refine (cheap_calls m0 _ _ W6 H6.out.slopes H6.out.crafts).mono ?_
  rintro e W7 ⟨v7, he, hr7, hb7⟩
  rw [ev_cheap] at he hr7
  subst he
  obtain ⟨A7, c7, rfl, _⟩ := id hr7
  have h7 := H6.out.later hb7
  obtain ⟨hq8, b8⟩ := built3_rows W7 (-1) 0 0
  obtain ⟨W8, hW8⟩ : ∃ W8, W8 = built3 W7 (-1) 0 0 := ⟨_, rfl⟩
  rw [← hW8] at hq8 b8
  have hs8 := sameRows_calls _ _ _ _ W8 ((hr7.below b8).mono b8.size) hq8
  have h8 := h7.later b8
  unfold built3 at hW8
  have HW8 := Lib.hid hW8
  have HS8 := Lib.hid hs8
  have H8 := Lib.hid h8
  clear hW8 hs8 hq8 b8 h8 h7 hb7 hr7 x0 x1 x2 x3 x4
  simp only []
  go_wp2_with fail
  rw [← HW8.out]
  refine HS8.out.mono ?_
  rintro e W9 ⟨rfl, hb9⟩
  have h9 := H8.out.later hb9
  obtain ⟨x0, x1, x2, x3, x4⟩ := blk5 h9.box
  have H9 := Lib.hid h9
  simp only [decide_true]
  clear h9 hb9 H8 HS8 HW8 H6
  go_wp2_with fail
  obtain ⟨W10, hW10⟩ : ∃ W10, W10 = W9.alloc (.cells #[.int .i64 45] 3) := ⟨_, rfl⟩
  have b10 : Below W9.heap.size W9 W10 := by rw [hW10]; exact below1 _ _
  have g10 : W10.heap[W9.heap.size]? = some (.cells #[.int .i64 45] 3 (0, 0)) := by rw [hW10]; exact heap_alloc_self _ _
  have h10 := H9.out.later b10
  rw [← hW10]
  clear hW10
  refine (least_calls m0 _ _ _ 1 [45] W10 h10.slopes h10.crafts (ints1 g10)).mono ?_
  rintro e W11 ⟨rfl, hb11⟩
  have h11 := h10.later hb11
  obtain ⟨x0, x1, x2, x3, x4⟩ := blk5 h11.box
  have H11 := Lib.hid h11
  rw [ev_least]
  clear h11 hb11 h10 b10 g10 H9
  simp only []
  go_wp2_with fail
  refine (values_of m0 _ _ W11 H11.out.slopes H11.out.crafts).mono ?_
  rintro e W12 ⟨v12, rfl, hw12, hb12⟩
  rw [ev_all] at hw12 ⊢
  simp only [] at hw12 ⊢
  obtain ⟨A12, c12, rfl, _⟩ := id hw12
  have h12 := H11.out.later hb12
  obtain ⟨x0, x1, x2, x3, x4⟩ := blk5 h12.box
  have H12 := Lib.hid h12
  have HL12 := Lib.hid hw12
  clear h12 hb12 hw12 H11
  go_wp2_with fail
  refine (proves_calls m0 _ _ _ 48 (worths m0 sorted0) W12 H12.out.slopes H12.out.crafts HL12.out).mono ?_
  rintro e W13 ⟨rfl, hb13⟩
  rw [ev_proves]
  have h13 := H12.out.later hb13
  have hl13 := (HL12.out.below hb13).mono hb13.size
  obtain ⟨x0, x1, x2, x3, x4⟩ := blk5 h13.box
  have H13 := Lib.hid h13
  have HL13 := Lib.hid hl13
  clear h13 hl13 hb13 H12 HL12
  simp only []
  go_wp2_with fail
  refine (proves_calls m0 _ _ _ 49 (worths m0 sorted0) W13 H13.out.slopes H13.out.crafts HL13.out).mono ?_
  rintro e W14 ⟨rfl, hb14⟩
  rw [ev_proves2]
  have h14 := H13.out.later hb14
  obtain ⟨hr15, b15⟩ := built3_rows W14 0 (-1) 0
  obtain ⟨W15, hW15⟩ : ∃ W15, W15 = built3 W14 0 (-1) 0 := ⟨_, rfl⟩
  rw [← hW15] at hr15 b15
  have h15 := h14.later b15
  unfold built3 at hW15
  obtain ⟨x0, x1, x2, x3, x4⟩ := blk5 h14.box
  have HW15 := Lib.hid hW15
  have HR15 := Lib.hid hr15
  have H15 := Lib.hid h15
  clear hW15 hr15 b15 h15 h14 hb14 H13 HL13
  simp only []
  go_wp2_with fail
  rw [← HW15.out]
  refine (late_calls m0 _ _ _ [[0], [-1], [0]] 0 0 W15 H15.out.slopes H15.out.crafts HR15.out).mono ?_
  rintro e W16 ⟨rfl, hb16⟩
  rw [ev_late]
  have hB := H15.out.below.trans (hb16.mono H15.out.below.size)
  have HB := Lib.hid hB
  have hl := ev_len
  clear hB hb16 x0 x1 x2 x3 x4 HW15 HR15 H15
  generalize (worths m0 sorted0).length = n6 at *
  subst hl
  simp only []
  go_wp2_with fail
  go_ret
  exact ⟨rfl, HB.out⟩
end Go.Proofs.YtcbhldfipfcjaaaGreatDoor
