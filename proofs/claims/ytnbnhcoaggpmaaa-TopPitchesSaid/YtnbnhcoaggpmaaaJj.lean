/- Roofs: convex outlines. -/
import Derived.Test.YtnbnhcoaggpmaaaJi

namespace Go.Proofs.Ytnbnhcoaggpmaaa
open Go Go.RowKit Go.Shelf
set_option maxRecDepth 100000
attribute [local go_sem] Oper.semAt_some

/-- A side stored in a box. -/
structure Set4 (W : World) (b : Nat) (x0 y0 x1 y1 : Int) (W' : World) : Prop where
  box : W'.heap[b]? = some (sideO x0 y0 x1 y1)
  same : ∀ j, j ≠ b → W'.heap[j]? = W.heap[j]?
  size : W'.heap.size = W.heap.size
  below : ∀ n, n ≤ b → Below n W W'
theorem sideSet4 {W : World} {b : Nat} {u0 u1 u2 u3 : Int} (h : W.heap[b]? = some (sideO u0 u1 u2 u3)) (x0 y0 x1 y1 : Int) :
    Set4 W b x0 y0 x1 y1 ((((W.setCell ⟨b, 0, none⟩ (.int .i64 x0)).setCell ⟨b, 1, none⟩ (.int .i64 y0)).setCell ⟨b, 2, none⟩ (.int .i64 x1)).setCell ⟨b, 3, none⟩ (.int .i64 y1)) := by
  have ho : ∀ (w : World) (i : Nat) (v : Value) (j : Nat), j ≠ b → (w.setCell ⟨b, i, none⟩ v).heap[j]? = w.heap[j]? := fun w i v j h => Below.heap_setCell _ _ _ _ h
  refine ⟨?_, fun j hj => ?_, by simp [World.setCell], fun n hn => ?_⟩
  · unfold sideO at h ⊢
    rw [heap_set (heap_set (heap_set (heap_set h 0 _) 1 _) 2 _) 3 _]; rfl
  · rw [ho _ _ _ _ hj, ho _ _ _ _ hj, ho _ _ _ _ hj, ho _ _ _ _ hj]
  · exact (((((Below.refl n W).setCell (p := ⟨b, 0, none⟩) hn _).setCell (p := ⟨b, 1, none⟩) hn _).setCell (p := ⟨b, 2, none⟩) hn _).setCell (p := ⟨b, 3, none⟩) hn _)
/-- The blocks of convex. -/
structure CvF (w : World) (A : Option Addr) (n c : Nat) (W : World) : Prop where
  l : W.heap[w.heap.size]? = some (.cells #[.slice A n c] 36 (0, 0))
  res : ∃ q : Bool, W.heap[w.heap.size + 1]? = some (.cells #[.bool q] 4 (0, 0))
  some : ∃ q : Bool, W.heap[w.heap.size + 2]? = some (.cells #[.bool q] 4 (0, 0))
  last : ∃ a b c d, W.heap[w.heap.size + 3]? = Option.some (sideO a b c d)
theorem CvF.kept {w W W' : World} {A : Option Addr} {n c : Nat} (h : CvF w A n c W) (hk : ∀ j, j < w.heap.size + 4 → W'.heap[j]? = W.heap[j]?) : CvF w A n c W' := by
  obtain ⟨h0, ⟨q1, h1⟩, ⟨q2, h2⟩, ⟨a, b, c, d, h3⟩⟩ := h
  exact ⟨(hk _ (by omega)).trans h0, ⟨q1, (hk _ (by omega)).trans h1⟩, ⟨q2, (hk _ (by omega)).trans h2⟩, ⟨a, b, c, d, (hk _ (by omega)).trans h3⟩⟩
/-- Its first loop: the iterator's box beside. -/
def CvG (w : World) (A : Option Addr) (n c : Nat) (W : World) : Prop := CvF w A n c W ∧ W.heap[w.heap.size + 4]? = some (.cells #[.slice A n c] 36 (0, 0))
/-- Its second loop. -/
def CvH (w : World) (A : Option Addr) (n c bx : Nat) (W : World) : Prop := CvF w A n c W ∧ W.heap[bx]? = some (.cells #[.slice A n c] 36 (0, 0)) ∧ W.heap[w.heap.size + 5]? = some (.deferred (some []))
theorem cv_boxes (w : World) (A : Option Addr) (n c : Nat) :
    CvF w A n c ((((w.alloc (.cells #[.slice A n c] 36)).alloc (.cells #[.bool false] 4)).alloc (.cells #[.bool false] 4)).alloc (.cells #[.int .i64 0, .int .i64 0, .int .i64 0, .int .i64 0] 65)) ∧
    Below w.heap.size w ((((w.alloc (.cells #[.slice A n c] 36)).alloc (.cells #[.bool false] 4)).alloc (.cells #[.bool false] 4)).alloc (.cells #[.int .i64 0, .int .i64 0, .int .i64 0, .int .i64 0] 65)) ∧
    ((((w.alloc (.cells #[.slice A n c] 36)).alloc (.cells #[.bool false] 4)).alloc (.cells #[.bool false] 4)).alloc (.cells #[.int .i64 0, .int .i64 0, .int .i64 0, .int .i64 0] 65)).heap.size = w.heap.size + 4 := by
  obtain ⟨w1, h1⟩ : ∃ w1, w1 = w.alloc (.cells #[.slice A n c] 36) := ⟨_, rfl⟩
  obtain ⟨w2, h2⟩ : ∃ w2, w2 = w1.alloc (.cells #[.bool false] 4) := ⟨_, rfl⟩
  obtain ⟨w3, h3⟩ : ∃ w3, w3 = w2.alloc (.cells #[.bool false] 4) := ⟨_, rfl⟩
  rw [← h1, ← h2, ← h3]
  have z1 : w1.heap.size = w.heap.size + 1 := by rw [h1]; simp
  have z2 : w2.heap.size = w.heap.size + 2 := by rw [h2]; simp [z1]
  have z3 : w3.heap.size = w.heap.size + 3 := by rw [h3]; simp [z2]
  have b1 : Below w.heap.size w w1 := by rw [h1]; exact below1 _ _
  have b2 : Below w1.heap.size w1 w2 := by rw [h2]; exact below1 _ _
  have b3 : Below w2.heap.size w2 w3 := by rw [h3]; exact below1 _ _
  have b4 := below1 w3 (.cells #[.int .i64 0, .int .i64 0, .int .i64 0, .int .i64 0] 65)
  have g1 : w1.heap[w.heap.size]? = some (.cells #[.slice A n c] 36 (0, 0)) := by rw [h1]; exact heap_alloc_self _ _
  have g2 : w2.heap[w.heap.size + 1]? = some (.cells #[.bool false] 4 (0, 0)) := by rw [h2, ← z1]; exact heap_alloc_self _ _
  have g3 : w3.heap[w.heap.size + 2]? = some (.cells #[.bool false] 4 (0, 0)) := by rw [h3, ← z2]; exact heap_alloc_self _ _
  have g4 := heap_alloc_self w3 (.cells #[.int .i64 0, .int .i64 0, .int .i64 0, .int .i64 0] 65)
  rw [z3] at g4
  exact ⟨⟨blk_below b4 (blk_below b3 (blk_below b2 g1 (by omega)) (by omega)) (by omega), ⟨false, blk_below b4 (blk_below b3 g2 (by omega)) (by omega)⟩, ⟨false, blk_below b4 g3 (by omega)⟩, ⟨0, 0, 0, 0, g4⟩⟩,
    b1.trans ((b2.mono (by omega)).trans ((b3.mono (by omega)).trans (b4.mono (by omega)))), by simp [z3]⟩
theorem CvH.kept {w W W' : World} {A : Option Addr} {n c bx k : Nat} (h : CvH w A n c bx W) (hk : ∀ j, j < w.heap.size + k → W'.heap[j]? = W.heap[j]?) (h6 : 6 ≤ k) (hb : bx < w.heap.size + k) : CvH w A n c bx W' :=
  ⟨h.1.kept fun j hj => hk j (by omega), (hk _ hb).trans h.2.1, (hk _ (by omega)).trans h.2.2⟩
/-- Within a round of the second loop. -/
structure CvL (w : World) (A : Option Addr) (n c bx k : Nat) (W wr : World) : Prop where
  fr : FrK w k (CvH w A n c bx) wr
  same : ∀ j, j < W.heap.size → w.heap.size + 3 ≤ j → wr.heap[j]? = W.heap[j]?
  size : W.heap.size ≤ wr.heap.size
theorem CvL.later {w : World} {A : Option Addr} {n c bx k : Nat} {W wr w' : World} (h : CvL w A n c bx k W wr) (hb : Below wr.heap.size wr w') (h6 : 6 ≤ k) (hbx : bx < w.heap.size + k) : CvL w A n c bx k W w' :=
  ⟨⟨h.fr.below.trans (hb.mono h.fr.below.size), Nat.le_trans h.fr.big hb.size, h.fr.own.kept (fun j hj => hb.block j (Nat.lt_of_lt_of_le hj h.fr.big)) h6 hbx⟩, fun j hj h3 => (hb.block j (Nat.lt_of_lt_of_le hj h.size)).trans (h.same j hj h3), Nat.le_trans h.size hb.size⟩
theorem CvL.setBool {w : World} {A : Option Addr} {n c bx k b : Nat} {W wr : World} (h : CvL w A n c bx k W wr) (hb : b = w.heap.size + 1 ∨ b = w.heap.size + 2) (hbx : w.heap.size + 3 ≤ bx) (q : Bool) :
    (∃ q' : Bool, wr.cell? ⟨b, 0, none⟩ = some (.bool q')) ∧ wr.frozen? ⟨b, 0, none⟩ = false ∧ CvL w A n c bx k W (wr.setCell ⟨b, 0, none⟩ (.bool q)) := by
  have ho : ∀ j, j ≠ b → (wr.setCell ⟨b, 0, none⟩ (.bool q)).heap[j]? = wr.heap[j]? := fun j hj => Below.heap_setCell _ _ _ _ hj
  have hsz : (wr.setCell ⟨b, 0, none⟩ (.bool q)).heap.size = wr.heap.size := by simp [World.setCell]
  obtain ⟨⟨h0, ⟨q1, h1⟩, ⟨q2, h2⟩, h3⟩, h4, h5⟩ := h.fr.own
  have hwb : w.heap.size ≤ b := by omega
  have hbw := h.fr.below.setCell (p := ⟨b, 0, none⟩) hwb (.bool q)
  obtain ⟨a0, a1, a2, a3, h3⟩ := h3
  have hl : ∃ a b' c d, (wr.setCell ⟨b, 0, none⟩ (.bool q)).heap[w.heap.size + 3]? = some (sideO a b' c d) := ⟨a0, a1, a2, a3, (ho _ (by omega)).trans h3⟩
  rcases hb with rfl | rfl
  · exact ⟨⟨q1, (cell_blk h1 0).trans rfl⟩, frozen_blk h1 0, ⟨⟨hbw, by have := h.fr.big; omega, ⟨(ho _ (by omega)).trans h0, ⟨q, (heap_set h1 0 _).trans rfl⟩, ⟨q2, (ho _ (by omega)).trans h2⟩, hl⟩, (ho _ (by omega)).trans h4, (ho _ (by omega)).trans h5⟩, fun j hj h3 => (ho j (by omega)).trans (h.same j hj h3), by have := h.size; omega⟩⟩
  · exact ⟨⟨q2, (cell_blk h2 0).trans rfl⟩, frozen_blk h2 0, ⟨⟨hbw, by have := h.fr.big; omega, ⟨(ho _ (by omega)).trans h0, ⟨q1, (ho _ (by omega)).trans h1⟩, ⟨q, (heap_set h2 0 _).trans rfl⟩, hl⟩, (ho _ (by omega)).trans h4, (ho _ (by omega)).trans h5⟩, fun j hj h3 => (ho j (by omega)).trans (h.same j hj h3), by have := h.size; omega⟩⟩
theorem CvL.post {w : World} {A : Option Addr} {n c bx k lo : Nat} {W wr : World} (h : CvL w A n c bx k W wr) (hlo : w.heap.size + 3 ≤ lo) (hbig : lo + 2 ≤ W.heap.size) : KeptJ (fun j => j = lo ∨ j = lo + 1) W wr ∧ FrK w k (CvH w A n c bx) wr :=
  ⟨⟨h.size, fun j hj => h.same j (by rcases hj with e | e <;> omega) (by rcases hj with e | e <;> omega)⟩, h.fr⟩
theorem CvL.setLast {w : World} {A : Option Addr} {n c bx k lo : Nat} {W wr W' : World} {x0 y0 x1 y1 : Int} (h : CvL w A n c bx k W wr) (hs : Set4 wr (w.heap.size + 3) x0 y0 x1 y1 W') (hbx : w.heap.size + 4 ≤ bx) (hlo : w.heap.size + 4 ≤ lo) (hbig : lo + 2 ≤ W.heap.size) : KeptJ (fun j => j = lo ∨ j = lo + 1) W W' ∧ FrK w k (CvH w A n c bx) W' := by
  obtain ⟨⟨h0, ⟨q1, h1⟩, ⟨q2, h2⟩, h3⟩, h4, h5⟩ := h.fr.own
  have hz := hs.size
  refine ⟨⟨by have := h.size; omega, fun j hj => (hs.same j (by rcases hj with e | e <;> omega)).trans (h.same j (by rcases hj with e | e <;> omega) (by rcases hj with e | e <;> omega))⟩, h.fr.below.trans (hs.below _ (by omega)), by have := h.fr.big; omega,
    ⟨(hs.same _ (by omega)).trans h0, ⟨q1, (hs.same _ (by omega)).trans h1⟩, ⟨q2, (hs.same _ (by omega)).trans h2⟩, ⟨_, _, _, _, hs.box⟩⟩, (hs.same _ (by omega)).trans h4, (hs.same _ (by omega)).trans h5⟩
set_option maxHeartbeats 8000000 in
theorem convex_calls (v : Value) (ps : List (Int × Int)) (w : World) (h : AtsAt w w.heap.size v ps) : Calls Try.prog 35 #[v] w (BoolP w) := by
  obtain ⟨A, c, rfl, _⟩ := id h
  refine (callsIn_wide (n := 10)).1 ?_
  have hFw : ∀ f, Fence.wide.fn f := fun _ => trivial
  have HA := Lib.hid h
  clear h
  refine callsIn_of_wp_marks Try.func35 rfl trivial ?_ rfl
  simp only [Try.ntmps35, List.size_toArray, List.length_cons, List.length_nil, Nat.reduceAdd, Nat.reduceSub, Array.replicate_succ, Array.replicate_zero, List.push_toArray, List.append_toArray, List.nil_append, List.cons_append]
  obtain ⟨hf0, hb0, hz⟩ := cv_boxes w A ps.length c
  obtain ⟨W0, hW0⟩ : ∃ W0, W0 = (((w.alloc (.cells #[.slice A ps.length c] 36)).alloc (.cells #[.bool false] 4)).alloc (.cells #[.bool false] 4)).alloc (.cells #[.int .i64 0, .int .i64 0, .int .i64 0, .int .i64 0] 65) := ⟨_, rfl⟩
  have c0 := (cell_blk hf0.l 0).trans rfl
  rw [← hW0] at hf0 hb0 hz
  have H0 := Lib.hid (And.intro hf0 (And.intro hb0 hz))
  clear hf0 hb0
  gi_wp2_with fail
  simp only [Nat.add_assoc, Nat.reduceAdd]
  rw [← hW0]
  clear c0 hW0
  refine (callsIn_wide.2 (sides_calls A ps.length c W0)).mono ?_
  rintro e W1 ⟨rfl, hW1⟩
  have hb1 : Below W0.heap.size W0 W1 := by rw [hW1]; exact below1 _ _
  have g2 : W1.heap[w.heap.size + 4]? = some (.cells #[.slice A ps.length c] 36 (0, 0)) := by rw [hW1, ← hz]; exact heap_alloc_self _ _
  have hz1 : W1.heap.size = w.heap.size + 5 := by rw [hW1]; simp [hz]
  have hk : FrK w 5 (CvG w A ps.length c) W1 := ⟨H0.out.2.1.trans (hb1.mono (by omega)), by omega, H0.out.1.kept fun j hj => hb1.block j (by omega), g2⟩
  have HK := Lib.hid (And.intro hk hz1)
  rw [hz]
  clear hW1 hb1 g2 hz1 hk hz H0
  gi_wp2_with fail
  have hlo := HK.out.2
  refine wpIn_rangeSides A ps.length c ps (w.heap.size + 4) w.heap.size (d := 6) rfl (FrK w 5 (CvG w A ps.length c)) (fun _ _ => False) ?hIa ?hI ?hIx ?h0 ?assign ?body ?done ?stop
  case hIa => exact fun W h => ⟨h.own.2, HA.out.below h.below, h.below.size⟩
  case hI => exact fun W W' h hb => h.bel hb (fun j hj => by omega) fun hF hk => ⟨hF.1.kept fun j hj => hk j (by omega), (hk _ (by omega)).trans hF.2⟩
  case hIx => exact fun _ _ _ h => h.elim
  case h0 => exact fun W hb hz => ⟨HK.out.1.below.trans (hb.mono (by omega)), by omega, HK.out.1.own.1.kept fun j hj => hb.block j (by omega), (hb.block _ (by omega)).trans HK.out.1.own.2⟩
  case assign =>
    intro l i x0 y0 x1 y1 W K hK
    unfold sideG sideO at *
    gi_wp2_with fail
    simpa using hK
  case stop => exact fun _ _ h => h.elim
  case body =>
    intro l sb i x0 y0 x1 y1 W hI hsb hbig hloop hl
    have hsbl := lt_blk hsb
    obtain ⟨q0, q1, q2, q3⟩ : W.cell? ⟨sb, 0, none⟩ = some (.int .i64 x0) ∧ W.cell? ⟨sb, 1, none⟩ = some (.int .i64 y0) ∧ W.cell? ⟨sb, 2, none⟩ = some (.int .i64 x1) ∧ W.cell? ⟨sb, 3, none⟩ = some (.int .i64 y1) := ⟨(cell_blk hsb 0).trans rfl, (cell_blk hsb 1).trans rfl, (cell_blk hsb 2).trans rfl, (cell_blk hsb 3).trans rfl⟩
    obtain ⟨a0, a1, a2, a3, hlast⟩ := hI.own.1.last
    obtain ⟨r0, r1, r2, r3⟩ : W.cell? ⟨w.heap.size + 3, 0, none⟩ = some (.int .i64 a0) ∧ W.cell? ⟨w.heap.size + 3, 1, none⟩ = some (.int .i64 a1) ∧ W.cell? ⟨w.heap.size + 3, 2, none⟩ = some (.int .i64 a2) ∧ W.cell? ⟨w.heap.size + 3, 3, none⟩ = some (.int .i64 a3) := ⟨(cell_blk hlast 0).trans rfl, (cell_blk hlast 1).trans rfl, (cell_blk hlast 2).trans rfl, (cell_blk hlast 3).trans rfl⟩
    have fr : ∀ j, W.frozen? ⟨w.heap.size + 3, j, none⟩ = false := frozen_blk hlast
    have hs4 := sideSet4 hlast x0 y0 x1 y1
    have hfin : KeptJ (fun j => j = W1.heap.size ∨ j = W1.heap.size + 1) W ((((W.setCell ⟨w.heap.size + 3, 0, none⟩ (.int .i64 x0)).setCell ⟨w.heap.size + 3, 1, none⟩ (.int .i64 y0)).setCell ⟨w.heap.size + 3, 2, none⟩ (.int .i64 x1)).setCell ⟨w.heap.size + 3, 3, none⟩ (.int .i64 y1)) ∧
        FrK w 5 (CvG w A ps.length c) ((((W.setCell ⟨w.heap.size + 3, 0, none⟩ (.int .i64 x0)).setCell ⟨w.heap.size + 3, 1, none⟩ (.int .i64 y0)).setCell ⟨w.heap.size + 3, 2, none⟩ (.int .i64 x1)).setCell ⟨w.heap.size + 3, 3, none⟩ (.int .i64 y1)) := by
      generalize (((W.setCell ⟨w.heap.size + 3, 0, none⟩ (.int .i64 x0)).setCell ⟨w.heap.size + 3, 1, none⟩ (.int .i64 y0)).setCell ⟨w.heap.size + 3, 2, none⟩ (.int .i64 x1)).setCell ⟨w.heap.size + 3, 3, none⟩ (.int .i64 y1) = W' at *
      have hbg := hI.big
      have hz := hs4.size
      obtain ⟨⟨h0, ⟨q1, h1⟩, ⟨q2, h2⟩, _⟩, h4⟩ := hI.own
      exact ⟨⟨by omega, fun j hj => hs4.same j (by rcases hj with e | e <;> omega)⟩, hI.below.trans (hs4.below _ (by omega)), by omega, ⟨(hs4.same _ (by omega)).trans h0, ⟨q1, (hs4.same _ (by omega)).trans h1⟩, ⟨q2, (hs4.same _ (by omega)).trans h2⟩, ⟨_, _, _, _, hs4.box⟩⟩, (hs4.same _ (by omega)).trans h4⟩
    have HFIN := Lib.hid hfin
    clear hfin hs4 hlast hI hsb hloop hl
    gi_wp2_with fail
    exact HFIN.out
  case done =>
    intro W hI hD
    have l0 := (cell_blk hI.own.1.l 0).trans rfl
    have hD5 : W.heap[w.heap.size + 5]? = some (.deferred (some [])) := by rw [← hlo]; exact hD
    have HI := Lib.hid (And.intro hI hD5)
    clear hI hD hD5
    gi_wp2_with fail
    refine (callsIn_wide.2 (sides_calls A ps.length c W)).mono ?_
    rintro e W2 ⟨rfl, hW2⟩
    have hbW : Below W.heap.size W W2 := by rw [hW2]; exact below1 _ _
    have gx : W2.heap[W.heap.size]? = some (.cells #[.slice A ps.length c] 36 (0, 0)) := by rw [hW2]; exact heap_alloc_self _ _
    have hzW : W2.heap.size = W.heap.size + 1 := by rw [hW2]; simp
    have h6W := lt_blk HI.out.2
    obtain ⟨k2, hk2⟩ : ∃ k2, W.heap.size + 1 = w.heap.size + k2 := ⟨W.heap.size + 1 - w.heap.size, by omega⟩
    have h6 : 6 ≤ k2 := by omega
    have hbxk : W.heap.size < w.heap.size + k2 := by omega
    have hbx3 : w.heap.size + 4 ≤ W.heap.size := by omega
    have hk : FrK w k2 (CvH w A ps.length c W.heap.size) W2 := ⟨HI.out.1.below.trans (hbW.mono (by omega)), by omega, HI.out.1.own.1.kept fun j hj => hbW.block j (by omega), gx, blk_below hbW HI.out.2 h6W⟩
    have HK2 := Lib.hid (And.intro hk hzW)
    clear hW2 hbW gx hzW hk l0
    gi_wp2_with fail
    obtain ⟨bx, hbx⟩ : ∃ bx, bx = W.heap.size := ⟨_, rfl⟩
    rw [← hbx] at HK2 hk2 hbxk hbx3 ⊢
    clear HI h6W hbx
    have hlo2 := HK2.out.2
    refine wpIn_rangeSides A ps.length c ps bx w.heap.size (d := 8) rfl (FrK w k2 (CvH w A ps.length c bx)) (fun c' W' => c' = .ret ∧ FrK w k2 (CvH w A ps.length c bx) W') ?hIa ?hI ?hIx ?h0 ?assign ?body ?done ?stop
    case hIa => exact fun W h => ⟨h.own.2.1, HA.out.below h.below, h.below.size⟩
    case hI => exact fun W W' h hb => h.bel hb (fun j hj => by omega) fun hF hk => hF.kept hk h6 hbxk
    case hIx => exact fun c' W W' h hb => ⟨h.1, h.2.bel hb (fun j hj => by omega) fun hF hk => hF.kept hk h6 hbxk⟩
    case h0 => exact fun W hb hz => ⟨HK2.out.1.below.trans (hb.mono (by omega)), by omega, HK2.out.1.own.kept (k := k2) (fun j hj => hb.block j (by omega)) h6 hbxk⟩
    case assign =>
      intro l i x0 y0 x1 y1 W K hK
      unfold sideG sideO at *
      gi_wp2_with fail
      simpa using hK
    case body =>
      intro l sb i x0 y0 x1 y1 V hI hsb hbig hloop hl
      have hsbl := lt_blk hsb
      have l0 := (cell_blk hI.own.1.l 0).trans rfl
      have HSB := Lib.hid hsb
      have HCL := Lib.hid (⟨hI, fun _ _ _ => rfl, Nat.le_refl _⟩ : CvL w A ps.length c bx k2 V V)
      have hpl : ps.length ≤ 9223372036854775807 := by
        obtain ⟨_, _, e, h1, _⟩ := HA.out
        exact h1
      clear hI hsb hloop hl
      gi_wp2_with fail
      gi_loopw [23] (fun iv wr => ∃ j : Nat, j ≤ ps.length ∧ iv = .int .i64 (j : Int) ∧ Hid (CvL w A ps.length c bx k2 V wr)) (fun iv _ => ps.length - (intOf iv).toNat)
      case atStart => exact ⟨0, Nat.zero_le _, rfl, HCL⟩
      case round =>
        obtain ⟨j, hj, rfl, HL⟩ := hrel
        obtain ⟨vr, rfl⟩ : ∃ vr, vr = wr := ⟨_, rfl⟩
        have sb3 : w.heap.size + 3 ≤ sb := by omega
        have hsv := (HL.out.same sb hsbl sb3).trans HSB.out
        by_cases hjl : j < ps.length
        · have hji : (j : Int) < (ps.length : Int) := by omega
          have hj0 : (0 : Int) ≤ (j : Int) := by omega
          have hjadd : IntKind.i64.wrap ((j : Int) + 1) = (j : Int) + 1 := IntWalk.i64_in _ (by omega)
          obtain ⟨b, o, rfl, hbl, k0, k1⟩ : ∃ b o, A = some ⟨b, o, none⟩ ∧ b < vr.heap.size ∧ vr.cell? ⟨b, o + j * 2, none⟩ = some (.int .i64 ps[j].1) ∧ vr.cell? ⟨b, o + j * 2 + 1, none⟩ = some (.int .i64 ps[j].2) := by
            obtain ⟨A', c', e, _, _, h3⟩ := HA.out.below HL.out.fr.below
            simp only [Value.slice.injEq] at e
            obtain ⟨rfl, _, _⟩ := e
            obtain ⟨b, o, e1, hlt, hc⟩ := h3 (fun e => by rw [e] at hjl; simp at hjl)
            exact ⟨b, o, e1, Nat.lt_of_lt_of_le hlt HL.out.fr.below.size, hc j ps[j] (List.getElem?_eq_getElem hjl)⟩
          generalize ps[j] = pj at *
          have s0 : ∀ ob, (vr.alloc ob).cell? ⟨sb, 0, none⟩ = some (.int .i64 x0) := fun ob => (cell_blk (blk_below (below1 vr ob) hsv (lt_blk hsv)) 0).trans rfl
          have s1 : ∀ ob, (vr.alloc ob).cell? ⟨sb, 1, none⟩ = some (.int .i64 y0) := fun ob => (cell_blk (blk_below (below1 vr ob) hsv (lt_blk hsv)) 1).trans rfl
          have s2 : ∀ ob, (vr.alloc ob).cell? ⟨sb, 2, none⟩ = some (.int .i64 x1) := fun ob => (cell_blk (blk_below (below1 vr ob) hsv (lt_blk hsv)) 2).trans rfl
          have s3 : ∀ ob, (vr.alloc ob).cell? ⟨sb, 3, none⟩ = some (.int .i64 y1) := fun ob => (cell_blk (blk_below (below1 vr ob) hsv (lt_blk hsv)) 3).trans rfl
          clear hsv
          gi_wp2_with fail
          refine (CallsIn.inRound l (callsIn_wide.2 (of_calls _ _ _ _ _ _ _))).mono ?_
          rintro e w4 ⟨⟨n4, rfl⟩, hb4⟩
          have HL4 := Lib.hid ((HL.out.later (below1 vr _) h6 hbxk).later hb4 h6 hbxk)
          clear hb4 k0 k1 s0 s1 s2 s3
          gi_wp2_with fail
          refine (CallsIn.inRound l (callsIn_wide.2 (down_calls n4 w4))).mono ?_
          rintro e w5 ⟨⟨q5, rfl⟩, hb5⟩
          have HL5 := Lib.hid (HL4.out.later hb5 h6 hbxk)
          clear hb5
          cases q5
          · gi_wp2_with fail
            refine (CallsIn.inRound l (callsIn_wide.2 (up_calls n4 w5))).mono ?_
            rintro e w6 ⟨⟨q6, rfl⟩, hb6⟩
            have HL6 := Lib.hid (HL5.out.later hb6 h6 hbxk)
            clear hb6
            cases q6
            · gi_wp2_with fail
              go_round
              case rel => exact ⟨j + 1, by omega, by go_num, HL6⟩
              case measure => simp [intOf]; omega
            · obtain ⟨⟨q', k6⟩, f6, hset⟩ := HL6.out.setBool (.inr rfl) (by omega) true
              have HL7 := Lib.hid hset
              clear hset
              gi_wp2_with fail
              go_round
              case rel => exact ⟨j + 1, by omega, by go_num, HL7⟩
              case measure => simp [intOf]; omega
          · obtain ⟨⟨q', k6⟩, f6, hset⟩ := HL5.out.setBool (.inl rfl) (by omega) false
            have HL7 := Lib.hid (hset.post (lo := W2.heap.size) (by omega) (by omega))
            clear hset
            gi_wp2_with fail
            exact ⟨HL7.out.1, rfl, HL7.out.2⟩
        · have hji : ¬ (j : Int) < (ps.length : Int) := by omega
          obtain ⟨a0, a1, a2, a3, hlast⟩ := HL.out.fr.own.1.last
          have hq : ∀ w4, Below vr.heap.size vr w4 → (w4.cell? ⟨w.heap.size + 3, 0, none⟩ = some (.int .i64 a0) ∧ w4.cell? ⟨w.heap.size + 3, 1, none⟩ = some (.int .i64 a1) ∧ w4.cell? ⟨w.heap.size + 3, 2, none⟩ = some (.int .i64 a2) ∧ w4.cell? ⟨w.heap.size + 3, 3, none⟩ = some (.int .i64 a3)) ∧
              w4.cell? ⟨sb, 0, none⟩ = some (.int .i64 x0) ∧ w4.cell? ⟨sb, 1, none⟩ = some (.int .i64 y0) ∧ w4.cell? ⟨sb, 2, none⟩ = some (.int .i64 x1) ∧ w4.cell? ⟨sb, 3, none⟩ = some (.int .i64 y1) := fun w4 h4 => by
            have e1 := blk_below h4 hlast (lt_blk hlast)
            have e2 := blk_below h4 hsv (lt_blk hsv)
            exact ⟨⟨(cell_blk e1 0).trans rfl, (cell_blk e1 1).trans rfl, (cell_blk e1 2).trans rfl, (cell_blk e1 3).trans rfl⟩, (cell_blk e2 0).trans rfl, (cell_blk e2 1).trans rfl, (cell_blk e2 2).trans rfl, (cell_blk e2 3).trans rfl⟩
          have HQ := Lib.hid hq
          have HLS := Lib.hid hlast
          clear hq hlast hsv
          gi_wp2_with fail
          refine wpIn_region_rg_tail 14 Grows (fun | 1 => .any atV (fun _ _ _ => True) | 3 => .any atV (fun _ _ _ => True) | 4 => .any intW (fun _ _ _ => True) | 5 => .any intW (fun _ _ _ => True) | 6 => .any boolW (fun _ _ _ => True) | 9 => .any atV (fun _ _ _ => True) | 11 => .any atV (fun _ _ _ => True) | 12 => .any intW (fun _ _ _ => True) | _ => .fn) (by kernel_rfl) (fun _ => trivial) (by kernel_rfl) Grows.refl growsT (by intro i; split <;> first | trivial | exact fun _ _ _ _ _ _ => trivial) ?_
          iterate 1 (refine rg_step fun K hK => ?_; apply rg_fn rfl; (intro w4 hw; obtain ⟨⟨r0, r1, r2, r3⟩, t0, t1, t2, t3⟩ := HQ.out w4 hw.undrew; go_simp; try rfl); go_simp; (try with_reducible refine hK _ _ ?_); try clear hK K)
          refine rg_step fun K hK => ?_
          apply rg_call_any (.inr ⟨l, rfl⟩) rfl
          · intro w4 hw
            go_simp
            exact ⟨rfl, rfl⟩
          · intro w4 hw
            refine (way_calls _ _ _ _ w4).mono ?_
            rintro e w5 ⟨⟨u1, v1, rfl⟩, hb⟩
            exact ⟨_, rfl, hb, ⟨u1, v1, rfl⟩, trivial⟩
          rintro v5 ⟨u1, v1, rfl⟩
          go_simp
          (try with_reducible refine hK _ _ ?_)
          try clear hK K
          iterate 1 (refine rg_step fun K hK => ?_; apply rg_fn rfl; (intro w4 hw; obtain ⟨⟨r0, r1, r2, r3⟩, t0, t1, t2, t3⟩ := HQ.out w4 hw.undrew; go_simp; try rfl); go_simp; (try with_reducible refine hK _ _ ?_); try clear hK K)
          refine rg_step fun K hK => ?_
          apply rg_call_any (.inr ⟨l, rfl⟩) rfl
          · intro w4 hw
            go_simp
            exact ⟨rfl, rfl⟩
          · intro w4 hw
            refine (way_calls _ _ _ _ w4).mono ?_
            rintro e w5 ⟨⟨u2, v2, rfl⟩, hb⟩
            exact ⟨_, rfl, hb, ⟨u2, v2, rfl⟩, trivial⟩
          rintro v5 ⟨u2, v2, rfl⟩
          go_simp
          (try with_reducible refine hK _ _ ?_)
          try clear hK K
          refine rg_step fun K hK => ?_
          apply rg_call_any (.inr ⟨l, rfl⟩) rfl
          · intro w4 hw
            go_simp
            exact ⟨rfl, rfl⟩
          · intro w4 hw
            refine (cross_calls _ _ _ _ w4).mono ?_
            rintro e w5 ⟨⟨n1, rfl⟩, hb⟩
            exact ⟨_, rfl, hb, ⟨n1, rfl⟩, trivial⟩
          rintro v5 ⟨n1, rfl⟩
          go_simp
          (try with_reducible refine hK _ _ ?_)
          try clear hK K
          refine rg_step fun K hK => ?_
          apply rg_call_any (.inr ⟨l, rfl⟩) rfl
          · intro w4 hw
            go_simp
            exact ⟨rfl, rfl⟩
          · intro w4 hw
            refine (signOf_calls _ w4).mono ?_
            rintro e w5 ⟨⟨n2, rfl⟩, hb⟩
            exact ⟨_, rfl, hb, ⟨n2, rfl⟩, trivial⟩
          rintro v5 ⟨n2, rfl⟩
          go_simp
          (try with_reducible refine hK _ _ ?_)
          try clear hK K
          refine rg_step fun K hK => ?_
          apply rg_call_any (.inr ⟨l, rfl⟩) rfl
          · intro w4 hw
            go_simp
            exact ⟨rfl, rfl⟩
          · intro w4 hw
            refine (flat_calls _ w4).mono ?_
            rintro e w5 ⟨⟨qf, rfl⟩, hb⟩
            exact ⟨_, rfl, hb, ⟨qf, rfl⟩, trivial⟩
          rintro v5 ⟨qf, rfl⟩
          go_simp
          (try with_reducible refine hK _ _ ?_)
          try clear hK K
          iterate 1 (refine rg_step fun K hK => ?_; apply rg_fn rfl; (intro w4 hw; go_simp; try rfl); go_simp; (try with_reducible refine hK _ _ ?_); try clear hK K)
          cases qf
          · iterate 6 (refine rg_step fun K hK => ?_; apply rg_skip rfl; go_simp; (try with_reducible refine hK _ _ ?_); try clear hK K)
            refine rg_nil ?_
            intro W6 hw6 _
            replace hw6 := hw6.undrew
            have HL6 := Lib.hid (HL.out.later hw6 h6 hbxk)
            have hlast := blk_below hw6 HLS.out (lt_blk HLS.out)
            obtain ⟨⟨r0, r1, r2, r3⟩, t0, t1, t2, t3⟩ := HQ.out W6 hw6
            have fr : ∀ j, W6.frozen? ⟨w.heap.size + 3, j, none⟩ = false := frozen_blk hlast
            have HFIN := Lib.hid (HL6.out.setLast (sideSet4 hlast x0 y0 x1 y1) (by omega) (lo := W2.heap.size) (by omega) (by omega))
            clear hw6 hlast
            simp only [List.drop_succ_cons, List.drop_zero]
            gi_wp2_with fail
            exact HFIN.out
          · skip
            iterate 1 (refine rg_step fun K hK => ?_; apply rg_fn rfl; (intro w4 hw; obtain ⟨⟨r0, r1, r2, r3⟩, t0, t1, t2, t3⟩ := HQ.out w4 hw.undrew; go_simp; try rfl); go_simp; (try with_reducible refine hK _ _ ?_); try clear hK K)
            refine rg_step fun K hK => ?_
            apply rg_call_any (.inr ⟨l, rfl⟩) rfl
            · intro w4 hw
              go_simp
              exact ⟨rfl, rfl⟩
            · intro w4 hw
              refine (way_calls _ _ _ _ w4).mono ?_
              rintro e w5 ⟨⟨u3, v3, rfl⟩, hb⟩
              exact ⟨_, rfl, hb, ⟨u3, v3, rfl⟩, trivial⟩
            rintro v5 ⟨u3, v3, rfl⟩
            go_simp
            (try with_reducible refine hK _ _ ?_)
            try clear hK K
            iterate 1 (refine rg_step fun K hK => ?_; apply rg_fn rfl; (intro w4 hw; obtain ⟨⟨r0, r1, r2, r3⟩, t0, t1, t2, t3⟩ := HQ.out w4 hw.undrew; go_simp; try rfl); go_simp; (try with_reducible refine hK _ _ ?_); try clear hK K)
            refine rg_step fun K hK => ?_
            apply rg_call_any (.inr ⟨l, rfl⟩) rfl
            · intro w4 hw
              go_simp
              exact ⟨rfl, rfl⟩
            · intro w4 hw
              refine (way_calls _ _ _ _ w4).mono ?_
              rintro e w5 ⟨⟨u4, v4, rfl⟩, hb⟩
              exact ⟨_, rfl, hb, ⟨u4, v4, rfl⟩, trivial⟩
            rintro v5 ⟨u4, v4, rfl⟩
            go_simp
            (try with_reducible refine hK _ _ ?_)
            try clear hK K
            refine rg_step fun K hK => ?_
            apply rg_call_any (.inr ⟨l, rfl⟩) rfl
            · intro w4 hw
              go_simp
              exact ⟨rfl, rfl⟩
            · intro w4 hw
              refine (dot_calls _ _ _ _ w4).mono ?_
              rintro e w5 ⟨⟨n3, rfl⟩, hb⟩
              exact ⟨_, rfl, hb, ⟨n3, rfl⟩, trivial⟩
            rintro v5 ⟨n3, rfl⟩
            go_simp
            (try with_reducible refine hK _ _ ?_)
            try clear hK K
            iterate 1 (refine rg_step fun K hK => ?_; apply rg_fn rfl; (intro w4 hw; go_simp; try rfl); go_simp; (try with_reducible refine hK _ _ ?_); try clear hK K)
            refine rg_nil ?_
            intro W6 hw6 _
            replace hw6 := hw6.undrew
            have HL6 := Lib.hid (HL.out.later hw6 h6 hbxk)
            have hlast := blk_below hw6 HLS.out (lt_blk HLS.out)
            obtain ⟨⟨r0, r1, r2, r3⟩, t0, t1, t2, t3⟩ := HQ.out W6 hw6
            have fr : ∀ j, W6.frozen? ⟨w.heap.size + 3, j, none⟩ = false := frozen_blk hlast
            have HFIN := Lib.hid (HL6.out.setLast (sideSet4 hlast x0 y0 x1 y1) (by omega) (lo := W2.heap.size) (by omega) (by omega))
            obtain ⟨⟨q', k6⟩, f6, hset⟩ := HL6.out.setBool (.inl rfl) (by omega) false
            have HL7 := Lib.hid (hset.post (lo := W2.heap.size) (by omega) (by omega))
            clear hw6 hlast hset
            simp only [List.drop_succ_cons, List.drop_zero]
            by_cases hn3 : n3 < 0
            · gi_wp2_with fail
              exact ⟨HL7.out.1, rfl, HL7.out.2⟩
            · gi_wp2_with fail
              have hX := HFIN.out
              first | exact hX | (rw [hlo2, hk2] at hX; exact hX)
    case done =>
      intro V hI hD
      obtain ⟨⟨_, ⟨q1, h1⟩, ⟨q2, h2⟩, _⟩, _, h5⟩ := id hI.own
      have o1 : V.cell? ⟨w.heap.size + 1, 0, none⟩ = some (.bool q1) := (cell_blk h1 0).trans rfl
      have f1 := frozen_blk h1 0
      have o2 : V.cell? ⟨w.heap.size + 2, 0, none⟩ = some (.bool q2) := (cell_blk h2 0).trans rfl
      have ho : ∀ j, j ≠ w.heap.size + 1 → (V.setCell ⟨w.heap.size + 1, 0, none⟩ (.bool q2)).heap[j]? = V.heap[j]? := fun j hj => Below.heap_setCell _ _ _ _ hj
      have hset : (V.setCell ⟨w.heap.size + 1, 0, none⟩ (.bool q2)).heap[w.heap.size + 1]? = some (.cells #[.bool q2] 4 (0, 0)) := (heap_set h1 0 _).trans rfl
      have hd2 := (ho W2.heap.size (by omega)).trans hD
      have hd5 := (ho (w.heap.size + 5) (by omega)).trans h5
      have hb' : Below w.heap.size w (V.setCell ⟨w.heap.size + 1, 0, none⟩ (.bool q2)) := hI.below.setCell (p := ⟨w.heap.size + 1, 0, none⟩) (Nat.le_succ _) _
      have hz' : w.heap.size + 5 ≤ (V.setCell ⟨w.heap.size + 1, 0, none⟩ (.bool q2)).heap.size := by simp [World.setCell]; have := hI.big; omega
      have HE := Lib.hid (And.intro hset (And.intro hd2 (And.intro hd5 (And.intro hb' hz'))))
      clear hI hD h1 h2 h5 ho hset hd2 hd5 hb' hz'
      gi_wp2_with fail
      refine bodyPostM_ret (b := w.heap.size + 5) (hi := W2.heap.size + 1) ⟨W2.heap.size, by omega, rfl, HE.out.2.1, w.heap.size + 5, by omega, by first | rfl | rw [hlo], HE.out.2.2.1, Nat.le_refl _⟩ fun w' hw' => ?_
      exact ⟨_, results_bool (by rfl) (by rfl) (hw'.cells HE.out.1), ⟨q2, rfl⟩, HE.out.2.2.2.1.trans (hw'.below (by omega) HE.out.2.2.2.2)⟩
    case stop =>
      rintro c' V ⟨rfl, hI⟩ hD
      obtain ⟨⟨_, ⟨q1, h1⟩, _, _⟩, _, h5⟩ := id hI.own
      have HE := Lib.hid (And.intro h1 (And.intro hD (And.intro h5 hI)))
      clear hI hD h1 h5
      gi_wp2_with fail
      refine bodyPostM_ret (b := w.heap.size + 5) (hi := W2.heap.size + 1) ⟨W2.heap.size, by omega, rfl, HE.out.2.1, w.heap.size + 5, by omega, by first | rfl | rw [hlo], HE.out.2.2.1, Nat.le_refl _⟩ fun w' hw' => ?_
      exact ⟨_, results_bool (by rfl) (by rfl) (hw'.cells HE.out.1), ⟨q1, rfl⟩, HE.out.2.2.2.below.trans (hw'.below (by omega) (by have := HE.out.2.2.2.big; omega))⟩
end Go.Proofs.Ytnbnhcoaggpmaaa
