/- TopPitches: the walk. -/
import Derived.Test.YtnbnhcoaggpmaaaJs

namespace Go.Proofs.Ytnbnhcoaggpmaaa
open Go Go.RowKit Go.Shelf
set_option maxRecDepth 100000
attribute [local go_sem] Oper.semAt_some

theorem pitS_1 {w W : World} {x y : FaceS} {cx cy : Value} {lo hi : Int} (hb : Below w.heap.size w W) (hc : W.heap[w.heap.size + 1]? = some (.cells #[.int .i64 lo, .int .i64 hi] 29 (0, 0))) : PitS w W.heap.size (W.heap.size + 1) x y cx cy lo hi ((W.alloc (faceO x cx)).alloc (faceO y cy)).drew := by
  have hl := lt_blk hc
  have h2 := two_allocs W (faceO x cx) (faceO y cy)
  exact ⟨(hb.trans (h2.mono hb.size)).drew, blk_below h2 hc hl, blk_below (below1 _ _) (heap_alloc_self _ _) (by simp), heap_alloc_two _ _ _, by omega, by omega, by omega⟩
theorem pitS_2 {w W : World} {x y : FaceS} {cx cy : Value} {lo hi : Int} (hb : Below w.heap.size w W) (hc : W.heap[w.heap.size + 1]? = some (.cells #[.int .i64 lo, .int .i64 hi] 29 (0, 0))) : PitS w (W.heap.size + 1) W.heap.size x y cx cy lo hi ((W.alloc (faceO y cy)).alloc (faceO x cx)).drew := by
  have hl := lt_blk hc
  have h2 := two_allocs W (faceO y cy) (faceO x cx)
  exact ⟨(hb.trans (h2.mono hb.size)).drew, blk_below h2 hc hl, heap_alloc_two _ _ _, blk_below (below1 _ _) (heap_alloc_self _ _) (by simp), by omega, by omega, by omega⟩
set_option maxHeartbeats 16000000 in
theorem topPitches_calls (fv ov : Value) (fs : List FaceS) (os : List OpenS) (i j : Nat) (lo hi : Int) (thick need years : Nat) (w : World) (hf : FacesAt w w.heap.size fv fs) (ho : OpensAt w w.heap.size ov os) (hi8 : i ≤ 255) (hj8 : j ≤ 255) (ht16 : thick ≤ 65535) (hn16 : need ≤ 65535) (hy8 : years ≤ 255) :
    Calls Try.prog 3 #[.agg #[fv, ov], .int .u8 (i : Int), .int .u8 (j : Int), .agg #[.int .i64 lo, .int .i64 hi], .int .u16 (thick : Int), .int .u16 (need : Int), .int .u8 (years : Int)] w (TrueP w) := by
  obtain ⟨F, fc, rfl, hfmax, hfcap, hfne⟩ := id hf
  obtain ⟨O, oc, rfl, homax, hocap, _⟩ := id ho
  obtain ⟨W0, hW0⟩ : ∃ W0, W0 = (w.alloc (.cells #[.slice F fs.length fc, .slice O os.length oc] 25)).alloc (.cells #[.int .i64 lo, .int .i64 hi] 29) := ⟨_, rfl⟩
  have hb0 : Below w.heap.size w W0 := by rw [hW0]; exact two_allocs _ _ _
  have g0 : W0.heap[w.heap.size]? = some (.cells #[.slice F fs.length fc, .slice O os.length oc] 25 (0, 0)) := by rw [hW0]; exact blk_below (below1 _ _) (heap_alloc_self _ _) (by simp)
  have g1 : W0.heap[w.heap.size + 1]? = some (.cells #[.int .i64 lo, .int .i64 hi] 29 (0, 0)) := by rw [hW0]; exact heap_alloc_two _ _ _
  have hz0 : W0.heap.size = w.heap.size + 2 := by rw [hW0]; simp
  have hq : ∀ W, Below W0.heap.size W0 W → (W.cell? ⟨w.heap.size, 0, none⟩ = some (.slice F fs.length fc) ∧ W.cell? ⟨w.heap.size, 1, none⟩ = some (.slice O os.length oc)) ∧ (W.cell? ⟨w.heap.size + 1, 0, none⟩ = some (.int .i64 lo) ∧ W.cell? ⟨w.heap.size + 1, 1, none⟩ = some (.int .i64 hi)) ∧ Below w.heap.size w W := fun W h => by
    have e0 := blk_below h g0 (lt_blk g0)
    have e1 := blk_below h g1 (lt_blk g1)
    exact ⟨⟨(cell_blk e0 0).trans rfl, (cell_blk e0 1).trans rfl⟩, ⟨(cell_blk e1 0).trans rfl, (cell_blk e1 1).trans rfl⟩, hb0.trans (h.mono hb0.size)⟩
  have hcl : ∀ W, Below W0.heap.size W0 W → W.heap[w.heap.size + 1]? = some (.cells #[.int .i64 lo, .int .i64 hi] 29 (0, 0)) := fun W h => blk_below h g1 (lt_blk g1)
  have HCL := Lib.hid hcl
  clear hcl
  have HQ := Lib.hid hq
  have HZ := Lib.hid hz0
  have HFO := Lib.hid (And.intro hf ho)
  obtain ⟨⟨a0, a1⟩, ⟨a2, a3⟩, _⟩ := hq W0 (Below.refl _ _)
  rw [hW0] at a0 a1 a2 a3
  clear hq hb0 g0 g1 hz0 hf ho hfne
  go_enter Try.func3, Try.ntmps3
  refine wp_opaque ?_
  intro C hC
  have HC := Lib.hid hC
  clear hC
  go_wp2_with fail
  rw [← hW0]
  clear a0 a1 a2 a3 hW0
  have hsp : ∀ W, Below W0.heap.size W0 W → Calls Try.prog 6 #[] W fun e W' => e = .returned (.bool true) ∧ Below w.heap.size w W' := fun W h => (spent_calls W).mono fun e W' hh => ⟨hh.1, (HQ.out W h).2.2.trans (hh.2.mono (HQ.out W h).2.2.size)⟩
  have HSP := Lib.hid hsp
  have hats : ∀ W, Below W0.heap.size W0 W → FacesAt W W.heap.size (.slice F fs.length fc) fs ∧ OpensAt W W.heap.size (.slice O os.length oc) os := fun W h => ⟨(HFO.out.1.below (HQ.out W h).2.2).mono (HQ.out W h).2.2.size, (HFO.out.2.below (HQ.out W h).2.2).mono (HQ.out W h).2.2.size⟩
  have HAT := Lib.hid hats
  clear hsp hats
  have hr0 := Below.refl W0.heap.size W0
  refine (great01_calls _ _ fs os W0 (HAT.out W0 hr0).1 (HAT.out W0 hr0).2).mono ?_
  rintro e W1 ⟨⟨g, rfl⟩, hb1⟩
  have HM1 := Lib.hid (hb1 : Below W0.heap.size W0 W1)
  clear hb1 hr0
  obtain ⟨⟨a0, a1⟩, ⟨a2, a3⟩, _⟩ := HQ.out W1 HM1.out
  cases g
  · go_wp2_with fail
    clear a0 a1 a2 a3
    refine (roofCheck_calls _ _ fs os W1 (HAT.out W1 HM1.out).1 (HAT.out W1 HM1.out).2).mono ?_
    rintro e W2 ⟨n, rfl, hok, hb2⟩
    have HM2 := Lib.hid (HM1.out.trans (hb2.mono HM1.out.size))
    have HOK := Lib.hid hok
    clear hb2 hok
    obtain ⟨⟨a0, a1⟩, ⟨a2, a3⟩, _⟩ := HQ.out W2 HM2.out
    by_cases hn : n = 0
    · have hn1 : (n != 0) = false := by simp [hn]
      have HRUN := Lib.hid (HOK.out hn)
      clear hn
      by_cases hfe : fs.length = 0
      · have hfb : ((fs.length : Int) == 0) = true := by simp [hfe]
        go_wp2_with fail
        refine (HSP.out W2 HM2.out).mono ?_
        rintro e W3 ⟨rfl, hb3⟩
        have HB3 := Lib.hid hb3
        clear hb3
        go_wp2_with fail
        go_ret
        exact ⟨rfl, HB3.out⟩
      · have hfb : ((fs.length : Int) == 0) = false := by rw [beq_eq_false_iff_ne]; omega
        clear a0 a1 a2 a3
        obtain ⟨k1, hk1⟩ : ∃ k, k = i % fs.length := ⟨_, rfl⟩
        obtain ⟨k2, hk2⟩ : ∃ k, k = j % fs.length := ⟨_, rfl⟩
        have hl1 : k1 < fs.length := by rw [hk1]; exact Nat.mod_lt _ (by omega)
        have hl2 : k2 < fs.length := by rw [hk2]; exact Nat.mod_lt _ (by omega)
        have hr1 : Int.tmod (i : Int) (fs.length : Int) = (k1 : Int) := by rw [hk1, ← Int.ofNat_tmod]
        have hr2 : Int.tmod (j : Int) (fs.length : Int) = (k2 : Int) := by rw [hk2, ← Int.ofNat_tmod]
        obtain ⟨fb, fo, cA, cc, rfl, hfb', hx7, hcv⟩ := face_at HFO.out.1 (HQ.out W2 HM2.out).2.2 hl1
        obtain ⟨fb', fo', dA, dc, e, _, hy7, hdv⟩ := face_at HFO.out.1 (HQ.out W2 HM2.out).2.2 hl2
        simp only [Option.some.injEq, Addr.mk.injEq] at e
        obtain ⟨rfl, rfl, _⟩ := e
        have hfw : fb < W2.heap.size := Nat.lt_of_lt_of_le hfb' (HQ.out W2 HM2.out).2.2.size
        have hF0 : ∀ W, Below W2.heap.size W2 W → W.cell? ⟨w.heap.size, 0, none⟩ = some (.slice (some ⟨fb, fo, none⟩) fs.length fc) ∧ (W.cell? ⟨fb, fo + k1 * 7, none⟩ = some (.string fs[k1].name) ∧ W.cell? ⟨fb, fo + k1 * 7 + 1, none⟩ = some (.int .i64 fs[k1].side) ∧ W.cell? ⟨fb, fo + k1 * 7 + 2, none⟩ = some (.int .i64 fs[k1].foot) ∧ W.cell? ⟨fb, fo + k1 * 7 + 3, none⟩ = some (.int .i64 fs[k1].base) ∧ W.cell? ⟨fb, fo + k1 * 7 + 4, none⟩ = some (.int .i64 fs[k1].rise) ∧ W.cell? ⟨fb, fo + k1 * 7 + 5, none⟩ = some (.int .i64 fs[k1].run) ∧ W.cell? ⟨fb, fo + k1 * 7 + 6, none⟩ = some (.slice cA fs[k1].corners.length cc)) ∧ (W.cell? ⟨fb, fo + k2 * 7, none⟩ = some (.string fs[k2].name) ∧ W.cell? ⟨fb, fo + k2 * 7 + 1, none⟩ = some (.int .i64 fs[k2].side) ∧ W.cell? ⟨fb, fo + k2 * 7 + 2, none⟩ = some (.int .i64 fs[k2].foot) ∧ W.cell? ⟨fb, fo + k2 * 7 + 3, none⟩ = some (.int .i64 fs[k2].base) ∧ W.cell? ⟨fb, fo + k2 * 7 + 4, none⟩ = some (.int .i64 fs[k2].rise) ∧ W.cell? ⟨fb, fo + k2 * 7 + 5, none⟩ = some (.int .i64 fs[k2].run) ∧ W.cell? ⟨fb, fo + k2 * 7 + 6, none⟩ = some (.slice dA fs[k2].corners.length dc)) := fun W h => by
          have hx : ∀ n, W.cell? ⟨fb, n, none⟩ = W2.cell? ⟨fb, n, none⟩ := fun n => h.cell (p := ⟨fb, n, none⟩) hfw
          obtain ⟨x0, x1, x2, x3, x4, x5, x6⟩ := hx7
          obtain ⟨y0, y1, y2, y3, y4, y5, y6⟩ := hy7
          exact ⟨(HQ.out W (HM2.out.trans (h.mono HM2.out.size))).1.1, ⟨(hx _).trans x0, (hx _).trans x1, (hx _).trans x2, (hx _).trans x3, (hx _).trans x4, (hx _).trans x5, (hx _).trans x6⟩, (hx _).trans y0, (hx _).trans y1, (hx _).trans y2, (hx _).trans y3, (hx _).trans y4, (hx _).trans y5, (hx _).trans y6⟩
        have HF0 := Lib.hid hF0
        have HXY := Lib.hid (And.intro hcv (And.intro hdv (And.intro (HRUN.out k1 hl1) (HRUN.out k2 hl2))))
        obtain ⟨r0, ⟨x0, x1, x2, x3, x4, x5, x6⟩, y0, y1, y2, y3, y4, y5, y6⟩ := hF0 W2 (Below.refl _ _)
        have G1 := fun ob => hF0 (W2.alloc ob) (below1 W2 ob)
        have G2 := fun ob ob' => hF0 ((W2.alloc ob).alloc ob') (two_allocs W2 ob ob')
        have r0' := fun ob => (G1 ob).1
        have r0'' := fun ob ob' => (G2 ob ob').1
        have x0' := fun ob => (G1 ob).2.1.1
        have x0'' := fun ob ob' => (G2 ob ob').2.1.1
        have x1' := fun ob => (G1 ob).2.1.2.1
        have x1'' := fun ob ob' => (G2 ob ob').2.1.2.1
        have x2' := fun ob => (G1 ob).2.1.2.2.1
        have x2'' := fun ob ob' => (G2 ob ob').2.1.2.2.1
        have x3' := fun ob => (G1 ob).2.1.2.2.2.1
        have x3'' := fun ob ob' => (G2 ob ob').2.1.2.2.2.1
        have x4' := fun ob => (G1 ob).2.1.2.2.2.2.1
        have x4'' := fun ob ob' => (G2 ob ob').2.1.2.2.2.2.1
        have x5' := fun ob => (G1 ob).2.1.2.2.2.2.2.1
        have x5'' := fun ob ob' => (G2 ob ob').2.1.2.2.2.2.2.1
        have x6' := fun ob => (G1 ob).2.1.2.2.2.2.2.2
        have x6'' := fun ob ob' => (G2 ob ob').2.1.2.2.2.2.2.2
        have y0' := fun ob => (G1 ob).2.2.1
        have y0'' := fun ob ob' => (G2 ob ob').2.2.1
        have y1' := fun ob => (G1 ob).2.2.2.1
        have y1'' := fun ob ob' => (G2 ob ob').2.2.2.1
        have y2' := fun ob => (G1 ob).2.2.2.2.1
        have y2'' := fun ob ob' => (G2 ob ob').2.2.2.2.1
        have y3' := fun ob => (G1 ob).2.2.2.2.2.1
        have y3'' := fun ob ob' => (G2 ob ob').2.2.2.2.2.1
        have y4' := fun ob => (G1 ob).2.2.2.2.2.2.1
        have y4'' := fun ob ob' => (G2 ob ob').2.2.2.2.2.2.1
        have y5' := fun ob => (G1 ob).2.2.2.2.2.2.2.1
        have y5'' := fun ob ob' => (G2 ob ob').2.2.2.2.2.2.2.1
        have y6' := fun ob => (G1 ob).2.2.2.2.2.2.2.2
        have y6'' := fun ob ob' => (G2 ob ob').2.2.2.2.2.2.2.2
        have hi0 : (0 : Int) ≤ (i : Int) := by omega
        have hk10 : (0 : Int) ≤ (k1 : Int) := by omega
        have hk20 : (0 : Int) ≤ (k2 : Int) := by omega
        have hk1l : (k1 : Int) < (fs.length : Int) := by omega
        have hk2l : (k2 : Int) < (fs.length : Int) := by omega
        have hne : ¬ fs = [] := fun e => by rw [e] at hl1; simp at hl1
        clear hF0 G1 G2 hcv hdv hx7 hy7 hk1 hk2
        generalize fs[k1] = fx at *
        generalize fs[k2] = fy at *
        go_wp2_with fail
        go_region
        · go_wp2_with fail
          rw [HC.out]
          exact rest_wp rfl w _ (some ⟨fb, fo, none⟩) O cA dA fs.length fc os.length oc i j W2.heap.size (W2.heap.size + 1) thick need years fx.corners.length fy.corners.length cc dc lo hi fx fy (pitS_1 (HQ.out W2 HM2.out).2.2 (HCL.out W2 HM2.out)) HXY.out.2.2.1 HXY.out.2.2.2 ht16 hn16 hy8 _ rfl
        · go_wp2_with fail
          rw [HC.out]
          exact rest_wp rfl w _ (some ⟨fb, fo, none⟩) O cA dA fs.length fc os.length oc i j (W2.heap.size + 1) W2.heap.size thick need years fx.corners.length fy.corners.length cc dc lo hi fx fy (pitS_2 (HQ.out W2 HM2.out).2.2 (HCL.out W2 HM2.out)) HXY.out.2.2.1 HXY.out.2.2.2 ht16 hn16 hy8 _ rfl
    · have hn1 : (n != 0) = true := by simp [hn]
      clear hn
      go_wp2_with fail
      refine (HSP.out W2 HM2.out).mono ?_
      rintro e W3 ⟨rfl, hb3⟩
      have HB3 := Lib.hid hb3
      clear hb3
      go_wp2_with fail
      go_ret
      exact ⟨rfl, HB3.out⟩
  · go_wp2_with fail
    refine (HSP.out W1 HM1.out).mono ?_
    rintro e W3 ⟨rfl, hb3⟩
    have HB3 := Lib.hid hb3
    clear hb3
    go_wp2_with fail
    go_ret
    exact ⟨rfl, HB3.out⟩
end Go.Proofs.Ytnbnhcoaggpmaaa
