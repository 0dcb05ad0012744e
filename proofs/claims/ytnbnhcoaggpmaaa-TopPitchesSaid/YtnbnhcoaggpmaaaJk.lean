/- Roofs: one face. -/
import Derived.Test.YtnbnhcoaggpmaaaJj

namespace Go.Proofs.Ytnbnhcoaggpmaaa
open Go Go.RowKit Go.Shelf
set_option maxRecDepth 100000
attribute [local go_sem] Oper.semAt_some

def RunOk (p : FaceS) : Prop := (1 ≤ p.rise ∧ p.rise ≤ 100) ∧ (1 ≤ p.run ∧ p.run ≤ 100)
def FaceP (p : FaceS) (w : World) (e : Ending) (w' : World) : Prop := ∃ n : Int, e = .returned (.int .i64 n) ∧ (n = 0 → RunOk p) ∧ Below w.heap.size w w'
def faceO (p : FaceS) (cv : Value) : Obj := .cells #[.string p.name, .int .i64 p.side, .int .i64 p.foot, .int .i64 p.base, .int .i64 p.rise, .int .i64 p.run, cv] 38 (0, 0)
theorem face1_calls (fb : Nat) (p q : FaceS) (cv cv' : Value) (w : World) (h : w.heap[fb]? = some (faceO p cv)) :
    Calls Try.prog 29 #[.agg #[.string q.name, .int .i64 q.side, .int .i64 q.foot, .int .i64 q.base, .int .i64 q.rise, .int .i64 q.run, cv'], .pointer (some ⟨fb, 0, none⟩)] w (BoolP w) := by
  have c0 : ∀ ob, (w.alloc ob).cell? ⟨fb, 0, none⟩ = some (.string p.name) := fun ob => (cell_blk (blk_below (below1 w ob) h (lt_blk h)) 0).trans rfl
  clear h
  go_enter Try.func29, Try.ntmps29
  go_wp2_with fail
  go_ret
  exact ⟨⟨_, rfl⟩, below1 _ _⟩
theorem face2_calls (x y : Int) (w : World) : Calls Try.prog 32 #[.agg #[.int .i64 x, .int .i64 y]] w (BoolP w) := by
  go_enter Try.func32, Try.ntmps32
  go_wp2_with fail
  refine (planned_calls _ _ _).mono ?_
  rintro e w1 ⟨⟨q, rfl⟩, hb1⟩
  have HB1 := Lib.hid ((below1 w _).trans (hb1.mono (by simp)))
  clear hb1
  go_wp2_with fail
  go_ret
  exact ⟨⟨_, rfl⟩, HB1.out⟩
set_option maxHeartbeats 8000000 in
theorem checkFace_calls (v : Value) (fs : List FaceS) (i : Nat) (hi : i < fs.length) (w : World) (h : FacesAt w w.heap.size v fs) : Calls Try.prog 9 #[v, .int .i64 (i : Int)] w (FaceP fs[i] w) := by
  obtain ⟨A, c, rfl, hmax, hcap, hne⟩ := id h
  obtain ⟨b, o, rfl, hbl, hc⟩ := hne (fun e => by rw [e] at hi; simp at hi)
  obtain ⟨k0, k1, k2, k3, k4, k5, cv, k6, hcv⟩ := hc i fs[i] (List.getElem?_eq_getElem hi)
  obtain ⟨cA, cc, rfl, hcm, hcc, _⟩ := id hcv
  have HT := Lib.hid (h.take i (by omega))
  have HCV := Lib.hid hcv
  generalize fs[i] = p at *
  clear h hne hc hcv
  have hii : (i : Int) < (fs.length : Int) := by omega
  have hi0 : (0 : Int) ≤ (i : Int) := by omega
  have hic : (i : Int) ≤ (fs.length : Int) := by omega
  go_enter Try.func9, Try.ntmps9
  go_wp2_with fail
  obtain ⟨W0, hW0⟩ : ∃ W0, W0 = w.alloc (.cells #[.string p.name, .int .i64 p.side, .int .i64 p.foot, .int .i64 p.base, .int .i64 p.rise, .int .i64 p.run, .slice cA p.corners.length cc] 38) := ⟨_, rfl⟩
  rw [← hW0]
  have hb0 : Below w.heap.size w W0 := by rw [hW0]; exact below1 _ _
  have hg0 : W0.heap[w.heap.size]? = some (faceO p (.slice cA p.corners.length cc)) := by rw [hW0]; exact heap_alloc_self _ _
  have hq : ∀ W, Below W0.heap.size W0 W → W.heap[w.heap.size]? = some (faceO p (.slice cA p.corners.length cc)) ∧ (W.cell? ⟨w.heap.size, 0, none⟩ = some (.string p.name) ∧ W.cell? ⟨w.heap.size, 1, none⟩ = some (.int .i64 p.side) ∧ W.cell? ⟨w.heap.size, 2, none⟩ = some (.int .i64 p.foot) ∧ W.cell? ⟨w.heap.size, 3, none⟩ = some (.int .i64 p.base) ∧ W.cell? ⟨w.heap.size, 4, none⟩ = some (.int .i64 p.rise) ∧ W.cell? ⟨w.heap.size, 5, none⟩ = some (.int .i64 p.run) ∧ W.cell? ⟨w.heap.size, 6, none⟩ = some (.slice cA p.corners.length cc)) ∧
      Below w.heap.size w W ∧ FacesAt W W.heap.size (.slice (some ⟨b, o, none⟩) i c) (fs.take i) ∧ AtsAt W W.heap.size (.slice cA p.corners.length cc) p.corners := fun W hW => by
    have h0 := blk_below hW hg0 (lt_blk hg0)
    have hbb := hb0.trans (hW.mono hb0.size)
    exact ⟨h0, ⟨(cell_blk h0 0).trans rfl, (cell_blk h0 1).trans rfl, (cell_blk h0 2).trans rfl, (cell_blk h0 3).trans rfl, (cell_blk h0 4).trans rfl, (cell_blk h0 5).trans rfl, (cell_blk h0 6).trans rfl⟩, hbb, (HT.out.below hbb).mono hbb.size, (HCV.out.below hbb).mono hbb.size⟩
  have HQ := Lib.hid hq
  have HRF := Lib.hid (Below.refl W0.heap.size W0)
  clear hq hb0 hg0 hW0 k0 k1 k2 k3 k4 k5 k6
  refine (isName_calls _ W0).mono ?_
  rintro e W1 ⟨⟨q1, rfl⟩, hb1⟩
  have HM1 := Lib.hid (hb1 : Below W0.heap.size W0 W1)
  clear hb1
  obtain ⟨_, ⟨c0, c1, c2, c3, c4, c5, c6⟩, _, _, _⟩ := HQ.out W1 HM1.out
  cases q1
  · go_wp2_with fail
    go_ret
    exact ⟨_, rfl, (fun h => absurd h (by decide)), (HQ.out W1 HM1.out).2.2.1⟩
  · go_wp2_with fail
    clear c0 c1 c2 c3 c4 c5 c6
    refine (containsFuncFace_calls 29 #[.pointer (some ⟨w.heap.size, 0, none⟩)] (fun args w => by go_simp) _ _ W1 (HQ.out W1 HM1.out).2.2.2.1 (fun W' p' cv' hW' => face1_calls w.heap.size p p' (.slice cA p.corners.length cc) cv' W' (HQ.out W' (HM1.out.trans (hW'.mono HM1.out.size))).1)).mono ?_
    rintro e W2 ⟨⟨q2, rfl⟩, hb2⟩
    have HM2 := Lib.hid (HM1.out.trans (hb2.mono HM1.out.size))
    clear hb2
    obtain ⟨_, ⟨c0, c1, c2, c3, c4, c5, c6⟩, _, _, _⟩ := HQ.out W2 HM2.out
    cases q2
    · skip
      go_wp2_with fail
      clear c0 c1 c2 c3 c4 c5 c6
      refine (rin_calls _ _ _ W2).mono ?_
      rintro e W3 ⟨rfl, hW3⟩
      have HM3 := Lib.hid (hW3 ▸ HM2.out : Below W0.heap.size W0 W3)
      clear hW3
      obtain ⟨_, ⟨c0, c1, c2, c3, c4, c5, c6⟩, _, _, _⟩ := HQ.out W3 HM3.out
      by_cases hin3 : ¬ (1 ≤ p.side ∧ p.side ≤ 4)
      · rw [decide_eq_false hin3]
        go_wp2_with fail
        go_ret
        exact ⟨_, rfl, (fun h => absurd h (by decide)), (HQ.out W3 HM3.out).2.2.1⟩
      have hjn3 := Classical.not_not.1 hin3
      rw [decide_eq_true hjn3]
      have HI3 := Lib.hid hjn3
      clear hin3 hjn3
      go_wp2_with fail
      clear c0 c1 c2 c3 c4 c5 c6
      refine (rin_calls _ _ _ W3).mono ?_
      rintro e W4 ⟨rfl, hW4⟩
      have HM4 := Lib.hid (hW4 ▸ HM3.out : Below W0.heap.size W0 W4)
      clear hW4
      obtain ⟨_, ⟨c0, c1, c2, c3, c4, c5, c6⟩, _, _, _⟩ := HQ.out W4 HM4.out
      by_cases hin4 : ¬ (0 ≤ p.foot ∧ p.foot ≤ 10000)
      · rw [decide_eq_false hin4]
        go_wp2_with fail
        go_ret
        exact ⟨_, rfl, (fun h => absurd h (by decide)), (HQ.out W4 HM4.out).2.2.1⟩
      have hjn4 := Classical.not_not.1 hin4
      rw [decide_eq_true hjn4]
      have HI4 := Lib.hid hjn4
      clear hin4 hjn4
      go_wp2_with fail
      clear c0 c1 c2 c3 c4 c5 c6
      refine (rin_calls _ _ _ W4).mono ?_
      rintro e W5 ⟨rfl, hW5⟩
      have HM5 := Lib.hid (hW5 ▸ HM4.out : Below W0.heap.size W0 W5)
      clear hW5
      obtain ⟨_, ⟨c0, c1, c2, c3, c4, c5, c6⟩, _, _, _⟩ := HQ.out W5 HM5.out
      by_cases hin5 : ¬ (0 ≤ p.base ∧ p.base ≤ 10000)
      · rw [decide_eq_false hin5]
        go_wp2_with fail
        go_ret
        exact ⟨_, rfl, (fun h => absurd h (by decide)), (HQ.out W5 HM5.out).2.2.1⟩
      have hjn5 := Classical.not_not.1 hin5
      rw [decide_eq_true hjn5]
      have HI5 := Lib.hid hjn5
      clear hin5 hjn5
      go_wp2_with fail
      clear c0 c1 c2 c3 c4 c5 c6
      refine (rin_calls _ _ _ W5).mono ?_
      rintro e W6 ⟨rfl, hW6⟩
      have HM6 := Lib.hid (hW6 ▸ HM5.out : Below W0.heap.size W0 W6)
      clear hW6
      obtain ⟨_, ⟨c0, c1, c2, c3, c4, c5, c6⟩, _, _, _⟩ := HQ.out W6 HM6.out
      by_cases hin6 : ¬ (1 ≤ p.rise ∧ p.rise ≤ 100)
      · rw [decide_eq_false hin6]
        go_wp2_with fail
        go_ret
        exact ⟨_, rfl, (fun h => absurd h (by decide)), (HQ.out W6 HM6.out).2.2.1⟩
      have hjn6 := Classical.not_not.1 hin6
      rw [decide_eq_true hjn6]
      have HI6 := Lib.hid hjn6
      clear hin6 hjn6
      go_wp2_with fail
      clear c0 c1 c2 c3 c4 c5 c6
      refine (rin_calls _ _ _ W6).mono ?_
      rintro e W7 ⟨rfl, hW7⟩
      have HM7 := Lib.hid (hW7 ▸ HM6.out : Below W0.heap.size W0 W7)
      clear hW7
      obtain ⟨_, ⟨c0, c1, c2, c3, c4, c5, c6⟩, _, _, _⟩ := HQ.out W7 HM7.out
      by_cases hin7 : ¬ (1 ≤ p.run ∧ p.run ≤ 100)
      · rw [decide_eq_false hin7]
        go_wp2_with fail
        go_ret
        exact ⟨_, rfl, (fun h => absurd h (by decide)), (HQ.out W7 HM7.out).2.2.1⟩
      have hjn7 := Classical.not_not.1 hin7
      rw [decide_eq_true hjn7]
      have HI7 := Lib.hid hjn7
      clear hin7 hjn7
      by_cases h12 : (p.corners.length : Int) > 12
      · skip
        go_wp2_with fail
        go_ret
        exact ⟨_, rfl, (fun h => absurd h (by decide)), (HQ.out W7 HM7.out).2.2.1⟩
      by_cases h3 : (p.corners.length : Int) < 3
      · skip
        go_wp2_with fail
        go_ret
        exact ⟨_, rfl, (fun h => absurd h (by decide)), (HQ.out W7 HM7.out).2.2.1⟩
      go_wp2_with fail
      clear c0 c1 c2 c3 c4 c5 c6
      refine (containsFuncAt_calls 32 #[] (fun args w => by go_simp) _ _ W7 (HQ.out W7 HM7.out).2.2.2.2 (fun W' p' _ => face2_calls p'.1 p'.2 W')).mono ?_
      rintro e W8 ⟨⟨q8, rfl⟩, hb8⟩
      have HM8 := Lib.hid (HM7.out.trans (hb8.mono HM7.out.size))
      clear hb8
      obtain ⟨_, ⟨c0, c1, c2, c3, c4, c5, c6⟩, _, _, _⟩ := HQ.out W8 HM8.out
      obtain ⟨r8, rfl⟩ : ∃ r, q8 = !r := ⟨!q8, by simp⟩
      cases r8
      · skip
        go_wp2_with fail
        go_ret
        exact ⟨_, rfl, (fun h => absurd h (by decide)), (HQ.out W8 HM8.out).2.2.1⟩
      clear c0 c1 c2 c3 c4 c5
      go_wp2_with fail
      go_loopw [70] (fun iv wr => ∃ j : Nat, j ≤ p.corners.length ∧ iv = .int .i64 (j : Int) ∧ Hid (Below W0.heap.size W0 wr)) (fun iv _ => p.corners.length - (intOf iv).toNat)
      case atStart => exact ⟨0, Nat.zero_le _, rfl, HM8⟩
      case round =>
        obtain ⟨j, hj, rfl, HL⟩ := hrel
        obtain ⟨vr, rfl⟩ : ∃ vr, vr = wr := ⟨_, rfl⟩
        by_cases hjl : j < p.corners.length
        · have hji : (j : Int) < (p.corners.length : Int) := by omega
          have hj0 : (0 : Int) ≤ (j : Int) := by omega
          have hjc : (j : Int) ≤ (cc : Int) := by omega
          have hjn : (j : Int) ≤ (p.corners.length : Int) := by omega
          have hjadd : IntKind.i64.wrap ((j : Int) + 1) = (j : Int) + 1 := IntWalk.i64_in _ (by omega)
          have hats := (HQ.out vr HL.out).2.2.2.2
          have hjcc : j ≤ cc := by omega
          obtain ⟨cA', cc', e, _, _, h3⟩ := id hats
          simp only [Value.slice.injEq] at e
          obtain ⟨rfl, _, rfl⟩ := e
          obtain ⟨cb, co, rfl, hcb, hcl⟩ := h3 (fun e => by rw [e] at hjl; simp at hjl)
          obtain ⟨d0, d1⟩ := hcl j p.corners[j] (List.getElem?_eq_getElem hjl)
          have HTK := Lib.hid (hats.take j (by omega))
          generalize p.corners[j] = z at *
          obtain ⟨V, hV⟩ : ∃ V, V = vr.alloc (.cells #[.int .i64 z.1, .int .i64 z.2] 55) := ⟨_, rfl⟩
          have hbV : Below vr.heap.size vr V := by rw [hV]; exact below1 _ _
          have hgV : V.heap[vr.heap.size]? = some (.cells #[.int .i64 z.1, .int .i64 z.2] 55 (0, 0)) := by rw [hV]; exact heap_alloc_self _ _
          have hq : ∀ w4, Below V.heap.size V w4 → w4.cell? ⟨w.heap.size, 6, none⟩ = some (.slice (some ⟨cb, co, none⟩) p.corners.length cc) ∧ w4.cell? ⟨vr.heap.size, 0, none⟩ = some (.int .i64 z.1) ∧ w4.cell? ⟨vr.heap.size, 1, none⟩ = some (.int .i64 z.2) := fun w4 h4 => by
            have e1 := blk_below h4 hgV (lt_blk hgV)
            exact ⟨(HQ.out w4 (HL.out.trans ((hbV.trans (h4.mono hbV.size)).mono HL.out.size))).2.1.2.2.2.2.2.2, (cell_blk e1 0).trans rfl, (cell_blk e1 1).trans rfl⟩
          have HQV := Lib.hid hq
          have HBV := Lib.hid hbV
          clear hats hcl h3 hq hbV hgV
          go_wp2_with fail
          rw [← hV]
          clear hV d0 d1
          refine wp_region_rg_tail 5 Grows (fun _ => .fn) (by kernel_rfl) (by kernel_rfl) Grows.refl growsT (by intro i; trivial) ?_
          iterate 5 (refine rg_step fun K hK => ?_; apply rg_fn rfl; (intro w4 hw; obtain ⟨q0, q1, q2⟩ := HQV.out w4 hw.undrew; go_simp; try rfl); go_simp; (try with_reducible refine hK _ _ ?_); try clear hK K)
          refine rg_nil ?_
          intro W9 hw9 _
          replace hw9 := hw9.undrew
          have hb9 : Below vr.heap.size vr W9 := HBV.out.trans (Below.mono hw9 HBV.out.size)
          have HM9 := Lib.hid (HL.out.trans (hb9.mono HL.out.size))
          have HC := Lib.hid (containsAts_calls _ _ z.1 z.2 W9 ((HTK.out.below hb9).mono hb9.size))
          clear hw9 hb9
          simp only [List.drop_succ_cons, List.drop_zero]
          go_wp2_with fail
          refine HC.out.mono ?_
          rintro e W10 ⟨⟨q10, rfl⟩, hb10⟩
          have HM10 := Lib.hid (HM9.out.trans (hb10.mono HM9.out.size))
          clear hb10
          cases q10
          · go_wp2_with fail
            go_round
            case rel => exact ⟨j + 1, by omega, by go_num, HM10⟩
            case measure => simp [intOf]; omega
          · go_wp2_with fail
            go_ret
            exact ⟨6, rfl, (fun h => absurd h (by decide)), (HQ.out W10 HM10.out).2.2.1⟩
        · have hji : ¬ (j : Int) < (p.corners.length : Int) := by omega
          have e6 := (HQ.out vr HL.out).2.1.2.2.2.2.2.2
          go_wp2_with fail
          refine (convex_calls _ _ vr (HQ.out vr HL.out).2.2.2.2).mono ?_
          rintro e W9 ⟨⟨q9, rfl⟩, hb9⟩
          have HM9 := Lib.hid (HL.out.trans (hb9.mono HL.out.size))
          clear hb9
          cases q9
          · go_wp2_with fail
            go_ret
            exact ⟨9, rfl, (fun h => absurd h (by decide)), (HQ.out W9 HM9.out).2.2.1⟩
          · go_wp2_with fail
            go_ret
            exact ⟨0, rfl, (fun _ => ⟨HI6.out, HI7.out⟩), (HQ.out W9 HM9.out).2.2.1⟩
    · go_wp2_with fail
      go_ret
      exact ⟨_, rfl, (fun h => absurd h (by decide)), (HQ.out W2 HM2.out).2.2.1⟩
end Go.Proofs.Ytnbnhcoaggpmaaa
