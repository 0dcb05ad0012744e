/- Roofs: one opening. -/
import Derived.Test.YtnbnhcoaggpmaaaJk

namespace Go.Proofs.Ytnbnhcoaggpmaaa
open Go Go.RowKit Go.Shelf
set_option maxRecDepth 100000
attribute [local go_sem] Oper.semAt_some

def openO (p : OpenS) : Obj := .cells #[.string p.name, .int .i64 p.face, .int .i64 p.lx, .int .i64 p.ly, .int .i64 p.hx, .int .i64 p.hy] 57 (0, 0)
theorem open1_calls (ob : Nat) (p q : OpenS) (w : World) (h : w.heap[ob]? = some (openO p)) :
    Calls Try.prog 37 #[.agg #[.string q.name, .int .i64 q.face, .int .i64 q.lx, .int .i64 q.ly, .int .i64 q.hx, .int .i64 q.hy], .pointer (some ⟨ob, 0, none⟩)] w (BoolP w) := by
  have c0 : ∀ o, (w.alloc o).cell? ⟨ob, 0, none⟩ = some (.string p.name) := fun o => (cell_blk (blk_below (below1 w o) h (lt_blk h)) 0).trans rfl
  clear h
  go_enter Try.func37, Try.ntmps37
  go_wp2_with fail
  go_ret
  exact ⟨⟨_, rfl⟩, below1 _ _⟩
theorem open2_calls (ob : Nat) (p q : OpenS) (w : World) (h : w.heap[ob]? = some (openO p)) :
    Calls Try.prog 41 #[.agg #[.string q.name, .int .i64 q.face, .int .i64 q.lx, .int .i64 q.ly, .int .i64 q.hx, .int .i64 q.hy], .pointer (some ⟨ob, 0, none⟩)] w (BoolP w) := by
  have c2 : ∀ o, (w.alloc o).cell? ⟨ob, 2, none⟩ = some (.int .i64 p.lx) := fun o => (cell_blk (blk_below (below1 w o) h (lt_blk h)) 2).trans rfl
  have c3 : ∀ o, (w.alloc o).cell? ⟨ob, 3, none⟩ = some (.int .i64 p.ly) := fun o => (cell_blk (blk_below (below1 w o) h (lt_blk h)) 3).trans rfl
  have c4 : ∀ o, (w.alloc o).cell? ⟨ob, 4, none⟩ = some (.int .i64 p.hx) := fun o => (cell_blk (blk_below (below1 w o) h (lt_blk h)) 4).trans rfl
  have c5 : ∀ o, (w.alloc o).cell? ⟨ob, 5, none⟩ = some (.int .i64 p.hy) := fun o => (cell_blk (blk_below (below1 w o) h (lt_blk h)) 5).trans rfl
  clear h
  go_enter Try.func41, Try.ntmps41
  by_cases h1 : q.lx ≤ p.hx
  · by_cases h2 : p.lx ≤ q.hx
    · by_cases h3 : q.ly ≤ p.hy
      · go_wp2_with fail
        go_ret
        exact ⟨⟨_, rfl⟩, below1 _ _⟩
      · go_wp2_with fail
        go_ret
        exact ⟨⟨_, rfl⟩, below1 _ _⟩
    · go_wp2_with fail
      go_ret
      exact ⟨⟨_, rfl⟩, below1 _ _⟩
  · go_wp2_with fail
    go_ret
    exact ⟨⟨_, rfl⟩, below1 _ _⟩
set_option maxHeartbeats 8000000 in
theorem checkOpen_calls (fv ov : Value) (fs : List FaceS) (os : List OpenS) (i : Nat) (hi : i < os.length) (w : World) (hf : FacesAt w w.heap.size fv fs) (ho : OpensAt w w.heap.size ov os) : Calls Try.prog 10 #[.agg #[fv, ov], .int .i64 (i : Int)] w (IntP w) := by
  obtain ⟨A, c, rfl, hmax, hcap, hne⟩ := id ho
  obtain ⟨F, fc, rfl, hfmax, hfcap, _⟩ := id hf
  obtain ⟨b, o, rfl, hbl, hc⟩ := hne (fun e => by rw [e] at hi; simp at hi)
  obtain ⟨k0, k1, k2, k3, k4, k5⟩ := hc i os[i] (List.getElem?_eq_getElem hi)
  have HT := Lib.hid (And.intro (ho.take i (by omega)) hf)
  generalize os[i] = p at *
  clear ho hne hf hc
  have hii : (i : Int) < (os.length : Int) := by omega
  have hi0 : (0 : Int) ≤ (i : Int) := by omega
  have hic : (i : Int) ≤ (os.length : Int) := by omega
  have hicc : i ≤ c := by omega
  have hsub : IntKind.i64.wrap ((fs.length : Int) - 1) = (fs.length : Int) - 1 := IntWalk.i64_in _ (by omega)
  have e0 : ∀ ob, (w.alloc ob).cell? ⟨b, o + i * 6, none⟩ = some (.string p.name) := fun ob => ((below1 w ob).cell (p := ⟨b, o + i * 6, none⟩) hbl).trans k0
  have e1 : ∀ ob, (w.alloc ob).cell? ⟨b, o + i * 6 + 1, none⟩ = some (.int .i64 p.face) := fun ob => ((below1 w ob).cell (p := ⟨b, o + i * 6 + 1, none⟩) hbl).trans k1
  have e2 : ∀ ob, (w.alloc ob).cell? ⟨b, o + i * 6 + 2, none⟩ = some (.int .i64 p.lx) := fun ob => ((below1 w ob).cell (p := ⟨b, o + i * 6 + 2, none⟩) hbl).trans k2
  have e3 : ∀ ob, (w.alloc ob).cell? ⟨b, o + i * 6 + 3, none⟩ = some (.int .i64 p.ly) := fun ob => ((below1 w ob).cell (p := ⟨b, o + i * 6 + 3, none⟩) hbl).trans k3
  have e4 : ∀ ob, (w.alloc ob).cell? ⟨b, o + i * 6 + 4, none⟩ = some (.int .i64 p.hx) := fun ob => ((below1 w ob).cell (p := ⟨b, o + i * 6 + 4, none⟩) hbl).trans k4
  have e5 : ∀ ob, (w.alloc ob).cell? ⟨b, o + i * 6 + 5, none⟩ = some (.int .i64 p.hy) := fun ob => ((below1 w ob).cell (p := ⟨b, o + i * 6 + 5, none⟩) hbl).trans k5
  clear k0 k1 k2 k3 k4 k5
  go_enter Try.func10, Try.ntmps10
  go_wp2_with fail
  obtain ⟨W0, hW0⟩ : ∃ W0, W0 = (w.alloc (.cells #[.slice F fs.length fc, .slice (some ⟨b, o, none⟩) os.length c] 25)).alloc (.cells #[.string p.name, .int .i64 p.face, .int .i64 p.lx, .int .i64 p.ly, .int .i64 p.hx, .int .i64 p.hy] 57) := ⟨_, rfl⟩
  rw [← hW0]
  have hb0 : Below w.heap.size w W0 := by rw [hW0]; exact two_allocs _ _ _
  have hg0 : W0.heap[w.heap.size]? = some (.cells #[.slice F fs.length fc, .slice (some ⟨b, o, none⟩) os.length c] 25 (0, 0)) := by rw [hW0]; exact blk_below (below1 _ _) (heap_alloc_self _ _) (by simp)
  have hg1 : W0.heap[w.heap.size + 1]? = some (openO p) := by rw [hW0]; exact heap_alloc_two _ _ _
  have hq : ∀ W, Below W0.heap.size W0 W → (W.cell? ⟨w.heap.size, 0, none⟩ = some (.slice F fs.length fc) ∧ W.cell? ⟨w.heap.size, 1, none⟩ = some (.slice (some ⟨b, o, none⟩) os.length c)) ∧
      (W.cell? ⟨w.heap.size + 1, 0, none⟩ = some (.string p.name) ∧ W.cell? ⟨w.heap.size + 1, 1, none⟩ = some (.int .i64 p.face) ∧ W.cell? ⟨w.heap.size + 1, 2, none⟩ = some (.int .i64 p.lx) ∧ W.cell? ⟨w.heap.size + 1, 3, none⟩ = some (.int .i64 p.ly) ∧ W.cell? ⟨w.heap.size + 1, 4, none⟩ = some (.int .i64 p.hx) ∧ W.cell? ⟨w.heap.size + 1, 5, none⟩ = some (.int .i64 p.hy)) := fun W hW => by
    have h0 := blk_below hW hg0 (lt_blk hg0)
    have h1 := blk_below hW hg1 (lt_blk hg1)
    exact ⟨⟨(cell_blk h0 0).trans rfl, (cell_blk h0 1).trans rfl⟩, (cell_blk h1 0).trans rfl, (cell_blk h1 1).trans rfl, (cell_blk h1 2).trans rfl, (cell_blk h1 3).trans rfl, (cell_blk h1 4).trans rfl, (cell_blk h1 5).trans rfl⟩
  have hq2 : ∀ W, Below W0.heap.size W0 W → W.heap[w.heap.size + 1]? = some (openO p) ∧ Below w.heap.size w W ∧ OpensAt W W.heap.size (.slice (some ⟨b, o, none⟩) i c) (os.take i) ∧ FacesAt W W.heap.size (.slice F fs.length fc) fs := fun W hW => by
    have hbb := hb0.trans (hW.mono hb0.size)
    exact ⟨blk_below hW hg1 (lt_blk hg1), hbb, (HT.out.1.below hbb).mono hbb.size, (HT.out.2.below hbb).mono hbb.size⟩
  have HQ := Lib.hid hq
  have HR := Lib.hid hq2
  clear hq hq2 hb0 hg0 hg1 hW0 e0 e1 e2 e3 e4 e5
  refine (isName_calls _ W0).mono ?_
  rintro e W1 ⟨⟨q1, rfl⟩, hb1⟩
  have HM1 := Lib.hid (hb1 : Below W0.heap.size W0 W1)
  clear hb1
  obtain ⟨⟨a0, a1⟩, c0, c1, c2, c3, c4, c5⟩ := HQ.out W1 HM1.out
  cases q1
  · go_wp2_with fail
    go_ret
    exact ⟨⟨5, rfl⟩, (HR.out W1 HM1.out).2.1⟩
  · go_wp2_with fail
    clear a0 a1 c0 c1 c2 c3 c4 c5
    refine (containsFuncOpen_calls 37 #[.pointer (some ⟨w.heap.size + 1, 0, none⟩)] (fun args w => by go_simp) _ _ W1 (HR.out W1 HM1.out).2.2.1 (fun W' p' hW' => open1_calls (w.heap.size + 1) p p' W' (HR.out W' (HM1.out.trans (hW'.mono HM1.out.size))).1)).mono ?_
    rintro e W2 ⟨⟨q2, rfl⟩, hb2⟩
    have HM2 := Lib.hid (HM1.out.trans (hb2.mono HM1.out.size))
    clear hb2
    obtain ⟨⟨a0, a1⟩, c0, c1, c2, c3, c4, c5⟩ := HQ.out W2 HM2.out
    cases q2
    · go_wp2_with fail
      refine (rin_calls _ _ _ W2).mono ?_
      rintro e W3 ⟨rfl, hW3⟩
      subst hW3
      by_cases hin : ¬ (0 ≤ p.face ∧ p.face ≤ (fs.length : Int) - 1)
      · rw [decide_eq_false hin]
        go_wp2_with fail
        go_ret
        exact ⟨⟨7, rfl⟩, (HR.out _ HM2.out).2.1⟩
      · have hjn := Classical.not_not.1 hin
        rw [decide_eq_true hjn]
        obtain ⟨k, hk⟩ : ∃ k : Nat, p.face = (k : Int) := ⟨p.face.toNat, by omega⟩
        have hkl : k < fs.length := by omega
        have HK := Lib.hid hk
        clear hin hjn hk
        by_cases hx : p.lx ≥ p.hx
        · go_wp2_with fail
          go_ret
          exact ⟨⟨1, rfl⟩, (HR.out _ HM2.out).2.1⟩
        · by_cases hy : p.ly ≥ p.hy
          · go_wp2_with fail
            go_ret
            exact ⟨⟨1, rfl⟩, (HR.out _ HM2.out).2.1⟩
          · go_wp2_with fail
            refine (box_calls _ _ _ _ _ _ _).mono ?_
            rintro e W4 ⟨v4, ps, rfl, hps, hb4⟩
            have HM4 := Lib.hid (HM2.out.trans (hb4.mono HM2.out.size))
            obtain ⟨pA, pc, rfl, hpm, hpc, hpne⟩ := id hps
            have HPS := Lib.hid hps
            clear hb4 hps hpne a0 a1 c0 c1 c2 c3 c4 c5
            go_wp2_with fail
            obtain ⟨F', fc', eF, _, _, h3⟩ := id HT.out.2
            simp only [Value.slice.injEq] at eF
            obtain ⟨rfl, _, rfl⟩ := eF
            obtain ⟨fb, fo, rfl, hfb, hfcs⟩ := h3 (fun e => by rw [e] at hkl; simp at hkl)
            obtain ⟨_, _, _, _, _, _, cv, f6, hcv⟩ := hfcs k fs[k] (List.getElem?_eq_getElem hkl)
            obtain ⟨cA, cc, rfl, _⟩ := id hcv
            have HCV := Lib.hid (And.intro f6 hcv)
            generalize fs[k].corners = cs at *
            have hki : (k : Int) < (fs.length : Int) := by omega
            have hk0 : (0 : Int) ≤ (k : Int) := by omega
            clear h3 hfcs f6 hcv
            go_loopw [54] (fun iv wr => ∃ j : Nat, j ≤ ps.length ∧ iv = .int .i64 (j : Int) ∧ Hid (Below W4.heap.size W4 wr)) (fun iv _ => ps.length - (intOf iv).toNat)
            case atStart => exact ⟨0, Nat.zero_le _, rfl, Lib.hid (Below.refl _ _)⟩
            case round =>
              obtain ⟨j, hj, rfl, HL⟩ := hrel
              obtain ⟨vr, rfl⟩ : ∃ vr, vr = wr := ⟨_, rfl⟩
              have hMv : Below W0.heap.size W0 vr := HM4.out.trans (HL.out.mono HM4.out.size)
              have HMv := Lib.hid hMv
              clear hMv
              by_cases hjl : j < ps.length
              · have hji : (j : Int) < (ps.length : Int) := by omega
                have hj0 : (0 : Int) ≤ (j : Int) := by omega
                have hjadd : IntKind.i64.wrap ((j : Int) + 1) = (j : Int) + 1 := IntWalk.i64_in _ (by omega)
                obtain ⟨pA', pc', e, _, _, h3⟩ := HPS.out.below HL.out
                simp only [Value.slice.injEq] at e
                obtain ⟨rfl, _, rfl⟩ := e
                obtain ⟨pb, po, rfl, hpb, hpl⟩ := h3 (fun e => by rw [e] at hjl; simp at hjl)
                obtain ⟨d0, d1⟩ := hpl j ps[j] (List.getElem?_eq_getElem hjl)
                generalize ps[j] = z at *
                obtain ⟨V, hV⟩ : ∃ V, V = vr.alloc (.cells #[.int .i64 z.1, .int .i64 z.2] 55) := ⟨_, rfl⟩
                have hbV : Below vr.heap.size vr V := by rw [hV]; exact below1 _ _
                have hgV : V.heap[vr.heap.size]? = some (.cells #[.int .i64 z.1, .int .i64 z.2] 55 (0, 0)) := by rw [hV]; exact heap_alloc_self _ _
                have hq : ∀ w4, Below V.heap.size V w4 → (w4.cell? ⟨vr.heap.size, 0, none⟩ = some (.int .i64 z.1) ∧ w4.cell? ⟨vr.heap.size, 1, none⟩ = some (.int .i64 z.2)) ∧ w4.cell? ⟨w.heap.size, 0, none⟩ = some (.slice (some ⟨fb, fo, none⟩) fs.length fc) ∧ w4.cell? ⟨w.heap.size + 1, 1, none⟩ = some (.int .i64 (k : Int)) ∧ w4.cell? ⟨fb, fo + k * 7 + 6, none⟩ = some (.slice cA cs.length cc) := fun w4 h4 => by
                  have e1 := blk_below h4 hgV (lt_blk hgV)
                  have hM := HMv.out.trans ((hbV.trans (h4.mono hbV.size)).mono HMv.out.size)
                  obtain ⟨⟨a0, _⟩, _, c1, _⟩ := HQ.out w4 hM
                  rw [HK.out] at c1
                  exact ⟨⟨(cell_blk e1 0).trans rfl, (cell_blk e1 1).trans rfl⟩, a0, c1, ((HR.out w4 hM).2.1.cell (p := ⟨fb, fo + k * 7 + 6, none⟩) hfb).trans HCV.out.1⟩
                have HQV := Lib.hid hq
                have HBV := Lib.hid hbV
                clear hpl h3 hq hbV hgV
                go_wp2_with fail
                rw [← hV]
                clear hV d0 d1
                refine wp_region_rg_tail 12 Grows (fun | 1 => .any boolW (fun _ _ _ => True) | _ => .fn) (by kernel_rfl) (by kernel_rfl) Grows.refl growsT (by intro i; split <;> first | trivial | exact fun _ _ _ _ _ _ => trivial) ?_
                iterate 1 (refine rg_step fun K hK => ?_; apply rg_fn rfl; (intro w4 hw; obtain ⟨⟨q0, q1⟩, q2, q3, q4⟩ := HQV.out w4 hw.undrew; go_simp; try rfl); go_simp; (try with_reducible refine hK _ _ ?_); try clear hK K)
                refine rg_step fun K hK => ?_
                apply rg_call_any (.inl rfl) rfl
                · intro w4 hw
                  go_simp
                  exact ⟨rfl, rfl⟩
                · intro w4 hw
                  refine (planned_calls _ _ w4).mono ?_
                  rintro e w5 ⟨⟨qp, rfl⟩, hb⟩
                  exact ⟨_, rfl, hb, ⟨qp, rfl⟩, trivial⟩
                rintro v5 ⟨qp, rfl⟩
                go_simp
                (try with_reducible refine hK _ _ ?_)
                try clear hK K
                iterate 2 (refine rg_step fun K hK => ?_; apply rg_fn rfl; (intro w4 hw; go_simp; try rfl); go_simp; (try with_reducible refine hK _ _ ?_); try clear hK K)
                cases qp
                · iterate 8 (refine rg_step fun K hK => ?_; apply rg_skip rfl; go_simp; (try with_reducible refine hK _ _ ?_); try clear hK K)
                  refine rg_nil ?_
                  intro W9 hw9 _
                  replace hw9 := hw9.undrew
                  have HM9 := Lib.hid (HMv.out.trans ((HBV.out.trans (Below.mono hw9 HBV.out.size)).mono HMv.out.size))
                  clear hw9
                  simp only [List.drop_succ_cons, List.drop_zero]
                  go_wp2_with fail
                  go_ret
                  exact ⟨⟨9, rfl⟩, (HR.out W9 HM9.out).2.1⟩
                · skip
                  iterate 8 (refine rg_step fun K hK => ?_; apply rg_fn rfl; (intro w4 hw; obtain ⟨⟨q0, q1⟩, q2, q3, q4⟩ := HQV.out w4 hw.undrew; go_simp; try rfl); go_simp; (try with_reducible refine hK _ _ ?_); try clear hK K)
                  refine rg_nil ?_
                  intro W9 hw9 _
                  replace hw9 := hw9.undrew
                  have hb9 : Below vr.heap.size vr W9 := HBV.out.trans (Below.mono hw9 HBV.out.size)
                  have HM9 := Lib.hid (HMv.out.trans (hb9.mono HMv.out.size))
                  have HB9 := Lib.hid hb9
                  have HLC := Lib.hid (lies_calls (.slice cA cs.length cc) cs z.1 z.2 W9 ((HCV.out.2.below (HR.out W9 HM9.out).2.1).mono (HR.out W9 HM9.out).2.1.size))
                  clear hw9 hb9
                  simp only [List.drop_succ_cons, List.drop_zero]
                  go_wp2_with fail
                  refine HLC.out.mono ?_
                  rintro e W10 ⟨⟨n10, rfl⟩, hb10⟩
                  have HB10 := Lib.hid (HB9.out.trans (hb10.mono HB9.out.size))
                  clear hb10
                  go_wp2_with fail
                  refine (up_calls n10 W10).mono ?_
                  rintro e W11 ⟨⟨q11, rfl⟩, hb11⟩
                  have HB11 := Lib.hid (HB10.out.trans (hb11.mono HB10.out.size))
                  clear hb11
                  cases q11
                  · go_wp2_with fail
                    go_ret
                    exact ⟨⟨9, rfl⟩, (HR.out W11 (HMv.out.trans (HB11.out.mono HMv.out.size))).2.1⟩
                  · have HL11 := Lib.hid (HL.out.trans (HB11.out.mono HL.out.size))
                    go_wp2_with fail
                    go_round
                    case rel => exact ⟨j + 1, by omega, by go_num, HL11⟩
                    case measure => simp [intOf]; omega
              · have hji : ¬ (j : Int) < (ps.length : Int) := by omega
                obtain ⟨⟨a0, a1⟩, c0, c1, c2, c3, c4, c5⟩ := HQ.out vr HMv.out
                go_wp2_with fail
                clear a0 a1 c0 c1 c2 c3 c4 c5
                refine (containsFuncOpen_calls 41 #[.pointer (some ⟨w.heap.size + 1, 0, none⟩)] (fun args w => by go_simp) _ _ vr (HR.out vr HMv.out).2.2.1 (fun W' p' hW' => open2_calls (w.heap.size + 1) p p' W' (HR.out W' (HMv.out.trans (hW'.mono HMv.out.size))).1)).mono ?_
                rintro e W9 ⟨⟨q9, rfl⟩, hb9⟩
                have HM9 := Lib.hid (HMv.out.trans (hb9.mono HMv.out.size))
                clear hb9
                cases q9
                · go_wp2_with fail
                  go_ret
                  exact ⟨⟨0, rfl⟩, (HR.out W9 HM9.out).2.1⟩
                · go_wp2_with fail
                  go_ret
                  exact ⟨⟨10, rfl⟩, (HR.out W9 HM9.out).2.1⟩
    · go_wp2_with fail
      go_ret
      exact ⟨⟨6, rfl⟩, (HR.out W2 HM2.out).2.1⟩
end Go.Proofs.Ytnbnhcoaggpmaaa
