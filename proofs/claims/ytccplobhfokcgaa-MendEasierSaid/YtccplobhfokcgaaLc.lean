/- MendCheapest: the walk. -/
import Derived.Test.YtccplobhfokcgaaPc
import Derived.Test.YtccplobhfokcgaaRu
namespace Go.Proofs.Ytccplobhfokcgaa
open Go Go.RowKit Go.Shelf
set_option maxRecDepth 100000

/-- What stays through a law. -/
structure LawInv (m : Wk) (w : World) (sl cr : Value) (bx : Nat) (W : World) : Prop where
  below : Below w.heap.size w W
  slopes : SlopesAt W W.heap.size sl m.slopes
  crafts : CraftsAt W W.heap.size cr m.crafts
  box : W.heap[bx]? = some (.cells #[sl, cr, .int .i64 m.years, .int .i64 m.visit, .int .i64 m.hands] 25 (0, 0))
theorem LawInv.later {m : Wk} {w : World} {sl cr : Value} {bx : Nat} {W W' : World} (h : LawInv m w sl cr bx W) (hb : Below W.heap.size W W') : LawInv m w sl cr bx W' :=
  ⟨h.below.trans (hb.mono h.below.size), (h.slopes.below hb).mono hb.size, (h.crafts.below hb).mono hb.size, blk_below hb h.box (lt_blk h.box)⟩
theorem LawInv.start {m : Wk} {w : World} {sl cr : Value} (hsl : SlopesAt w w.heap.size sl m.slopes) (hcr : CraftsAt w w.heap.size cr m.crafts) :
    LawInv m w sl cr w.heap.size (w.alloc (.cells #[sl, cr, .int .i64 m.years, .int .i64 m.visit, .int .i64 m.hands] 25)) :=
  ⟨below1 _ _, (hsl.below (below1 _ _)).mono (by simp), (hcr.below (below1 _ _)).mono (by simp), heap_alloc_self _ _⟩
def LawPost (w : World) (e : Ending) (w' : World) : Prop := e = .returned (.bool true) ∧ Below w.heap.size w w'
theorem runs_law {m : Wk} {w : World} {sl cr : Value} {bx : Nat} {W : World} (h : LawInv m w sl cr bx W) : Calls Try.prog 16 #[] W fun e w' => e = .returned (.bool true) ∧ LawPost w (.returned (.bool true)) w' :=
  (runs_calls W).mono fun e w' ⟨he, hb⟩ => ⟨he, rfl, h.below.trans (hb.mono h.below.size)⟩

set_option maxHeartbeats 8000000 in
theorem mendCheapest_calls (m : Wk) (sl cr pv : Value) (plan : List (List Int)) (w : World) (hsl : SlopesAt w w.heap.size sl m.slopes) (hcr : CraftsAt w w.heap.size cr m.crafts) (hp : RowsAt w w.heap.size pv plan) :
    Calls Try.prog 8 #[.agg #[sl, cr, .int .i64 m.years, .int .i64 m.visit, .int .i64 m.hands], pv] w (LawPost w) := by
  obtain ⟨sA, sc, rfl, _, _⟩ := id hsl
  obtain ⟨cA, cc, rfl, _, _⟩ := id hcr
  obtain ⟨pA, pc, rfl, hpl, hpr⟩ := id hp
  obtain ⟨w0, hw0⟩ : ∃ w0, w0 = w.alloc (.cells #[.slice sA m.slopes.length sc, .slice cA m.crafts.length cc, .int .i64 m.years, .int .i64 m.visit, .int .i64 m.hands] 25) := ⟨_, rfl⟩
  have h0 := LawInv.start hsl hcr
  rw [← hw0] at h0
  have x5 := blk5 h0.box
  rw [hw0] at x5
  obtain ⟨x0, x1, x2, x3, x4⟩ := x5
  have HP := Lib.hid hp
  have HPR := Lib.hid hpr
  have H0 := Lib.hid h0
  have HW0 := Lib.hid hw0
  clear hp hpr h0 hw0 hsl hcr
  go_enter Try.func8, Try.ntmps8
  go_wp2_with fail
  rw [← HW0.out]
  refine (great_calls m _ _ w0 H0.out.slopes H0.out.crafts).mono ?_
  rintro e w1 ⟨⟨g, rfl⟩, hb1⟩
  have H1 := Lib.hid (H0.out.later hb1)
  clear hb1 x0 x1 x2 x3 x4 H0 HW0
  cases g
  · go_wp2_with fail
    refine (long_calls _ plan w1 ((HP.out.below H1.out.below).mono H1.out.below.size)).mono ?_
    rintro e w2 ⟨⟨l, rfl⟩, hb2⟩
    have H2 := Lib.hid (H1.out.later hb2)
    clear hb2 H1
    cases l
    · obtain ⟨x0, x1, x2, x3, x4⟩ := blk5 H2.out.box
      go_wp2_with fail
      refine (follow_calls m _ _ _ plan w2 H2.out.slopes H2.out.crafts ((HP.out.below H2.out.below).mono H2.out.below.size)).mono ?_
      rintro e w3 ⟨v3, rfl, _, hb3⟩
      have H3 := Lib.hid (H2.out.later hb3)
      clear hb3 H2 x0 x1 x2 x3 x4
      generalize hfe : (followS m plan).2.2.2 = fe at *
      generalize hfa : (followS m plan).2.2.1 = fa at *
      generalize hfc : (followS m plan).2.1 = fc at *
      have HF := Lib.hid (And.intro hfe (And.intro hfa hfc))
      clear hfe hfa hfc
      by_cases he : fe = 0
      · have he1 : (fe != 0) = false := by simp [he]
        have he2 : (!(fe == 0)) = false := by simp [he]
        by_cases ha : fa ≥ 0
        · clear he
          go_wp2_with (go_at_call 16; refine (runs_law H3.out).mono ?_; rintro e wr ⟨rfl, hr⟩; have HR := Lib.hid hr; clear hr)
          go_ret
          exact HR.out
        · have hfine := followS_fine (m := m) (plan := plan) (by rw [HF.out.1]; exact he) (by rw [HF.out.2.1]; exact ha)
          obtain ⟨hck, hpo, hkept, hcost⟩ := hfine
          have hm := checkS_ok hck
          have hge := plan_ge hpo hkept
          have hbd := costPl_bd hm hpo plan.length (Nat.le_refl _)
          have hlen := planOk_len hpo
          have hyb := hm.years
          have hv : valS m (firstS m) < 2000000000 := by
            have : (plan.length : Int) * 41000000 ≤ 40 * 41000000 := Int.mul_le_mul_of_nonneg_right (by omega) (by omega)
            omega
          rw [← hcost, HF.out.2.2] at hge
          have hcl : fc = costPl m plan plan.length := by rw [← hcost, HF.out.2.2]
          have HALL := Lib.hid (And.intro hpo (And.intro hkept hcl))
          have HLEN := Lib.hid hlen
          have hc2 := cheap_calls m _ _ w3 H3.out.slopes H3.out.crafts
          have HC2 := Lib.hid hc2
          obtain ⟨x0, x1, x2, x3, x4⟩ := blk5 H3.out.box
          clear hc2 hpo hkept hcl hcost hbd hlen he
          by_cases hmany : 2000 < (allS m (firstS m)).length
          · have hch : cheapS m = ([], 0, false, 3) := by unfold cheapS; rw [if_pos hck, if_pos hmany]
            have HCH := Lib.hid hch
            clear hch hmany hck
            go_wp2_with fail
            refine HC2.out.mono ?_
            rintro e w4 ⟨v4, rfl, _, hb4⟩
            rw [HCH.out]
            have H4 := Lib.hid (H3.out.later hb4)
            clear hb4 HC2
            simp only []
            go_wp2_with (go_at_call 16; refine (runs_law H4.out).mono ?_; rintro e wr ⟨rfl, hr⟩; have HR := Lib.hid hr; clear hr)
            go_ret
            exact HR.out
          · have hch : cheapS m = (planS m, valS m (firstS m), true, 0) := by unfold cheapS; rw [if_pos hck, if_neg hmany, if_neg (by omega)]
            have HCH := Lib.hid hch
            have hpl2 := planS_length hyb.1
            have hln : (planS m).length = plan.length := by have := HLEN.out; omega
            have HLN := Lib.hid hln
            have hrows := fun (k : Nat) (hk : (k : Int) < m.years) => (rowsS_mem (chS_pick (chS_ok hm hv k (by omega)) hk).2.1).1.len
            have HROWS := Lib.hid hrows
            have hrows2 := fun (k : Nat) (hk : k < plan.length) => (may_ok (planOk_row HALL.out.1 hk)).len
            have HROWS2 := Lib.hid hrows2
            clear hch hmany hpl2 hrows hrows2 hln
            go_wp2_with fail
            refine HC2.out.mono ?_
            rintro e w4 ⟨v4, he4, hr4, hb4⟩
            rw [HCH.out] at he4 hr4
            subst he4
            have H4 := Lib.hid (H3.out.later hb4)
            obtain ⟨qA, qc, rfl, _, hqr⟩ := hr4
            rw [HLN.out]
            have HQR := Lib.hid hqr
            generalize hvf : valS m (firstS m) = vf at *
            have HVF := Lib.hid hvf
            clear hb4 HC2 hqr hvf x0 x1 x2 x3 x4
            have hng : ¬ vf > fc := by omega
            have hn1 : ((plan.length : Int) != (plan.length : Int)) = false := by simp
            have hn2 : (!((plan.length : Int) == (plan.length : Int))) = false := by simp
            simp only []
            go_wp2_with fail
            go_loopw [12] (fun c wr => ∃ y : Nat, y ≤ plan.length ∧ c = .int .i64 (y : Int) ∧ Hid (∀ j, j < y → plan[j]? = some (pkS m j)) ∧ Hid (Below w4.heap.size w4 wr)) (fun c _ => plan.length - (intOf c).toNat)
            case atStart => exact ⟨0, Nat.zero_le _, rfl, Lib.hid (fun j hj => by omega), Lib.hid (Below.refl _ _)⟩
            case round =>
              obtain ⟨y, hy, rfl, HS, HB⟩ := hrel
              obtain ⟨Wr, rfl⟩ : ∃ Wr, Wr = wr := ⟨_, rfl⟩
              have HR4 := Lib.hid (H4.out.later HB.out)
              by_cases hyl : y < plan.length
              · have hyi : (y : Int) < (plan.length : Int) := by omega
                have hy0 : (0 : Int) ≤ (y : Int) := by omega
                have hyadd : IntKind.i64.wrap ((y : Int) + 1) = (y : Int) + 1 := IntWalk.i64_in _ (by omega)
                by_cases heq : vf = fc
                · have hvq : (vf == fc) = true := by simp [heq]
                  obtain ⟨pb, po, rfl, hpb, hpc⟩ := HPR.out (by intro e; rw [e] at hyl; simp at hyl)
                  obtain ⟨u1, hu1, rA1, rc1, rfl, hr1⟩ := hpc y _ (List.getElem?_eq_getElem hyl)
                  have hym : (y : Int) < m.years := by rw [← HLEN.out]; omega
                  have hgy := planS_get hym
                  obtain ⟨qb, qo, rfl, hqb, hqc⟩ := HQR.out (by intro e; rw [e] at hgy; simp at hgy)
                  obtain ⟨u2, hu2, rA2, rc2, rfl, hr2⟩ := hqc y _ hgy
                  have hl1 := HROWS2.out y hyl
                  have hl2 := HROWS.out y hym
                  have hfirst := fun (i : Nat) (hi : i < (pkS m y).length) (ht : (pkS m y).take i = plan[y].take i) (hne : (pkS m y).getD i 0 ≠ plan[y].getD i 0) =>
                    cheap_first hm (by rw [HVF.out]; omega) HALL.out.1 HALL.out.2.1 (by rw [← HALL.out.2.2, HVF.out, heq]) hyl HS.out hi ht hne
                  have hsame : plan[y] = pkS m y → ∀ j, j < y + 1 → plan[j]? = some (pkS m j) := fun h j hj => by
                    rcases Nat.lt_or_ge j y with h1 | h1
                    · exact HS.out j h1
                    · obtain rfl : j = y := by omega
                      rw [List.getElem?_eq_getElem hyl, h]
                  have hw4 := H4.out.below.size
                  have hk1 : ∀ W, Below w4.heap.size w4 W → W.cell? ⟨pb, po + y, none⟩ = some (.slice rA1 plan[y].length rc1) := fun W hW => ((H4.out.below.trans (hW.mono hw4)).cell (p := ⟨pb, po + y, none⟩) hpb).trans hu1
                  have hk2 : ∀ W, Below w4.heap.size w4 W → W.cell? ⟨qb, qo + y, none⟩ = some (.slice rA2 (pkS m y).length rc2) := fun W hW => (hW.cell (p := ⟨qb, qo + y, none⟩) hqb).trans hu2
                  have hk3 : ∀ W, Below w4.heap.size w4 W → RowC W w4.heap.size rA1 (plan[y].map (Value.int .i64)) := fun W hW => (hr1.below (H4.out.below.trans (hW.mono hw4))).mono hw4
                  have hk4 : ∀ W, Below w4.heap.size w4 W → RowC W w4.heap.size rA2 ((pkS m y).map (Value.int .i64)) := fun W hW => hr2.below hW
                  generalize plan[y] = p at *
                  generalize pkS m y = r at *
                  have HK := Lib.hid (And.intro hk1 (And.intro hk2 (And.intro hk3 hk4)))
                  have HFIRST := Lib.hid hfirst
                  have HSAME := Lib.hid hsame
                  have hrpl : r.length ≤ p.length := by rw [hl1, hl2]; exact Nat.le_refl _
                  have hprl : p.length ≤ r.length := by rw [hl1, hl2]; exact Nat.le_refl _
                  have hfew := hm.few
                  have hr4 : r.length ≤ 4 := by rw [hl2]; exact hfew
                  clear hpc hqc hu1 hu2 hr1 hr2 hfirst hsame hk1 hk2 hk3 hk4 hl1 hl2 heq
                  go_wp2_with fail
                  go_loopw [13] (fun c wi => ∃ i : Nat, i ≤ r.length ∧ c = .int .i64 (i : Int) ∧ Hid (r.take i = p.take i) ∧ Hid (Below w4.heap.size w4 wi)) (fun c _ => r.length - (intOf c).toNat)
                  case atStart => exact ⟨0, Nat.zero_le _, rfl, Lib.hid rfl, HB⟩
                  case round =>
                    obtain ⟨i, hi, rfl, HT, HBI⟩ := hrel
                    obtain ⟨Wi, rfl⟩ : ∃ Wi, Wi = wr := ⟨_, rfl⟩
                    obtain ⟨k1, k2, k3, k4⟩ := HK.out
                    have q1 := k1 Wi HBI.out
                    have q2 := k2 Wi HBI.out
                    by_cases hil0 : i < r.length
                    · have hil : (i : Int) < (r.length : Int) := by omega
                      have hil2 : (i : Int) < (p.length : Int) := by omega
                      have hi0 : (0 : Int) ≤ (i : Int) := by omega
                      have hiadd : IntKind.i64.wrap ((i : Int) + 1) = (i : Int) + 1 := IntWalk.i64_in _ (by omega)
                      have hip : i < p.length := by omega
                      obtain ⟨b1, o1, rfl, hb1, hc1⟩ := (k3 Wi HBI.out).at_ i (by simpa using hip)
                      obtain ⟨b2, o2, rfl, hb2, hc2⟩ := (k4 Wi HBI.out).at_ i (by simpa using hil0)
                      simp only [List.getElem_map] at hc1 hc2
                      have hg1 : p.getD i 0 = p[i] := getD_lt hip 0
                      have hg2 : r.getD i 0 = r[i] := getD_lt hil0 0
                      have hnxt : r[i] = p[i] → r.take (i + 1) = p.take (i + 1) := fun h => by
                        rw [List.take_succ_eq_append_getElem hil0, List.take_succ_eq_append_getElem hip, HT.out, h]
                      have hless : r[i] ≠ p[i] → r[i] < p[i] := fun h => by
                        have := HFIRST.out i hil0 HT.out (by rw [hg1, hg2]; exact h)
                        rwa [hg1, hg2] at this
                      have HN := Lib.hid hnxt
                      have HL := Lib.hid hless
                      clear hnxt hless hg1 hg2
                      generalize p[i] = x at *
                      generalize r[i] = z at *
                      have hq : ∀ W, Grows Wi W → _ := fun W hW => And.intro (k1 W (HBI.out.trans (hW.mono HBI.out.size))) (And.intro (k2 W (HBI.out.trans (hW.mono HBI.out.size))) (And.intro ((hW.cell (p := ⟨b1, o1 + i, none⟩) (Nat.lt_of_lt_of_le hb1 HBI.out.size)).trans hc1) ((hW.cell (p := ⟨b2, o2 + i, none⟩) (Nat.lt_of_lt_of_le hb2 HBI.out.size)).trans hc2)))
                      have HQ := Lib.hid hq
                      clear hq k1 k2 k3 k4 hc1 hc2
                      go_wp2_with fail
                      refine wp_region_rg Grows (fun _ => .fn) (by kernel_rfl) (by kernel_rfl) Grows.refl growsT (fun _ => trivial) ?_
                      iterate 15 (refine rg_step fun K hK => ?_; apply rg_fn rfl; (intro w4 hw; obtain ⟨q1, q2, c1, c2⟩ := HQ.out w4 hw.undrew; go_simp; try rfl); go_simp; (try with_reducible refine hK _ _ ?_); try clear hK K)
                      refine rg_nil ?_
                      intro w5 hw5 _
                      replace hw5 := hw5.undrew
                      have hb5 := HBI.out.trans (hw5.mono HBI.out.size)
                      have HB5 := Lib.hid hb5
                      have HEND := Lib.hid ((H4.out.later hb5))
                      by_cases hxz : z = x
                      · have hz1 : (z != x) = false := by simp [hxz]
                        have hz2 : (!(z == x)) = false := by simp [hxz]
                        have HN2 := Lib.hid (HN.out hxz)
                        clear hxz hb5 hw5 HQ
                        go_wp2_with fail
                        go_round
                        case rel => exact ⟨i + 1, by omega, by go_num, HN2, HB5⟩
                        case measure => simp [intOf]; omega
                      · have hz1 : (z != x) = true := by simpa using hxz
                        have hz2 : (!(z == x)) = true := by simpa using hxz
                        have hzl : z < x := HL.out hxz
                        have hq5 : ∀ W, Grows w5 W → _ := fun W hW => HQ.out W (growsT _ _ _ hw5 hW)
                        have HQ5 := Lib.hid hq5
                        clear hq5 hb5 hw5 HQ
                        go_wp2_with fail
                        refine wp_region_rg Grows (fun | 16 => .ex (.bool true) | _ => .fn) (by kernel_rfl) (by kernel_rfl) Grows.refl growsT (by intro i; split <;> trivial) ?_
                        iterate 16 (refine rg_step fun K hK => ?_; apply rg_fn rfl; (intro w4 hw; obtain ⟨q1, q2, c1, c2⟩ := HQ5.out w4 hw.undrew; go_simp; try rfl); go_simp; (try with_reducible refine hK _ _ ?_); try clear hK K)
                        refine rg_step fun K hK => ?_
                        apply rg_call (.inl rfl) rfl
                        · intro wx hw
                          go_simp
                          exact ⟨rfl, rfl⟩
                        · intro wx hw
                          exact runs_calls wx
                        go_simp
                        (try with_reducible refine hK _ _ ?_)
                        try clear hK K
                        iterate 2 (refine rg_step fun K hK => ?_; apply rg_fn rfl; (intro w4 hw; go_simp; try rfl); go_simp; (try with_reducible refine hK _ _ ?_); try clear hK K)
                        refine rg_nil ?_
                        intro w6 hw6 _
                        have H6 := Lib.hid (HEND.out.later hw6.undrew)
                        clear hw6 HQ5
                        go_wp2_with fail
                        go_ret
                        exact ⟨rfl, H6.out.below⟩
                    · obtain rfl : i = r.length := by omega
                      have hil : ¬ ((r.length : Int) < (p.length : Int)) := by omega
                      have hrp : p = r := by
                        have h := HT.out
                        rw [List.take_length, List.take_of_length_le (by omega)] at h
                        exact h.symm
                      have HS2 := Lib.hid (HSAME.out hrp)
                      clear hrp k1 k2 k3 k4
                      go_wp2_with fail
                      go_round
                      case rel => exact ⟨y + 1, by omega, by go_num, HS2, HBI⟩
                      case measure => simp [intOf]; omega
                · have hvq : (vf == fc) = false := by simpa using heq
                  have HEND := HR4
                  clear heq
                  go_wp2_with (go_at_call 16; refine (runs_law HEND.out).mono ?_; rintro e wr ⟨rfl, hr⟩; have HR := Lib.hid hr; clear hr)
                  go_ret
                  exact HR.out
              · obtain rfl : y = plan.length := by omega
                have hyi : ¬ ((plan.length : Int) < (plan.length : Int)) := by omega
                have HEND := HR4
                go_wp2_with (go_at_call 16; refine (runs_law HEND.out).mono ?_; rintro e wr ⟨rfl, hr⟩; have HR := Lib.hid hr; clear hr)
                go_ret
                exact HR.out
      · have he1 : (fe != 0) = true := by simpa using he
        have he2 : (!(fe == 0)) = true := by simpa using he
        go_wp2_with (go_at_call 16; refine (runs_law H3.out).mono ?_; rintro e wr ⟨rfl, hr⟩; have HR := Lib.hid hr; clear hr)
        go_ret
        exact HR.out
    · go_wp2_with (go_at_call 16; refine (runs_law H2.out).mono ?_; rintro e wr ⟨rfl, hr⟩; have HR := Lib.hid hr; clear hr)
      go_ret
      exact HR.out
  · go_wp2_with (go_at_call 16; refine (runs_law H1.out).mono ?_; rintro e wr ⟨rfl, hr⟩; have HR := Lib.hid hr; clear hr)
    go_ret
    exact HR.out
end Go.Proofs.Ytccplobhfokcgaa
