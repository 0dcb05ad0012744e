/- The specification's Late; MendLate: the walk. -/
import Derived.Test.YtccplobhfokcgaaRf
namespace Go.Proofs.Ytccplobhfokcgaa
open Go Go.RowKit Go.Shelf
set_option maxRecDepth 100000

theorem late_bad {m : Wk} {plan : List (List Int)} (he : (followS m plan).2.2.2 = 0) {year slope : Int} (h : year < 0 ∨ year ≥ m.years ∨ slope < 0 ∨ slope ≥ m.slopes.length ∨ cellP plan year.toNat slope.toNat < 0) : lateS m plan year slope = (0, 7) := by
  unfold lateS
  rw [if_pos he, if_pos]
  simp only [Bool.or_eq_true, decide_eq_true_eq]
  rcases h with h | h | h | h | h
  · exact .inl (.inl (by simp [outB]; omega))
  · exact .inl (.inl (by simp [outB]; omega))
  · exact .inl (.inr (by simp [outB]; omega))
  · exact .inl (.inr (by simp [outB]; omega))
  · exact .inr h
theorem late_good {m : Wk} {plan : List (List Int)} (he : (followS m plan).2.2.2 = 0) {yr s : Nat} (hy : (yr : Int) < m.years) (hs : (s : Int) < m.slopes.length) (hn : ¬ cellP plan yr s < 0) :
    lateS m plan yr s = if (followS m plan).2.2.1 = -1 then (((lateTo (goodY m plan yr s) yr (m.years.toNat - 1 - yr) : Nat) : Int), 0) else (0, 8) := by
  unfold lateS
  rw [if_pos he, if_neg]
  · simp
  · simp only [Bool.or_eq_true, decide_eq_true_eq, Int.toNat_natCast]
    rintro ((h | h) | h)
    · simp [outB] at h; omega
    · simp [outB] at h; omega
    · exact hn h
theorem follow_at (m : Wk) (plan : List (List Int)) : (followS m plan).2.2.1 = -1 ∨ 0 ≤ (followS m plan).2.2.1 := by
  unfold followS
  split
  · split
    · split
      · exact .inr (by simp)
      · exact .inl rfl
    · exact .inr (by simp)
  · exact .inr (by simp)
theorem lateTo_step (good : Nat → Bool) (yr Y : Nat) (h : yr < Y) : lateTo good yr (Y - yr) = if good Y then Y else lateTo good yr (Y - 1 - yr) := by
  rw [show Y - yr = (Y - 1 - yr) + 1 by omega, lateTo, show yr + (Y - 1 - yr) + 1 = Y by omega]
/-- What one copy of a row makes. -/
structure CopyOf (wi : World) (row : List Int) (u : Value) (W : World) : Prop where
  below : Below wi.heap.size wi W
  own : W.ownsRow wi.heap.size 3 1 u row.length (row.map (Value.int .i64))

set_option maxHeartbeats 16000000 in
theorem rlate_calls (m : Wk) (sl cr pv : Value) (P : List (List Int)) (year slope : Int) (w : World) (hsl : SlopesAt w w.heap.size sl m.slopes) (hcr : CraftsAt w w.heap.size cr m.crafts) (hp : RowsAt w w.heap.size pv P) :
    Calls Try.prog 33 #[.agg #[sl, cr, .int .i64 m.years, .int .i64 m.visit, .int .i64 m.hands], pv, .int .i64 year, .int .i64 slope] w (LatePost m P year slope w) := by
  obtain ⟨sA, sc, rfl, _, _⟩ := id hsl
  obtain ⟨cA, cc, rfl, _, _⟩ := id hcr
  obtain ⟨pA, pc, rfl, hpl, hpr⟩ := id hp
  obtain ⟨w0, hw0⟩ : ∃ w0, w0 = w.alloc (.cells #[.slice sA m.slopes.length sc, .slice cA m.crafts.length cc, .int .i64 m.years, .int .i64 m.visit, .int .i64 m.hands] 25) := ⟨_, rfl⟩
  have h0 := LawInv.start hsl hcr
  rw [← hw0] at h0
  have x5 := blk5 h0.box
  rw [hw0] at x5
  obtain ⟨x0, x1, x2, x3, x4⟩ := x5
  have H0 := Lib.hid h0
  have HW0 := Lib.hid hw0
  have HP := Lib.hid hp
  have HPR := Lib.hid hpr
  clear h0 hw0 hsl hcr hp hpr
  go_enter Try.func33, Try.ntmps33
  go_wp2_with fail
  rw [← HW0.out]
  refine (rfollow_calls m _ _ _ P w0 H0.out.slopes H0.out.crafts ((HP.out.below H0.out.below).mono H0.out.below.size)).mono ?_
  rintro e w3 ⟨v3, rfl, _, hb3⟩
  have H3 := Lib.hid (H0.out.later hb3)
  clear hb3 x0 x1 x2 x3 x4 H0 HW0
  by_cases he : (followS m P).2.2.2 = 0
  · obtain ⟨hck, hpo⟩ := followS_ok he
    have hm := checkS_ok hck
    have hlen := planOk_len hpo
    have hrow := fun (k : Nat) (hk : k < P.length) => (may_ok (planOk_row hpo hk)).len
    have hpl1 : (P.length : Int) ≤ m.years := Int.le_of_eq hlen
    have hpl2 : m.years ≤ (P.length : Int) := Int.le_of_eq hlen.symm
    have hyb := hm.years
    have hbd := hm.few
    have hsome := hm.some
    have hat := follow_at m P
    have HE := Lib.hid he
    have HROW := Lib.hid hrow
    have hgo := fun (yr s : Nat) (h1 : (yr : Int) < m.years) (h2 : (s : Int) < m.slopes.length) (h3 : ¬ cellP P yr s < 0) => late_good he h1 h2 h3
    have HGO := Lib.hid hgo
    rw [he]
    clear hck hpo hm hlen hrow he hgo
    generalize (followS m P).2.1 = pc2 at *
    generalize (followS m P).2.2.1 = pat at *
    obtain ⟨x0, x1, x2, x3, x4⟩ := blk5 H3.out.box
    by_cases hy0 : year < 0
    · have HB := Lib.hid (late_bad (slope := slope) HE.out (.inl hy0))
      go_wp2_with fail
      go_ret2
      unfold LatePost
      rw [HB.out]
      exact ⟨rfl, H3.out.below⟩
    · by_cases hy1 : year ≥ m.years
      · have HB := Lib.hid (late_bad (slope := slope) HE.out (.inr (.inl hy1)))
        go_wp2_with fail
        go_ret2
        unfold LatePost
        rw [HB.out]
        exact ⟨rfl, H3.out.below⟩
      · by_cases hs0 : slope < 0
        · have HB := Lib.hid (late_bad (year := year) HE.out (.inr (.inr (.inl hs0))))
          go_wp2_with fail
          go_ret2
          unfold LatePost
          rw [HB.out]
          exact ⟨rfl, H3.out.below⟩
        · by_cases hs1 : slope ≥ (m.slopes.length : Int)
          · have HB := Lib.hid (late_bad (year := year) HE.out (.inr (.inr (.inr (.inl hs1)))))
            go_wp2_with fail
            go_ret2
            unfold LatePost
            rw [HB.out]
            exact ⟨rfl, H3.out.below⟩
          · obtain ⟨yr, rfl⟩ := Int.eq_ofNat_of_zero_le (Int.not_lt.1 hy0)
            obtain ⟨s, rfl⟩ := Int.eq_ofNat_of_zero_le (Int.not_lt.1 hs0)
            have hyl : yr < P.length := by omega
            have hsl : s < m.slopes.length := by omega
            have hrl := HROW.out yr hyl
            have hrs : s < P[yr].length := by rw [hrl]; exact hsl
            obtain ⟨pb, po, rfl, hpb, hpc⟩ := HPR.out (by intro e; rw [e] at hyl; simp at hyl)
            have hgY : P[yr]? = some P[yr] := List.getElem?_eq_getElem hyl
            obtain ⟨u1, hu1, rA, rc, rfl, hr1⟩ := hpc yr _ hgY
            obtain ⟨rb, ro, rfl, hrb, hrc⟩ := hr1.at_ s (by simpa using hrs)
            simp only [List.getElem_map] at hrc
            have hcv : P[yr][s] = cellP P yr s := by unfold cellP; rw [getD_lt hyl, getD_lt hrs]
            rw [hcv] at hrc
            have hk1 := (H3.out.below.cell (p := ⟨pb, po + yr, none⟩) hpb).trans hu1
            have hk2 := (H3.out.below.cell (p := ⟨rb, ro + s, none⟩) hrb).trans hrc
            have hyi : (yr : Int) < (P.length : Int) := by omega
            have hsi : (s : Int) < (P[yr].length : Int) := by omega
            have hyi0 : (0 : Int) ≤ (yr : Int) := by omega
            have hsi0 : (0 : Int) ≤ (s : Int) := by omega
            have HC := Lib.hid (And.intro hu1 hrc)
            have HPC := Lib.hid hpc
            clear hu1 hrc hr1 hpc hcv
            by_cases hneg : cellP P yr s < 0
            · have HB := Lib.hid (late_bad (year := (yr : Int)) (slope := (s : Int)) HE.out (.inr (.inr (.inr (.inr (by simpa using hneg))))))
              generalize cellP P yr s = cv at *
              go_wp2_with fail
              go_ret2
              unfold LatePost
              rw [HB.out]
              exact ⟨rfl, H3.out.below⟩
            · have hlg := HGO.out yr s (by omega) (by omega) hneg
              generalize hcv : cellP P yr s = cv at *
              have HCV := Lib.hid hcv
              clear hcv
              by_cases hpat : pat ≥ 0
              · rw [if_neg (by omega)] at hlg
                have HLG := Lib.hid hlg
                clear hlg
                go_wp2_with fail
                go_ret2
                unfold LatePost
                rw [HLG.out]
                exact ⟨rfl, H3.out.below⟩
              · have hpm : pat = -1 := by omega
                subst hpm
                rw [if_pos rfl] at hlg
                have HLG := Lib.hid hlg
                have hyadd : IntKind.i64.wrap ((yr : Int) + 1) = (yr : Int) + 1 := IntWalk.i64_in _ (by omega)
                clear hlg hat
                go_wp2_with fail
                clear x0 x1 x2 x3 x4 hk1 hk2
                go_loopw [14, 15] (fun l c wr => ∃ Y : Nat, yr < Y ∧ (Y : Int) ≤ m.years ∧ c = .int .i64 (Y : Int) ∧ l = .int .i64 ((lateTo (goodY m P yr s) yr (Y - 1 - yr) : Nat) : Int) ∧ Hid (Below w3.heap.size w3 wr)) (fun _ c _ => m.years.toNat - (intOf c).toNat)
                case atStart => exact ⟨yr + 1, by omega, by omega, by go_num, by rw [show yr + 1 - 1 - yr = 0 by omega]; rfl, Lib.hid (Below.refl _ _)⟩
                case round =>
                  obtain ⟨Y, hY1, hY2, rfl, rfl, HB⟩ := hrel
                  obtain ⟨Wr, rfl⟩ : ∃ Wr, Wr = wr := ⟨_, rfl⟩
                  have HI := Lib.hid (H3.out.later HB.out)
                  obtain ⟨x0, x1, x2, x3, x4⟩ := blk5 HI.out.box
                  have zr := HB.out.size
                  have hwr := HI.out.below.size
                  by_cases hYl : (Y : Int) < m.years
                  · have hYP : Y < P.length := by omega
                    have hYadd : IntKind.i64.wrap ((Y : Int) + 1) = (Y : Int) + 1 := IntWalk.i64_in _ (by omega)
                    have hYi : (Y : Int) < (P.length : Int) := by omega
                    have hYi0 : (0 : Int) ≤ (Y : Int) := by omega
                    have hrlN := HROW.out Y hYP
                    have hrsN : s < P[Y].length := by rw [hrlN]; exact hsl
                    have hgN : P[Y]? = some P[Y] := List.getElem?_eq_getElem hYP
                    obtain ⟨u4, hu4, rA4, rc4, rfl, hur4⟩ := HPC.out Y _ hgN
                    obtain ⟨rb4, ro4, rfl, hrb4, hcell4⟩ := (hur4.below HI.out.below).at_ s (by simpa using hrsN)
                    have hu4' := (HI.out.below.cell (p := ⟨pb, po + Y, none⟩) hpb).trans hu4
                    simp only [List.getElem_map] at hcell4
                    have hcl4 : P[Y][s] = cellP P Y s := by unfold cellP; rw [getD_lt hYP, getD_lt hrsN]
                    rw [hcl4] at hcell4
                    have hsiN : (s : Int) < (P[Y].length : Int) := by omega
                    have hstep := lateTo_step (goodY m P yr s) yr Y hY1
                    have hgd : goodY m P yr s Y = (decide (cellP P Y s < 0) && decide ((followS m (movedS P Y yr s)).2.2.2 = 0) && decide ((followS m (movedS P Y yr s)).2.2.1 = -1)) := rfl
                    have hYs : Y + 1 - 1 - yr = Y - yr := by omega
                    have HST := Lib.hid hstep
                    have HYS := Lib.hid hYs
                    clear hcl4 hur4 hu4 hstep hYs hgN
                    generalize hcvN : cellP P Y s = cvN at *
                    by_cases hpos : cvN ≥ 0
                    · have hg : goodY m P yr s Y = false := by rw [hgd, show decide (cvN < 0) = false by simp; omega]; rfl
                      have hnx : lateTo (goodY m P yr s) yr (Y + 1 - 1 - yr) = lateTo (goodY m P yr s) yr (Y - 1 - yr) := by rw [HYS.out, HST.out, hg]; rfl
                      have HNX := Lib.hid hnx
                      clear hg hnx hgd
                      go_wp2_with fail
                      go_round
                      case rel => exact ⟨Y + 1, by omega, by omega, by go_num, by rw [HNX.out], HB⟩
                      case measure => simp [intOf]; omega
                    · rw [show decide (cvN < 0) = true by simp; omega, Bool.true_and] at hgd
                      have HGD := Lib.hid hgd
                      clear hgd
                      go_wp2_with fail
                      clear x0 x1 x2 x3 x4 hu4' hcell4
                      go_loopw [16, 17] (fun v c wi => ∃ j : Nat, j ≤ P.length ∧ c = .int .i64 (j : Int) ∧ (∃ A n c, v = .slice A n c) ∧ Hid (Below Wr.heap.size Wr wi) ∧ Hid (OwnD wi Wr.heap.size v (P.take j))) (fun _ c _ => P.length - (intOf c).toNat)
                      case atStart => exact ⟨0, Nat.zero_le _, rfl, ⟨none, 0, 0, rfl⟩, Lib.hid (Below.refl _ _), Lib.hid (OwnD.nil _ _)⟩
                      case round =>
                        obtain ⟨j, hj, rfl, ⟨A1, n1, c1, rfl⟩, HBI, HOD⟩ := hrel
                        obtain ⟨wi, rfl⟩ : ∃ wi, wi = wr := ⟨_, rfl⟩
                        have zi := HBI.out.size
                        have hwi : Below w.heap.size w wi := HI.out.below.trans (HBI.out.mono hwr)
                        have HWI := Lib.hid hwi
                        by_cases hjl : j < P.length
                        · have hji : (j : Int) < (P.length : Int) := by omega
                          have hj0 : (0 : Int) ≤ (j : Int) := by omega
                          have hjadd : IntKind.i64.wrap ((j : Int) + 1) = (j : Int) + 1 := IntWalk.i64_in _ (by omega)
                          have hgj : P[j]? = some P[j] := List.getElem?_eq_getElem hjl
                          obtain ⟨u3, hu3, rA3, rc3, rfl, hur3⟩ := HPC.out j _ hgj
                          have hts : P.take (j + 1) = P.take j ++ [P[j]] := List.take_succ_eq_append_getElem hjl
                          have hrl3 := HROW.out j hjl
                          have hrl3a : 1 ≤ P[j].length := by omega
                          have hrl3b : P[j].length ≤ 4 := by omega
                          have hjt : (P.take j).length = j := by rw [List.length_take]; omega
                          have hrow0 := (hwi.trans ((below1 wi (.cells #[] 3)).mono hwi.size)).cell (p := ⟨pb, po + j, none⟩) hpb
                          rw [hu3] at hrow0
                          have hrowat := fun W (hW : Below w.heap.size w W) => hur3.below hW
                          clear hrl3 hur3 hu3 hgj
                          generalize P[j] = row at *
                          obtain ⟨ad, rfl⟩ : ∃ ad, rA3 = some ad := by
                            obtain ⟨b, o, e, _⟩ := (hrowat w (Below.refl _ _)).at_ 0 (by simp; omega)
                            exact ⟨_, e⟩
                          have hnews : ∀ k u, (row.map (Value.int .i64))[k]? = some u → (wi.alloc (.cells #[] 3)).cell? (ad.add k) = some u := by
                            intro k u hu
                            obtain ⟨b, o, e, _, hc⟩ := (hrowat _ (hwi.trans ((below1 wi (.cells #[] 3)).mono hwi.size))).2 (by intro e; simp [e] at hu)
                            cases e
                            rw [show (⟨b, o, none⟩ : Addr).add k = ⟨b, o + k, none⟩ by unfold Addr.add; split <;> simp_all]
                            exact hc k u hu
                          have HNEWS := Lib.hid hnews
                          have HTS := Lib.hid hts
                          clear hnews hts hrowat
                          obtain ⟨vs, bs, ho1, ho2, ho3, ho4⟩ := HOD.out
                          have ho1' := ho1
                          rw [hjt] at ho1'
                          have how := fun W (hW : Below wi.heap.size wi W) => own_below ho1' hW (fun k hk => (own_blk_lt ho1' k hk).2)
                          have hlo : ∀ k ∈ bs, k < wi.heap.size := fun k hk => by
                            obtain ⟨i, hi⟩ := List.getElem?_of_mem hk
                            have hil := (List.getElem?_eq_some_iff.1 hi).1
                            have hil2 : i < (P.take j).length := by omega
                            obtain ⟨k', c', h5, _, h7⟩ := ho4 i _ (List.getElem?_eq_getElem hil2)
                            rw [hi] at h5
                            cases h5
                            exact (own_blk_lt h7 k rfl).2
                          have HOW := Lib.hid how
                          have HLO := Lib.hid hlo
                          have HO := Lib.hid (And.intro ho1 (And.intro ho2 (And.intro ho3 ho4)))
                          obtain ⟨i0, hi, hz0, hz1, hz2⟩ := info_parts infoInt
                          have hspread : ∀ v' W', W'.ownsRow wi.heap.size 3 1 v' (0 + row.length) ([] ++ row.map (Value.int .i64)) → (wi.alloc (.cells #[] 3)).grownBy W' (Value.ownBlock (.slice (some ⟨wi.heap.size, 0, none⟩) 0 0)) → CopyOf wi row v' W' := fun v' W' h1 h2 =>
                            ⟨(below1 wi (.cells #[] 3)).grown h2 (by simp) (fun k hk => by cases hk; exact Nat.le_refl _), by simpa using h1⟩
                          have HSPREAD := Lib.hid hspread
                          have hempty : (wi.alloc (.cells #[] 3)).ownsRow wi.heap.size 3 1 (.slice (some ⟨wi.heap.size, 0, none⟩) 0 0) 0 [] :=
                            ⟨rfl, .inr ⟨wi.heap.size, 0, #[], rfl, Nat.le_refl _, heap_alloc_self _ _, Nat.le_refl _, by simp [maxLen], rfl, rfl⟩⟩
                          have HEMPTY := Lib.hid hempty
                          have hnl : row ≠ [] := fun e => by rw [e] at hrl3a; simp at hrl3a
                          clear how hlo ho1 ho2 ho3 ho4 ho1' hspread hempty hwi
                          go_wp2_with (first
                            | (at_builtin; (refine wpList_append_own _ rfl _ _ 36 rfl wi.heap.size 3 i0 (.int .i64 0) 1 8 Try.underlying36 hi hz0 hz1 hz2 rfl (by decide) _ 0 [] rfl HEMPTY.out ad row.length rc3 (row.map (Value.int .i64)) rfl (by simp) HNEWS.out (by simp [Value.oneCell']) (by simp only [maxLen]; omega) (by omega) (by simp) ?_); intro v5 w5 hown5 hg5 _; have HC5 := Lib.hid (HSPREAD.out v5 w5 hown5 hg5); clear hown5 hg5; obtain ⟨A5, n5, c5, rfl⟩ := own_slice HC5.out.own)
                            | (at_builtin; (refine wpList_app2 Wr.heap.size _ _ 26 36 (.slice none 0 0) 1 24 [.slice A5 n5 c5] (by rfl) (by rfl) Try.underlying26 infoRow rfl (by decide) (by decide) (.slice A1 n1 c1) j vs (by rfl) w5.heap.size (by rfl) (heap_alloc_self _ _) rfl (by simp [Value.oneCell']) (HOW.out _ (HC5.out.below.trans ((below1 _ _).mono HC5.out.below.size))) (by omega) (by have := HC5.out.below.size; simp; omega) ?_); intro v6 w6 hown6 hg6 _ hb6; obtain ⟨A6, n6, c6, rfl⟩ := own_slice hown6; have HX := Lib.hid (And.intro hown6 (And.intro hg6 hb6)); clear hown6 hg6 hb6))
                          obtain ⟨hown6, hg6, hb6⟩ := HX.out
                          have hba := HC5.out.below.trans ((below1 w5 (.cells #[.slice A5 n5 c5] 36)).mono HC5.out.below.size)
                          have hod : OwnD w6 Wr.heap.size (.slice A6 n6 c6) (P.take (j + 1)) := by
                            rw [HTS.out]
                            obtain ⟨ho1, ho2, ho3, ho4⟩ := HO.out
                            refine OwnD.snoc (W0 := wi) hnl (own_below ho1 hba (fun k hk => (own_blk_lt ho1 k hk).2)) ho2 ho3 HLO.out (fun i xs hi => ?_) (own_below HC5.out.own (below1 w5 (.cells #[.slice A5 n5 c5] 36)) (fun k hk => (own_blk_lt HC5.out.own k hk).2)) zi (by rw [hjt]; exact hown6) hg6
                            obtain ⟨k, c, h5, h6, h7⟩ := ho4 i xs hi
                            exact ⟨k, c, h5, h6, own_below h7 hba (fun k hk => (own_blk_lt h7 k hk).2)⟩
                          have HOD' := Lib.hid hod
                          have HBI' := Lib.hid (HBI.out.trans ((hba.mono zi).trans hb6))
                          clear hown6 hg6 hb6 hba hod
                          go_round
                          case rel => exact ⟨j + 1, by omega, by go_num, ⟨_, _, _, rfl⟩, HBI', HOD'⟩
                          case measure => simp [intOf]; omega
                        · obtain rfl : j = P.length := by omega
                          have hji : ¬ ((P.length : Int) < (P.length : Int)) := by omega
                          have hod := HOD.out
                          rw [List.take_length] at hod
                          have hgN : P[Y]? = some P[Y] := List.getElem?_eq_getElem hYP
                          obtain ⟨hk1, hk2⟩ := HC.out
                          have hp1 := (hwi.cell (p := ⟨pb, po + yr, none⟩) hpb).trans hk1
                          have hp2 := (hwi.cell (p := ⟨rb, ro + s, none⟩) hrb).trans hk2
                          have zwi := hwi.size
                          obtain ⟨kR, cR, b1, cc1, curR, e9, qR, fR, hBR, hhR, hcR, cb, hcb⟩ := hod.one hgY
                          cases e9
                          obtain ⟨kN, cN, b', cc', curN, e9, qN, fN, hBN, hhN, hcN, _⟩ := hod.one hgN
                          simp only [Value.slice.injEq, Option.some.injEq, Addr.mk.injEq, and_true, true_and] at e9
                          obtain ⟨rfl, rfl⟩ := e9
                          have hkne : kR ≠ kN := hod.apart (by omega) hgY hgN rfl qR qN
                          have hbR : b1 ≠ kR := fun e => by rw [e, hhR] at hcb; simp at hcb
                          have hbN : b1 ≠ kN := fun e => by rw [e, hhN] at hcb; simp at hcb
                          have hcR' : curR[s]? = some (.int .i64 P[yr][s]) := hcR s _ (List.getElem?_eq_getElem hrs)
                          have hcN' : curN[s]? = some (.int .i64 P[Y][s]) := hcN s _ (List.getElem?_eq_getElem hrsN)
                          have hszR : s < curR.size := (Array.getElem?_eq_some_iff.1 hcR').1
                          have hq : ∀ w4, CellR kR (.cells curR 3 (0, 0)) (.cells (curR.setIfInBounds s (.int .i64 (-1))) 3 (0, 0)) wi w4 → _ := fun w4 hw4 =>
                            And.intro (show w4.cell? ⟨b1, yr, none⟩ = some (.slice (some ⟨kR, 0, none⟩) P[yr].length cR) by rw [cell_blk (hw4.bel.heap hcb hbR), ← cell_blk hcb]; exact qR)
                              (And.intro (show w4.cell? ⟨b1, Y, none⟩ = some (.slice (some ⟨kN, 0, none⟩) P[Y].length cN) by rw [cell_blk (hw4.bel.heap hcb hbR), ← cell_blk hcb]; exact qN)
                                (And.intro (show w4.cell? ⟨pb, po + yr, none⟩ = some (.slice (some ⟨rb, ro, none⟩) P[yr].length rc) by rw [World.cell?_of_block (hw4.bel.block pb (by omega) (by omega))]; exact hp1)
                                  (show w4.cell? ⟨rb, ro + s, none⟩ = some (.int .i64 cv) by rw [World.cell?_of_block (hw4.bel.block rb (by omega) (by omega))]; exact hp2)))
                          have hq2 : ∀ w4, CellR kR (.cells curR 3 (0, 0)) (.cells (curR.setIfInBounds s (.int .i64 (-1))) 3 (0, 0)) wi w4 → (∃ old, w4.cell? ⟨kR, s, none⟩ = some old) ∧ w4.frozen? ⟨kR, s, none⟩ = false ∧ (w4.setCell ⟨kR, s, none⟩ (.int .i64 (-1))).heap[kR]? = some (.cells (curR.setIfInBounds s (.int .i64 (-1))) 3 (0, 0)) := fun w4 hw4 => by
                            rcases hw4.one hhR with h | h
                            · exact ⟨⟨_, by rw [cell_blk h]; exact hcR'⟩, frozen_blk h _, heap_set h _ _⟩
                            · refine ⟨⟨.int .i64 (-1), by rw [cell_blk h]; simp [hszR]⟩, frozen_blk h _, ?_⟩
                              rw [heap_set h]; simp
                          have HQ := Lib.hid hq
                          have HQ2 := Lib.hid hq2
                          have HD := Lib.hid (And.intro hod (And.intro hgY (And.intro hgN (And.intro qR qN))))
                          have HK2 := Lib.hid (And.intro hhR (And.intro hhN (And.intro hcN' hcb)))
                          clear hrl hrlN hq hq2 hod hgY hgN qR qN fR fN hhR hhN hcR hcN hcb hcR' hcN' hk1 hk2 hp1 hp2 hwi
                          go_wp2_with fail
                          refine wp_region_rg_tail 19 (CellR kR (.cells curR 3 (0, 0)) (.cells (curR.setIfInBounds s (.int .i64 (-1))) 3 (0, 0))) (fun | 18 => .exw undef (fun w4 => w4.heap[kR]? = some (.cells (curR.setIfInBounds s (.int .i64 (-1))) 3 (0, 0))) | _ => .fn) (by kernel_rfl) (by kernel_rfl) (CellR.refl _ _ _) (fun _ _ _ h k => h.trans k)
                            (by intro i; split <;> first | trivial | exact (fun w1 w2 h => h.two)) ?_
                          iterate 18 (refine rg_step fun K hK => ?_; apply rg_fn rfl; (intro w4 hw; obtain ⟨qR, qN, qp, qc⟩ := HQ.out w4 hw.undrew; go_simp; try rfl); go_simp; (try with_reducible refine hK _ _ ?_); try clear hK K)
                          refine rg_step fun K hK => ?_
                          apply rg_exS rfl
                          · intro w4 hw
                            obtain ⟨⟨old, h1⟩, h2, h3⟩ := HQ2.out w4 hw.undrew
                            refine ⟨w4.setCell ⟨kR, s, none⟩ (.int .i64 (-1)), ?_, CellR.step, h3⟩
                            go_simp
                            try rfl
                          go_simp
                          (try with_reducible refine hK _ _ ?_)
                          try clear hK K
                          refine rg_nil ?_
                          intro w8 hw8 hset
                          replace hw8 := hw8.undrew
                          obtain ⟨hod, hgY, hgN, qR, qN⟩ := HD.out
                          obtain ⟨hhR, hhN, hcN', hcb⟩ := HK2.out
                          have hodR := hod.setAt hgY rfl qR hrs (-1)
                          have hb8 : Below (wi.setCell ⟨kR, s, none⟩ (.int .i64 (-1))).heap.size (wi.setCell ⟨kR, s, none⟩ (.int .i64 (-1))) w8 := by
                            have hz : (wi.setCell ⟨kR, s, none⟩ (.int .i64 (-1))).heap.size = wi.heap.size := by simp [World.setCell]
                            refine ⟨hw8.bel.os, hw8.bel.tape, hw8.bel.output, by rw [hz]; exact hw8.bel.size, fun k hk => ?_⟩
                            by_cases hkk : k = kR
                            · subst hkk
                              rw [hset, heap_set hhR]
                            · exact (hw8.bel.block k (by rw [hz] at hk; exact hk) hkk).trans (Below.heap_setCell _ _ _ _ hkk).symm
                          have hod8 := hodR.below hb8
                          have hgN8 : (P.set yr (P[yr].set s (-1)))[Y]? = some P[Y] := by rw [List.getElem?_set, if_neg (by omega)]; exact hgN
                          obtain ⟨q8R, q8N, _, _⟩ := HQ.out w8 hw8
                          have hod9 := hod8.setAt hgN8 (b := b1) (by rw [List.length_set]) q8N hrsN cv
                          have hmv : (P.set yr (P[yr].set s (-1))).set Y (P[Y].set s cv) = movedS P Y yr s := by
                            unfold movedS
                            rw [HCV.out, getD_lt hYP, getD_lt hyl, List.set_comm _ _ (by omega)]
                          rw [hmv] at hod9
                          have h8N := hw8.bel.heap hhN (Ne.symm hkne)
                          have f8N := frozen_blk h8N s
                          have c8N : w8.cell? ⟨kN, s, none⟩ = some (.int .i64 P[Y][s]) := by rw [cell_blk h8N]; exact hcN'
                          obtain ⟨w9, hw9⟩ : ∃ w9, w9 = w8.setCell ⟨kN, s, none⟩ (.int .i64 cv) := ⟨_, rfl⟩
                          have hb9 : Below Wr.heap.size Wr w9 := by
                            rw [hw9]
                            exact (HBI.out.trans (hw8.bel.below zi (fun k hk => by omega))).setCell (p := ⟨kN, s, none⟩) hBN _
                          rw [← hw9] at hod9
                          have hL9 := HI.out.later hb9
                          have hrl4 : ∀ xs ∈ P, xs.length ≤ 1000000 := fun xs hx => by
                            obtain ⟨i, hi⟩ := List.getElem?_of_mem hx
                            have hil := (List.getElem?_eq_some_iff.1 hi).1
                            have := HROW.out i hil
                            rw [(List.getElem?_eq_some_iff.1 hi).2] at this
                            omega
                          have hrows9 := hod9.rows (by rw [movedS_length]; omega) (movedS_rows (n := 1000000) hrl4 _ _ _)
                          have hfl9 := rfollow_calls m (.slice sA m.slopes.length sc) (.slice cA m.crafts.length cc) _ (movedS P Y yr s) w9 hL9.slopes hL9.crafts hrows9
                          have hx5 := blk5 hL9.box
                          rw [hw9] at hx5
                          obtain ⟨x0, x1, x2, x3, x4⟩ := hx5
                          have HW9 := Lib.hid hw9
                          have HB9 := Lib.hid hb9
                          have HFL9 := Lib.hid hfl9
                          clear hw8 hset hod hgY hgN qR qN hhR hhN hcN' hcb hodR hb8 hod8 hgN8 q8R q8N hmv h8N hw9 hb9 hod9 hL9 hrows9 hfl9 hrl4 HD HK2 HQ HQ2
                          simp only [List.drop_succ_cons, List.drop_zero]
                          generalize P[Y][s] = pnx at *
                          go_wp2_with fail
                          rw [← HW9.out]
                          refine HFL9.out.mono ?_
                          rintro e wa ⟨va, rfl, _, hba⟩
                          have hbwa : Below w3.heap.size w3 wa := (HB.out.trans (HB9.out.mono zr)).trans (hba.mono (Nat.le_trans zr HB9.out.size))
                          have HBWA := Lib.hid hbwa
                          have hata := follow_at m (movedS P Y yr s)
                          clear hba hbwa x0 x1 x2 x3 x4 f8N c8N
                          generalize (followS m (movedS P Y yr s)).2.2.2 = e7 at *
                          generalize (followS m (movedS P Y yr s)).2.2.1 = a7 at *
                          generalize (followS m (movedS P Y yr s)).2.1 = c7 at *
                          by_cases h7 : e7 = 0
                          · have h7a : (e7 == 0) = true := by simp [h7]
                            by_cases h8 : a7 < 0
                            · have hg : goodY m P yr s Y = true := by rw [HGD.out]; simp [h7]; omega
                              have hnx : lateTo (goodY m P yr s) yr (Y + 1 - 1 - yr) = Y := by rw [HYS.out, HST.out, hg]; rfl
                              have HNX := Lib.hid hnx
                              clear hg hnx h7 hata
                              go_wp2_with fail
                              simp only [show decide (m.slopes.length ≤ s) = false by simp; omega, Bool.or_false]
                              refine ⟨?_, ?measure1⟩
                              (repeat apply Exists.intro)
                              refine ⟨?rel1, rfl⟩
                              case rel1 => exact ⟨Y + 1, by omega, by omega, by go_num, by rw [HNX.out], HBWA⟩
                              case measure1 => simp [intOf]; omega
                            · have hg : goodY m P yr s Y = false := by rw [HGD.out]; simp; omega
                              have hnx : lateTo (goodY m P yr s) yr (Y + 1 - 1 - yr) = lateTo (goodY m P yr s) yr (Y - 1 - yr) := by rw [HYS.out, HST.out, hg]; rfl
                              have HNX := Lib.hid hnx
                              clear hg hnx h7 hata
                              go_wp2_with fail
                              simp only [show decide (m.slopes.length ≤ s) = false by simp; omega, Bool.or_false]
                              refine ⟨?_, ?measure2⟩
                              (repeat apply Exists.intro)
                              refine ⟨?rel2, rfl⟩
                              case rel2 => exact ⟨Y + 1, by omega, by omega, by go_num, by rw [HNX.out], HBWA⟩
                              case measure2 => simp [intOf]; omega
                          · have h7a : (e7 == 0) = false := by simpa using h7
                            have hg : goodY m P yr s Y = false := by rw [HGD.out]; simp [h7]
                            have hnx : lateTo (goodY m P yr s) yr (Y + 1 - 1 - yr) = lateTo (goodY m P yr s) yr (Y - 1 - yr) := by rw [HYS.out, HST.out, hg]; rfl
                            have HNX := Lib.hid hnx
                            clear hg hnx h7 hata
                            go_wp2_with fail
                            simp only [show decide (m.slopes.length ≤ s) = false by simp; omega, Bool.or_false]
                            refine ⟨?_, ?measure3⟩
                            (repeat apply Exists.intro)
                            refine ⟨?rel3, rfl⟩
                            case rel3 => exact ⟨Y + 1, by omega, by omega, by go_num, by rw [HNX.out], HBWA⟩
                            case measure3 => simp [intOf]; omega
                  · have hfin : lateTo (goodY m P yr s) yr (Y - 1 - yr) = lateTo (goodY m P yr s) yr (m.years.toNat - 1 - yr) := by rw [show m.years.toNat = Y by omega]
                    have HFIN := Lib.hid hfin
                    clear hfin
                    go_wp2_with fail
                    go_ret2
                    unfold LatePost
                    rw [HLG.out, ← HFIN.out]
                    exact ⟨rfl, HI.out.below⟩
  · have hn1 : ((followS m P).2.2.2 != 0) = true := by simpa using he
    have hn2 : (!((followS m P).2.2.2 == 0)) = true := by simpa using he
    have hlt : lateS m P year slope = (0, (followS m P).2.2.2) := by unfold lateS; rw [if_neg he]
    have HLT := Lib.hid hlt
    clear he hlt
    generalize (followS m P).2.2.2 = fe at *
    go_wp2_with fail
    go_ret2
    unfold LatePost
    rw [HLT.out]
    exact ⟨rfl, H3.out.below⟩

set_option maxHeartbeats 8000000 in
theorem mendLate_calls (m : Wk) (sl cr pv : Value) (plan : List (List Int)) (year slope : Int) (w : World) (hsl : SlopesAt w w.heap.size sl m.slopes) (hcr : CraftsAt w w.heap.size cr m.crafts) (hp : RowsAt w w.heap.size pv plan) :
    Calls Try.prog 6 #[.agg #[sl, cr, .int .i64 m.years, .int .i64 m.visit, .int .i64 m.hands], pv, .int .i64 year, .int .i64 slope] w (LawPost w) := by
  obtain ⟨sA, sc, rfl, _, _⟩ := id hsl
  obtain ⟨cA, cc, rfl, _, _⟩ := id hcr
  obtain ⟨pA, pc, rfl, hpl, _⟩ := id hp
  obtain ⟨w0, hw0⟩ : ∃ w0, w0 = w.alloc (.cells #[.slice sA m.slopes.length sc, .slice cA m.crafts.length cc, .int .i64 m.years, .int .i64 m.visit, .int .i64 m.hands] 25) := ⟨_, rfl⟩
  have h0 := LawInv.start hsl hcr
  rw [← hw0] at h0
  have x5 := blk5 h0.box
  rw [hw0] at x5
  obtain ⟨x0, x1, x2, x3, x4⟩ := x5
  have HP := Lib.hid hp
  have H0 := Lib.hid h0
  have HW0 := Lib.hid hw0
  clear hp h0 hw0 hsl hcr
  go_enter Try.func6, Try.ntmps6
  go_wp2_with fail
  rw [← HW0.out]
  refine (great_calls m _ _ w0 H0.out.slopes H0.out.crafts).mono ?_
  rintro e w1 ⟨⟨g, rfl⟩, hb1⟩
  have H1 := Lib.hid (H0.out.later hb1)
  clear hb1 x0 x1 x2 x3 x4 H0 HW0
  cases g
  · go_wp2_with fail
    refine (long_calls _ plan w1 ((HP.out.below H1.out.below).mono H1.out.below.size)).mono ?_
    rintro e w2 ⟨⟨l, rfl⟩, hb2⟩
    have H2 := Lib.hid (H1.out.later hb2)
    clear hb2 H1
    cases l
    · obtain ⟨x0, x1, x2, x3, x4⟩ := blk5 H2.out.box
      go_wp2_with fail
      refine (late_calls m _ _ _ plan year slope w2 H2.out.slopes H2.out.crafts ((HP.out.below H2.out.below).mono H2.out.below.size)).mono ?_
      rintro e w3 ⟨rfl, hb3⟩
      have H3 := Lib.hid (H2.out.later hb3)
      clear hb3 H2 x0 x1 x2 x3 x4
      obtain ⟨x0, x1, x2, x3, x4⟩ := blk5 H3.out.box
      go_wp2_with fail
      refine (rlate_calls m _ _ _ plan year slope w3 H3.out.slopes H3.out.crafts ((HP.out.below H3.out.below).mono H3.out.below.size)).mono ?_
      rintro e w4 ⟨rfl, hb4⟩
      have H4 := Lib.hid (H3.out.later hb4)
      clear hb4 H3 x0 x1 x2 x3 x4
      generalize (lateS m plan year slope).1 = la at *
      generalize (lateS m plan year slope).2 = le at *
      have h1 : (la == la) = true := by simp
      have h2 : (le == le) = true := by simp
      go_wp2_with (go_at_call 16; refine (runs_law H4.out).mono ?_; rintro e wr ⟨rfl, hr⟩; have HR := Lib.hid hr; clear hr)
      go_ret
      exact HR.out
    · go_wp2_with (go_at_call 16; refine (runs_law H2.out).mono ?_; rintro e wr ⟨rfl, hr⟩; have HR := Lib.hid hr; clear hr)
      go_ret
      exact HR.out
  · go_wp2_with (go_at_call 16; refine (runs_law H1.out).mono ?_; rintro e wr ⟨rfl, hr⟩; have HR := Lib.hid hr; clear hr)
    go_ret
    exact HR.out
end Go.Proofs.Ytccplobhfokcgaa
