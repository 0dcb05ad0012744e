/- MendBound: the walk. -/
import Derived.Test.YtccplobhfokcgaaLc
import Derived.Test.YtccplobhfokcgaaPn
namespace Go.Proofs.Ytccplobhfokcgaa
open Go Go.RowKit Go.Shelf
set_option maxRecDepth 100000

set_option maxHeartbeats 2000000 in
theorem broad_calls (lv : Value) (ws : List Wo) (w : World) (hp : WorthsAt w w.heap.size lv ws) :
    Calls Try.prog 26 #[lv] w (AnyBool w) := by
  obtain ⟨pA, pc, rfl, hpl, hpr⟩ := hp
  have HPR := Lib.hid hpr
  clear hpr
  go_enter Try.func26, Try.ntmps26
  have hloop : (ws.length : Int) > 300 ∧ (ws.length : Int) ≤ 2000 ∨ (ws.length : Int) > 3000 ∨ (((ws.length : Int) > 300 ∧ ¬ (ws.length : Int) ≤ 2000 ∨ ¬ (ws.length : Int) > 300) ∧ ¬ (ws.length : Int) > 3000) := by omega
  rcases hloop with ⟨h1, h2⟩ | h3 | ⟨h1, h3⟩
  · go_wp2_with fail
    go_ret
    exact ⟨⟨_, rfl⟩, Below.refl _ _⟩
  · have h1 : (ws.length : Int) > 300 := by omega
    have h2 : ¬ (ws.length : Int) ≤ 2000 := by omega
    go_wp2_with fail
    go_ret
    exact ⟨⟨_, rfl⟩, Below.refl _ _⟩
  · have H3 := Lib.hid h3
    rcases h1 with ⟨h1, h2⟩ | h1
    all_goals
      go_wp2_with fail
      go_loop [3] (fun c => ∃ i : Nat, i ≤ ws.length ∧ c = .int .i64 (i : Int)) (fun c => ws.length - (intOf c).toNat)
      case atStart => exact ⟨0, Nat.zero_le _, rfl⟩
      case round =>
        obtain ⟨i, hi, rfl⟩ := hrel
        by_cases hlt : i < ws.length
        · obtain ⟨b, o, rfl, hb, hc⟩ := HPR.out (by intro e; rw [e] at hlt; simp at hlt)
          obtain ⟨u, _, hu, _, rA, rc, rfl, _⟩ := hc i _ (List.getElem?_eq_getElem hlt)
          have hil : (i : Int) < (ws.length : Int) := by omega
          have hi0 : (0 : Int) ≤ (i : Int) := by omega
          have hadd : IntKind.i64.wrap ((i : Int) + 1) = (i : Int) + 1 := IntWalk.i64_in _ (by omega)
          generalize ws[i].th.length = n at *
          by_cases hn : (n : Int) > 20
          · go_wp2_with fail
            go_ret
            exact ⟨⟨_, rfl⟩, Below.refl _ _⟩
          · go_wp2_with fail
            go_round
            case rel => exact ⟨i + 1, by omega, by go_num⟩
            case measure => simp [intOf]; omega
        · have hil : ¬ (i : Int) < (ws.length : Int) := by omega
          go_wp2_with fail
          go_ret
          exact ⟨⟨_, rfl⟩, Below.refl _ _⟩

theorem provesS_not {m : Wk} {least : Int} {ws : List Wo} (h : (provesS m least ws).2 ≠ 0) : (provesS m least ws).1 = false := by
  unfold provesS at h ⊢
  by_cases hc : checkS m = 0
  · rw [if_pos hc] at h ⊢
    by_cases hl : 2000 < ws.length
    · rw [if_pos hl]
    · rw [if_neg hl] at h; exact absurd rfl h
  · rw [if_neg hc]
theorem provesS_yes {m : Wk} {least : Int} {ws : List Wo} (h : (provesS m least ws).2 = 0) (hy : (provesS m least ws).1 = true) : checkS m = 0 ∧ provesB m least ws = true := by
  unfold provesS at h hy
  by_cases hc : checkS m = 0
  · rw [if_pos hc] at h hy
    by_cases hl : 2000 < ws.length
    · rw [if_pos hl] at h; cases h
    · rw [if_neg hl] at hy; exact ⟨hc, hy⟩
  · rw [if_neg hc] at hy; cases hy
/-- What a proof says is at most what the cheapest plan costs. -/
theorem proves_cheap {m : Wk} {least : Int} {ws : List Wo} (h : provesB m least ws = true) (he : (cheapS m).2.2.2 = 0) (hf : (cheapS m).2.2.1 = true) : least ≤ (cheapS m).2.1 := by
  obtain ⟨hc, _, hv, e⟩ := cheapS_fine he hf
  have hm := checkS_ok hc
  have hl := planS_length (m := m) hm.years.1
  have h1 := proves_sound hm h (planOk_planS hm hv) (fun j hj => keptIn_planS hm hv (by omega))
  have h2 := costPl_planS hm hv (planS m).length (by omega)
  have h3 := (chS_ok hm hv (planS m).length (by omega)).y
  rw [valS_end (by rw [h3]; omega)] at h2
  rw [e]
  show least ≤ valS m (firstS m)
  omega

set_option maxHeartbeats 8000000 in
theorem mendBound_calls (m : Wk) (sl cr : Value) (least : Int) (lv : Value) (ws : List Wo) (pv : Value) (plan : List (List Int)) (w : World) (hsl : SlopesAt w w.heap.size sl m.slopes) (hcr : CraftsAt w w.heap.size cr m.crafts) (hws : WorthsAt w w.heap.size lv ws) (hp : RowsAt w w.heap.size pv plan) :
    Calls Try.prog 11 #[.agg #[sl, cr, .int .i64 m.years, .int .i64 m.visit, .int .i64 m.hands], .int .i64 least, lv, pv] w (LawPost w) := by
  obtain ⟨sA, sc, rfl, _, _⟩ := id hsl
  obtain ⟨cA, cc, rfl, _, _⟩ := id hcr
  obtain ⟨pA, pc, rfl, hpl, _⟩ := id hp
  obtain ⟨lA, lc, rfl, hll, _⟩ := id hws
  obtain ⟨w0, hw0⟩ : ∃ w0, w0 = w.alloc (.cells #[.slice sA m.slopes.length sc, .slice cA m.crafts.length cc, .int .i64 m.years, .int .i64 m.visit, .int .i64 m.hands] 25) := ⟨_, rfl⟩
  have h0 := LawInv.start hsl hcr
  rw [← hw0] at h0
  have x5 := blk5 h0.box
  rw [hw0] at x5
  obtain ⟨x0, x1, x2, x3, x4⟩ := x5
  have HP := Lib.hid hp
  have HWS := Lib.hid hws
  have H0 := Lib.hid h0
  have HW0 := Lib.hid hw0
  clear hp hws h0 hw0 hsl hcr
  go_enter Try.func11, Try.ntmps11
  go_wp2_with fail
  rw [← HW0.out]
  refine (great_calls m _ _ w0 H0.out.slopes H0.out.crafts).mono ?_
  rintro e w1 ⟨⟨g, rfl⟩, hb1⟩
  have H1 := Lib.hid (H0.out.later hb1)
  clear hb1 x0 x1 x2 x3 x4 H0 HW0
  cases g
  · go_wp2_with fail
    refine (broad_calls _ ws w1 ((HWS.out.below H1.out.below).mono H1.out.below.size)).mono ?_
    rintro e w2 ⟨⟨b, rfl⟩, hb2⟩
    have H2 := Lib.hid (H1.out.later hb2)
    clear hb2 H1
    cases b
    · go_wp2_with fail
      refine (long_calls _ plan w2 ((HP.out.below H2.out.below).mono H2.out.below.size)).mono ?_
      rintro e w3 ⟨⟨l, rfl⟩, hb3⟩
      have H3 := Lib.hid (H2.out.later hb3)
      clear hb3 H2
      cases l
      · obtain ⟨x0, x1, x2, x3, x4⟩ := blk5 H3.out.box
        go_wp2_with fail
        refine (proves_calls m _ _ _ least ws w3 H3.out.slopes H3.out.crafts ((HWS.out.below H3.out.below).mono H3.out.below.size)).mono ?_
        rintro e w4 ⟨rfl, hb4⟩
        have H4 := Lib.hid (H3.out.later hb4)
        clear hb4 H3 x0 x1 x2 x3 x4
        have hno := provesS_not (m := m) (least := least) (ws := ws)
        have hyes := provesS_yes (m := m) (least := least) (ws := ws)
        generalize (provesS m least ws).2 = pe at *
        generalize (provesS m least ws).1 = py at *
        have HNO := Lib.hid hno
        have HYES := Lib.hid hyes
        clear hno hyes
        by_cases he : pe = 0
        · have he1 : (pe != 0) = false := by simp [he]
          have he2 : (!(pe == 0)) = false := by simp [he]
          cases py
          · clear he
            go_wp2_with (go_at_call 16; refine (runs_law H4.out).mono ?_; rintro e wr ⟨rfl, hr⟩; have HR := Lib.hid hr; clear hr)
            go_ret
            exact HR.out
          · obtain ⟨hck, hpb⟩ := HYES.out he rfl
            have HCK := Lib.hid hck
            have HPB := Lib.hid hpb
            obtain ⟨x0, x1, x2, x3, x4⟩ := blk5 H4.out.box
            clear he hck hpb HNO HYES
            go_wp2_with fail
            refine (follow_calls m _ _ _ plan w4 H4.out.slopes H4.out.crafts ((HP.out.below H4.out.below).mono H4.out.below.size)).mono ?_
            rintro e w5 ⟨v5, rfl, _, hb5⟩
            have H5 := Lib.hid (H4.out.later hb5)
            clear hb5 H4 x0 x1 x2 x3 x4
            have hfine : (followS m plan).2.2.2 = 0 → ¬ (followS m plan).2.2.1 ≥ 0 → least ≤ (followS m plan).2.1 := fun h1 h2 => by
              obtain ⟨h3, h4, h5, h6⟩ := followS_fine h1 h2
              rw [h6]
              exact proves_sound (checkS_ok h3) HPB.out h4 h5
            generalize (followS m plan).2.2.2 = fe at *
            generalize (followS m plan).2.2.1 = fa at *
            generalize (followS m plan).2.1 = fc at *
            have HF := Lib.hid hfine
            clear hfine
            obtain ⟨x0, x1, x2, x3, x4⟩ := blk5 H5.out.box
            have hcases : (∃ p, (fe == 0) = p ∧ (p = false ∨ p = true ∧ (¬ fa < 0 ∨ fa < 0 ∧ ¬ fc < least))) := by
              by_cases h1 : fe = 0
              · refine ⟨true, by simp [h1], .inr ⟨rfl, ?_⟩⟩
                by_cases h2 : fa < 0
                · have := HF.out h1 (by omega)
                  exact .inr ⟨h2, by omega⟩
                · exact .inl h2
              · exact ⟨false, by simpa using h1, .inl rfl⟩
            have hch := proves_cheap (m := m) (least := least) (ws := ws) HPB.out
            have HCH := Lib.hid hch
            clear hch
            obtain ⟨p, hp0, hp1⟩ := hcases
            rcases hp1 with rfl | ⟨rfl, hp2 | ⟨hp2, hp3⟩⟩
            all_goals
              go_wp2_with fail
              refine (cheap_calls m _ _ w5 H5.out.slopes H5.out.crafts).mono ?_
              rintro e w6 ⟨v6, rfl, _, hb6⟩
              have H6 := Lib.hid (H5.out.later hb6)
              clear hb6 H5 x0 x1 x2 x3 x4
              have hch := HCH.out
              generalize (cheapS m).2.2.2 = ce at *
              generalize (cheapS m).2.2.1 = cf at *
              generalize (cheapS m).2.1 = cc2 at *
              by_cases hce : ce = 0
              · have hce1 : (ce != 0) = false := by simp [hce]
                have hce2 : (!(ce == 0)) = false := by simp [hce]
                cases cf
                · clear hch hce
                  go_wp2_with (go_at_call 16; refine (runs_law H6.out).mono ?_; rintro e wr ⟨rfl, hr⟩; have HR := Lib.hid hr; clear hr)
                  go_ret
                  exact HR.out
                · have hge : cc2 ≥ least := hch hce rfl
                  clear hch hce
                  go_wp2_with (go_at_call 16; refine (runs_law H6.out).mono ?_; rintro e wr ⟨rfl, hr⟩; have HR := Lib.hid hr; clear hr)
                  go_ret
                  exact HR.out
              · have hce1 : (ce != 0) = true := by simpa using hce
                have hce2 : (!(ce == 0)) = true := by simpa using hce
                clear hch hce
                go_wp2_with (go_at_call 16; refine (runs_law H6.out).mono ?_; rintro e wr ⟨rfl, hr⟩; have HR := Lib.hid hr; clear hr)
                go_ret
                exact HR.out
        · have he1 : (pe != 0) = true := by simpa using he
          have he2 : (!(pe == 0)) = true := by simpa using he
          have hpy : py = false := HNO.out he
          subst hpy
          clear he
          go_wp2_with (go_at_call 16; refine (runs_law H4.out).mono ?_; rintro e wr ⟨rfl, hr⟩; have HR := Lib.hid hr; clear hr)
          go_ret
          exact HR.out
      · go_wp2_with (go_at_call 16; refine (runs_law H3.out).mono ?_; rintro e wr ⟨rfl, hr⟩; have HR := Lib.hid hr; clear hr)
        go_ret
        exact HR.out
    · go_wp2_with (go_at_call 16; refine (runs_law H2.out).mono ?_; rintro e wr ⟨rfl, hr⟩; have HR := Lib.hid hr; clear hr)
      go_ret
      exact HR.out
  · go_wp2_with (go_at_call 16; refine (runs_law H1.out).mono ?_; rintro e wr ⟨rfl, hr⟩; have HR := Lib.hid hr; clear hr)
    go_ret
    exact HR.out
end Go.Proofs.Ytccplobhfokcgaa
