/- Least. -/
import Derived.Test.YtnbnhcoaggpmaaaCh

namespace Go.Proofs.Ytnbnhcoaggpmaaa
open Go Go.RowKit Go.Shelf
set_option maxRecDepth 100000

def fullAt (m : Wk) (i : Nat) : Int := match m.slopes[i]? with
  | some s => s.full
  | none => 0
/-- Is each thickness within its slope's? -/
def fitsTh (m : Wk) (th : List Int) : Bool := (List.range th.length).all fun i => !outB (th.getD i 0) 0 (fullAt m i)
def leastS (m : Wk) (y : Int) (th : List Int) : Int × Bool × Int :=
  if checkS m = 0 then
    if outB y 0 m.years || decide (th.length ≠ m.slopes.length) then (0, false, 1)
    else if fitsTh m th then
      if 2000 < (allS m (stOf y th)).length then (0, false, 3)
      else if 2000000000 ≤ valS m (stOf y th) then (0, false, 0) else (valS m (stOf y th), true, 0)
    else (0, false, 1)
  else (0, false, checkS m)
theorem fits_get {m : Wk} {th : List Int} (h : fitsTh m th = true) (i : Nat) (hi : i < th.length) : 0 ≤ th[i] ∧ th[i] ≤ fullAt m i := by
  unfold fitsTh at h
  rw [List.all_eq_true] at h
  have := h i (by simpa using hi)
  rw [getD_lt hi] at this
  simpa [outB] using this
theorem fits_to {m : Wk} {th : List Int} (h : ∀ i, i < th.length → outB (th.getD i 0) 0 (fullAt m i) = false) : fitsTh m th = true := by
  unfold fitsTh
  rw [List.all_eq_true]
  intro i hi
  rw [h i (by simpa using hi)]; rfl
theorem fits_not {m : Wk} {th : List Int} {i : Nat} (hi : i < th.length) (h : outB (th.getD i 0) 0 (fullAt m i) = true) : fitsTh m th = false := by
  unfold fitsTh
  rw [List.all_eq_false]
  exact ⟨i, by simpa using hi, by rw [h]; simp⟩
theorem stOf_ok {m : Wk} (hm : m.Ok) {y : Int} {th : List Int} (hy : outB y 0 m.years = false) (h : fitsTh m th = true) : (stOf y th).Ok m := by
  have hy2 := outB_false.1 hy
  have hy3 := hm.years
  have key : ∀ i, 0 ≤ th.getD i 0 ∧ th.getD i 0 ≤ 1000 := by
    intro i
    rcases Nat.lt_or_ge i th.length with hi | hi
    · rw [getD_lt hi]
      have h1 := fits_get h i hi
      unfold fullAt at h1
      cases hs : m.slopes[i]? with
      | none => rw [hs] at h1; simp at h1; omega
      | some s =>
        rw [hs] at h1
        have := (hm.slopes s (List.mem_of_getElem? hs)).full
        simp only at h1
        omega
    · rw [List.getD_eq_getElem?_getD, List.getElem?_eq_none hi]; simp
  exact ⟨by show 0 ≤ y ∧ y ≤ 40; omega, key 0, key 1, key 2, key 3⟩

/-- A value of values. -/
def funcV : { S : Value → Prop // ∃ u, S u } := ⟨fun v => ∃ mb xb vb, v = valueV mb xb vb, _, 0, 0, 0, rfl⟩
def EnvSome (m : Wk) (L : List St) (sA cA mA : Option Addr) (sc cn cc mc lo : Nat) (v : Value) (w : World) : Prop :=
  ∃ n0 mb xb vb kb, v = valueV mb xb vb ∧ lo ≤ n0 ∧ n0 ≤ w.heap.size ∧ Env m L n0 mb xb vb kb sA cA mA sc cn cc mc w
theorem EnvSome.grows {m : Wk} {L : List St} {sA cA mA : Option Addr} {sc cn cc mc lo : Nat} {v : Value} {w1 w2 : World} (h : Grows w1 w2) : EnvSome m L sA cA mA sc cn cc mc lo v w1 → EnvSome m L sA cA mA sc cn cc mc lo v w2 :=
  fun ⟨n0, mb, xb, vb, kb, h1, h0, h2, h3⟩ => ⟨n0, mb, xb, vb, kb, h1, h0, Nat.le_trans h2 (Below.size h), h3.below h (h3.lt h2)⟩
def LeastPost (m : Wk) (y : Int) (th : List Int) (w : World) (e : Ending) (w' : World) : Prop :=
  e = .returned (.tuple #[.int .i64 (leastS m y th).1, .bool (leastS m y th).2.1, .int .i64 (leastS m y th).2.2]) ∧ Below w.heap.size w w'

set_option maxHeartbeats 4000000 in
theorem least_calls (m : Wk) (sl cr tv : Value) (y : Int) (th : List Int) (w : World) (hsl : SlopesAt w w.heap.size sl m.slopes) (hcr : CraftsAt w w.heap.size cr m.crafts) (ht : IntsAt w w.heap.size tv th) :
    Calls Try.prog 15 #[.agg #[sl, cr, .int .i64 m.years, .int .i64 m.visit, .int .i64 m.hands], .int .i64 y, tv] w (LeastPost m y th w) := by
  obtain ⟨w0, hw0⟩ : ∃ w0, w0 = w.alloc (.cells #[sl, cr, .int .i64 m.years, .int .i64 m.visit, .int .i64 m.hands] 49) := ⟨_, rfl⟩
  have z0 : w0.heap.size = w.heap.size + 1 := by rw [hw0]; simp
  have b0 : Below w.heap.size w w0 := by rw [hw0]; exact below1 _ _
  have g0 : w0.heap[w.heap.size]? = some (.cells #[sl, cr, .int .i64 m.years, .int .i64 m.visit, .int .i64 m.hands] 49 (0, 0)) := by rw [hw0]; exact heap_alloc_self _ _
  have hchk := check_calls m sl cr w0 ((hsl.below b0).mono (by omega)) ((hcr.below b0).mono (by omega))
  have HW0 := Lib.hid hw0
  have HCHK := Lib.hid hchk
  have HB0 := Lib.hid b0
  have HG := Lib.hid g0
  clear hw0 hchk b0 g0
  by_cases hc : checkS m = 0
  · have hm := checkS_ok hc
    obtain ⟨sA, sc, rfl, _, _⟩ := id hsl
    obtain ⟨cA, cc, rfl, _, _⟩ := id hcr
    obtain ⟨tA, tc, rfl, htl, htr⟩ := id ht
    simp only [List.length_map] at htl
    have HSL := Lib.hid hsl
    have HCR := Lib.hid hcr
    have HTH := Lib.hid ht
    have HCK := Lib.hid hc
    rw [hc] at HCHK
    clear hsl hcr hc ht htr
    go_enter Try.func15, Try.ntmps15
    go_wp2_with fail
    rw [← HW0.out]
    refine HCHK.out.mono ?_
    rintro e w1 ⟨rfl, hb1⟩
    have k0 := blk_below hb1 HG.out (by omega)
    obtain ⟨x0, x1, x2, x3, x4⟩ := blk5 k0
    have z1 := hb1.size
    have HB1 := Lib.hid (HB0.out.trans (hb1.mono (by omega)))
    have K := Lib.hid k0
    have hls : ∀ r, (∀ h : checkS m = 0, leastS m y th = r) → leastS m y th = r := fun r h => h HCK.out
    clear hb1 k0 HCHK HB0 HG HW0 hls
    by_cases hy : outB y 0 m.years = true
    · have hlt : leastS m y th = (0, false, 1) := by unfold leastS; rw [if_pos HCK.out, hy]; rfl
      have HLT := Lib.hid hlt
      clear hlt
      go_wp2_with (go_at_call 50; refine (in_calls' _ _ _ _).mono ?_; rintro e w' ⟨rfl, rfl⟩)
      go_ret3
      exact ⟨by rw [HLT.out]; rfl, HB1.out⟩
    · have hy : outB y 0 m.years = false := by simpa using hy
      by_cases hl : th.length = m.slopes.length
      · have hl1 : (!((th.length : Int) == (m.slopes.length : Int))) = false := by simp [hl]
        have hl2 : ((th.length : Int) != (m.slopes.length : Int)) = false := by simp [hl]
        have hlt : leastS m y th = if fitsTh m th then (if 2000 < (allS m (stOf y th)).length then (0, false, 3) else if 2000000000 ≤ valS m (stOf y th) then (0, false, 0) else (valS m (stOf y th), true, 0)) else (0, false, 1) := by
          unfold leastS; rw [if_pos HCK.out, hy, if_neg (by simp [hl])]
        have HLT := Lib.hid hlt
        have HL := Lib.hid hl
        have HY := Lib.hid hy
        clear hlt hl
        go_wp2_with (go_at_call 50; refine (in_calls' _ _ _ _).mono ?_; rintro e w' ⟨rfl, rfl⟩)
        have hll : th.length ≤ 4 := by rw [HL.out]; exact hm.few
        go_loop [36] (fun i => ∃ k : Nat, k ≤ th.length ∧ i = .int .i64 (k : Int) ∧ Hid (∀ j, j < k → outB (th.getD j 0) 0 (fullAt m j) = false)) (fun i => th.length - (intOf i).toNat)
        case atStart => exact ⟨0, Nat.zero_le _, rfl, Lib.hid (fun j hj => by omega)⟩
        case round =>
          obtain ⟨k, hk, rfl, HJ⟩ := hrel
          by_cases hkl : k < th.length
          · obtain ⟨A0, c0, e0, htr⟩ := HTH.out
            cases e0
            obtain ⟨b, o, rfl, hb, hck⟩ := (htr.below HB1.out).at_ k (by simpa using hkl)
            simp only [List.getElem_map] at hck
            obtain ⟨A1, c1, e1, _, hss⟩ := HSL.out
            cases e1
            have hks : k < m.slopes.length := by rw [← HL.out]; exact hkl
            obtain ⟨bs, os, rfl, hbs, hsc⟩ := hss (by intro e; rw [e] at hks; simp at hks)
            obtain ⟨tk, _, _, _, hs2, _, _⟩ := hsc k _ (List.getElem?_eq_getElem hks)
            have hs2' : w'.cell? ⟨bs, os + k * 5 + 2, none⟩ = some (.int .i64 m.slopes[k].full) := (HB1.out.cell (p := ⟨bs, os + k * 5 + 2, none⟩) hbs).trans hs2
            have hfa : fullAt m k = m.slopes[k].full := by unfold fullAt; rw [List.getElem?_eq_getElem hks]
            have hgd : th.getD k 0 = th[k] := getD_lt hkl 0
            have hil : (k : Int) < (th.length : Int) := by omega
            have hils : (k : Int) < (m.slopes.length : Int) := by omega
            have hi0 : (0 : Int) ≤ (k : Int) := by omega
            have hadd : IntKind.i64.wrap ((k : Int) + 1) = (k : Int) + 1 := IntWalk.i64_in _ (by omega)
            have HFA := Lib.hid (And.intro hfa hgd)
            clear htr hss hsc hs2 hfa hgd
            generalize hfe : m.slopes[k].full = f at *
            generalize hte : th[k] = t at *
            have HTE := Lib.hid hte
            have HFE := Lib.hid hfe
            clear hte hfe
            by_cases ho : outB t 0 f = true
            · have hbad : fitsTh m th = false := fits_not hkl (by rw [HFA.out.1, HFA.out.2]; exact ho)
              have hlt : leastS m y th = (0, false, 1) := by rw [HLT.out, hbad]; rfl
              have HLT2 := Lib.hid hlt
              clear hlt hbad
              go_wp2_with (go_at_call 50; refine (in_calls' _ _ _ _).mono ?_; rintro e w' ⟨rfl, rfl⟩)
              go_ret3
              exact ⟨by rw [HLT2.out]; rfl, HB1.out⟩
            · have ho : outB t 0 f = false := by simpa using ho
              have hnx : ∀ j, j < k + 1 → outB (th.getD j 0) 0 (fullAt m j) = false := fun j hj => by
                rcases Nat.lt_or_ge j k with h | h
                · exact HJ.out j h
                · obtain rfl : j = k := by omega
                  rw [HFA.out.1, HFA.out.2]; exact ho
              have HNX := Lib.hid hnx
              clear hnx
              go_wp2_with (go_at_call 50; refine (in_calls' _ _ _ _).mono ?_; rintro e w' ⟨rfl, rfl⟩)
              go_round
              case rel => exact ⟨k + 1, by omega, by go_num, HNX⟩
              case measure => simp [intOf]; omega
          · have hfit : fitsTh m th = true := fits_to (fun i hi => HJ.out i (by omega))
            have hlt : leastS m y th = if 2000 < (allS m (stOf y th)).length then (0, false, 3) else if 2000000000 ≤ valS m (stOf y th) then (0, false, 0) else (valS m (stOf y th), true, 0) := by rw [HLT.out, hfit]; rfl
            have HLT2 := Lib.hid hlt
            have hso := stOf_ok hm HY.out hfit
            have hil : ¬ (k : Int) < (th.length : Int) := by omega
            clear hlt HLT hfit hl1 hl2 hy
            go_wp2_with fail
            refine (modelOf_calls m.crafts sA m.slopes.length sc (.slice cA m.crafts.length cc) m.years m.visit m.hands w' hm.crafts ((HCR.out.below HB1.out).mono (by omega))).mono ?_
            rintro e w2 ⟨mc, rfl, hmc2, hb2⟩
            obtain ⟨mA, mcap, rfl, _⟩ := id hmc2
            clear x0 x1 x2 x3 x4
            go_wp2_with fail
            obtain ⟨w3, hw3⟩ : ∃ w3, w3 = w2.alloc (.cells #[.slice sA m.slopes.length sc, .slice cA m.crafts.length cc, .int .i64 m.years, .int .i64 m.visit, .int .i64 m.hands, .slice mA m.crafts.length mcap] 75) := ⟨_, rfl⟩
            rw [← hw3]
            have hb3 : Below w2.heap.size w2 w3 := by rw [hw3]; exact below1 _ _
            have m3 : w3.heap[w2.heap.size]? = some (.cells #[.slice sA m.slopes.length sc, .slice cA m.crafts.length cc, .int .i64 m.years, .int .i64 m.visit, .int .i64 m.hands, .slice mA m.crafts.length mcap] 75 (0, 0)) := by rw [hw3]; exact heap_alloc_self _ _
            have z2 := hb2.size
            have z3 : w3.heap.size = w2.heap.size + 1 := by rw [hw3]; simp
            have hb13 := hb2.trans (hb3.mono hb2.size)
            have HB3 := Lib.hid (HB1.out.trans (hb13.mono (by omega)))
            refine (begin_calls y (.slice tA th.length tc) th w3 w.heap.size (by omega) (HTH.out.below HB3.out) hll).mono ?_
            rintro e w4 ⟨rfl, hb4⟩
            have z4 := hb4.size
            obtain ⟨w5, hw5⟩ : ∃ w5, w5 = w4.alloc (.cells #[.int .i64 (stOf y th).y, .int .i64 (stOf y th).a, .int .i64 (stOf y th).b, .int .i64 (stOf y th).c, .int .i64 (stOf y th).d] 79) := ⟨_, rfl⟩
            have hb5 : Below w4.heap.size w4 w5 := by rw [hw5]; exact below1 _ _
            have s5 : w5.heap[w4.heap.size]? = some (.cells #[.int .i64 (stOf y th).y, .int .i64 (stOf y th).a, .int .i64 (stOf y th).b, .int .i64 (stOf y th).c, .int .i64 (stOf y th).d] 79 (0, 0)) := by rw [hw5]; exact heap_alloc_self _ _
            have z5 : w5.heap.size = w4.heap.size + 1 := by rw [hw5]; simp
            have hb35 := hb4.trans (hb5.mono hb4.size)
            have m5 := blk_below hb35 m3 (by omega)
            have HB5 := Lib.hid (HB3.out.trans (hb35.mono (by omega)))
            have MC5 := Lib.hid (((hmc2.below hb3).below (hb35.mono (by omega))).mono (show w2.heap.size ≤ w5.heap.size by omega))
            have hst := states_calls m hm (stOf y th) hso (by show y ≤ m.years; exact (outB_false.1 HY.out).2) sA cA mA sc m.crafts.length cc mcap w5 ((HSL.out.below HB5.out).mono (by omega)) MC5.out
            have M5 := Lib.hid m5
            have S5 := Lib.hid s5
            have HST := Lib.hid hst
            have HW5 := Lib.hid hw5
            clear hb2 hb3 hb13 hb4 hb5 hb35 hw3 hw5 m5 s5 hst m3 hmc2 K HB1 HB3
            have y0 := blk6 M5.out
            have y1 := blk5 S5.out
            rw [HW5.out] at y0 y1
            obtain ⟨m0, m1, m2, m3, m4, m5⟩ := y0
            obtain ⟨s0, s1, s2, s3, s4⟩ := y1
            go_wp2_with fail
            rw [← HW5.out]
            refine HST.out.mono ?_
            rintro e w6 ⟨hb6, hpost⟩
            have z6 := hb6.size
            have HB6 := Lib.hid (HB5.out.trans (hb6.mono (by omega)))
            have m6 := blk_below hb6 M5.out (lt_blk M5.out)
            have s6 := blk_below hb6 S5.out (lt_blk S5.out)
            have MC6 := Lib.hid ((MC5.out.below hb6).mono hb6.size)
            clear m0 m1 m2 m3 m4 m5 s0 s1 s2 s3 s4 HST MC5 M5 S5 HW5
            rcases hpost with ⟨hmany, rfl⟩ | ⟨hfew, lv, L, rfl, hperm, _⟩
            · have hlt : leastS m y th = (0, false, 3) := by rw [HLT2.out, if_pos hmany]
              have HLT3 := Lib.hid hlt
              clear hlt hmany
              go_wp2_with fail
              go_ret3
              exact ⟨by rw [HLT3.out]; rfl, HB6.out⟩
            · have hlen : L.length ≤ 2000 := by rw [hperm.length_eq]; exact hfew
              have hT := allS_shut hm hso (show (stOf y th).y ≤ m.years from (outB_false.1 HY.out).2) hperm hlen
              have hfT : stOf y th ∈ L := hperm.mem_iff.2 (allS_self _ _)
              have hlt : leastS m y th = if 2000000000 ≤ valS m (stOf y th) then (0, false, 0) else (valS m (stOf y th), true, 0) := by rw [HLT2.out, if_neg (by omega)]
              have HLT3 := Lib.hid hlt
              have HT := Lib.hid hT
              have hq : ∀ w4, Grows w6 w4 → _ := fun w4 hw4 => And.intro (blk6 (blk_below hw4 m6 (lt_blk m6))) (blk5 (blk_below hw4 s6 (lt_blk s6)))
              have HQ := Lib.hid hq
              clear hq hlt hT hperm hfew hlen m6 s6
              go_wp2_with fail
              refine wp_region_rg_tail 3 Grows (fun | 1 => .any funcV (fun _ v w4 => EnvSome m L sA cA mA sc m.crafts.length cc mcap w6.heap.size v w4) | _ => .fn) (by kernel_rfl) (by kernel_rfl) Grows.refl growsT
                (by intro i; split <;> first | trivial | exact (fun l v w1 w2 h => EnvSome.grows h)) ?_
              iterate 1 (refine rg_step fun K hK => ?_; apply rg_fn rfl; (intro w4 hw; obtain ⟨⟨m0, m1, m2, m3, m4, m5⟩, ⟨s0, s1, s2, s3, s4⟩⟩ := HQ.out w4 hw.undrew; go_simp; try rfl); go_simp; (try with_reducible refine hK _ _ ?_); try clear hK K)
              refine rg_step fun K hK => ?_
              apply rg_call_any (.inl rfl) rfl
              · intro w4 hw
                go_simp
                exact ⟨rfl, rfl⟩
              · intro w4 hw
                refine (values_calls m L sA cA mA sc m.crafts.length cc mcap w4 (((HSL.out.below HB6.out).below (hw.undrew.mono (by omega))).mono (by have := hw.undrew.size; omega)) ((MC6.out.below hw.undrew).mono hw.undrew.size)).mono ?_
                rintro e w7 ⟨mb, xb, vb, kb, he, henv, hb7⟩
                exact ⟨_, he, hb7, ⟨mb, xb, vb, rfl⟩, ⟨_, mb, xb, vb, kb, rfl, hw.undrew.size, hb7.size, henv⟩⟩
              rintro v9 ⟨mb, xb, vb, rfl⟩
              unfold valueV
              go_simp
              (try with_reducible refine hK _ _ ?_)
              try clear hK K
              iterate 1 (refine rg_step fun K hK => ?_; apply rg_fn rfl; (intro w4 hw; obtain ⟨⟨m0, m1, m2, m3, m4, m5⟩, ⟨s0, s1, s2, s3, s4⟩⟩ := HQ.out w4 hw.undrew; go_simp; try rfl); go_simp; (try with_reducible refine hK _ _ ?_); try clear hK K)
              refine rg_nil ?_
              intro w8 hw8 hes
              obtain ⟨n0, mb', xb', vb', kb, he, hn1, hn0, henv⟩ := hes
              have he2 : mb' = mb ∧ xb' = xb ∧ vb' = vb := by
                simp [valueV] at he
                exact ⟨he.1.symm, he.2.1.symm, he.2.2.symm⟩
              obtain ⟨rfl, rfl, rfl⟩ := he2
              simp only [List.drop_succ_cons, List.drop_zero]
              have hk0 := henv.at0
              have HB8 := Lib.hid (HB6.out.trans (hw8.undrew.mono (by omega)))
              have hz8 := hw8.undrew.size
              have hcall := value_in m hm L HT.out n0 mb' xb' vb' kb sA cA mA sc m.crafts.length cc mcap _ (stOf y th) w8 rfl hfT hn0 henv
              have HCALL := Lib.hid hcall
              clear hcall henv hw8 HQ he
              go_wp2_with fail
              refine HCALL.out.mono ?_
              rintro e w9 ⟨rfl, hl9⟩
              have HB9 := Lib.hid (HB8.out.trans (hl9.1.below (n := w.heap.size) (by omega) (fun k e => by omega)))
              clear hl9 HCALL
              by_cases hv : 2000000000 ≤ valS m (stOf y th)
              · have hlt : leastS m y th = (0, false, 0) := by rw [HLT3.out, if_pos hv]
                have HLT4 := Lib.hid hlt
                clear hlt
                go_wp2_with fail
                go_ret3
                exact ⟨by rw [HLT4.out]; rfl, HB9.out⟩
              · have hlt : leastS m y th = (valS m (stOf y th), true, 0) := by rw [HLT3.out, if_neg hv]
                have HLT4 := Lib.hid hlt
                clear hlt
                go_wp2_with fail
                go_ret3
                exact ⟨by rw [HLT4.out]; rfl, HB9.out⟩
      · have hl1 : (!((th.length : Int) == (m.slopes.length : Int))) = true := by simp; omega
        have hl2 : ((th.length : Int) != (m.slopes.length : Int)) = true := by simp; omega
        have hlt : leastS m y th = (0, false, 1) := by unfold leastS; rw [if_pos HCK.out, if_pos (by simp [hl])]
        have HLT := Lib.hid hlt
        clear hlt
        go_wp2_with (go_at_call 50; refine (in_calls' _ _ _ _).mono ?_; rintro e w' ⟨rfl, rfl⟩)
        go_ret3
        exact ⟨by rw [HLT.out]; rfl, HB1.out⟩
  · have hne : (checkS m != 0) = true := by simpa using hc
    have hne2 : (!(checkS m == 0)) = true := by simpa using hc
    have hlt : leastS m y th = (0, false, checkS m) := by unfold leastS; rw [if_neg hc]
    have HLT := Lib.hid hlt
    clear hlt hc
    go_enter Try.func15, Try.ntmps15
    go_wp2_with fail
    rw [← HW0.out]
    refine HCHK.out.mono ?_
    rintro e w1 ⟨rfl, hb1⟩
    have HB1 := Lib.hid (HB0.out.trans (hb1.mono (by omega)))
    clear hb1
    go_wp2_with fail
    go_ret3
    exact ⟨by rw [HLT.out]; rfl, HB1.out⟩
end Go.Proofs.Ytnbnhcoaggpmaaa
