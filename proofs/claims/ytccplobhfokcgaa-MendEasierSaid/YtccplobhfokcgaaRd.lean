/- The specification's Costs, Check, May, nows and planned. -/
import Derived.Test.YtccplobhfokcgaaLc
namespace Go.Proofs.Ytccplobhfokcgaa
open Go Go.RowKit Go.Shelf
set_option maxRecDepth 100000

set_option maxHeartbeats 2000000 in
theorem costs_calls (m : Wk) (sl cr : Value) (rA : Option Addr) (rc : Nat) (row : List Int) (w : World) (hm : m.Ok) (hrow : RowOk m row)
    (hsl : SlopesAt w w.heap.size sl m.slopes) (hcr : CraftsAt w w.heap.size cr m.crafts) (hr : RowC w w.heap.size rA (row.map (Value.int .i64))) :
    Calls Try.prog 36 #[.agg #[sl, cr, .int .i64 m.years, .int .i64 m.visit, .int .i64 m.hands], .slice rA row.length rc] w fun e w' => e = .returned (.int .i64 (costS m row)) ∧ Below w.heap.size w w' := by
  obtain ⟨A, c, rfl, hl, hss⟩ := hsl
  obtain ⟨CA, cc, rfl, hcl, hcs⟩ := hcr
  have HS := Lib.hid hss
  have HC := Lib.hid hcs
  have HR := Lib.hid hr
  clear hss hcs hr
  go_enter Try.func36, Try.ntmps36
  go_wp2_with fail
  go_loopw [5, 6, 7] (fun n a i wr => ∃ k : Nat, k ≤ row.length ∧ i = .int .i64 (k : Int) ∧ n = .int .i64 (costTo m row k) ∧ a = .bool ((row.take k).any fun x => decide (0 ≤ x)) ∧ Hid (Below w.heap.size w wr) ∧
    Hid (wr.heap[w.heap.size]? = some (.cells #[.slice A m.slopes.length c, .slice CA m.crafts.length cc, .int .i64 m.years, .int .i64 m.visit, .int .i64 m.hands] 25 (0, 0)))) (fun _ _ i _ => row.length - (intOf i).toNat)
  case atStart => exact ⟨0, Nat.zero_le _, rfl, rfl, rfl, Lib.hid (below1 _ _), Lib.hid (heap_alloc_self _ _)⟩
  case round =>
    obtain ⟨k, hk, rfl, rfl, rfl, hbe, hbx⟩ := hrel
    obtain ⟨Wr, rfl⟩ : ∃ Wr, Wr = wr := ⟨_, rfl⟩
    have hbx0 := hbx.out
    obtain ⟨w0, w1, w2, w3, w4⟩ := blk5 hbx0
    clear hbx0
    by_cases hlt : k < row.length
    · obtain ⟨b, o, rfl, hbk, hc⟩ := (HR.out.below hbe.out).at_ k (by simpa using hlt)
      simp only [List.getElem_map] at hc
      have hrl : row.length ≤ 4 := by have := hrow.len; have := hm.few; omega
      have hil : (k : Int) < (row.length : Int) := by omega
      have hi0 : (0 : Int) ≤ (k : Int) := by omega
      have hadd : IntKind.i64.wrap ((k : Int) + 1) = (k : Int) + 1 := IntWalk.i64_in _ (by omega)
      have hany : ((row.take (k + 1)).any fun x => decide (0 ≤ x)) = (((row.take k).any fun x => decide (0 ≤ x)) || decide (0 ≤ row[k])) := by
        rw [List.take_succ_eq_append_getElem hlt, List.any_append]; simp
      have hls : k < m.slopes.length := by have := hrow.len; omega
      have hco := costTo_succ m row k hlt hls
      have HA := Lib.hid hany
      have HCO := Lib.hid hco
      have hek := hrow.each row[k] (List.getElem_mem hlt)
      clear hany hco
      by_cases hp : 0 ≤ row[k]
      · obtain ⟨q, hq⟩ := Int.eq_ofNat_of_zero_le hp
        have hqc : q < m.crafts.length := by omega
        obtain ⟨cb, co, rfl, hcb, hcc⟩ := HC.out (by intro e; rw [e] at hqc; simp at hqc)
        obtain ⟨_, hpc, _⟩ := hcc q _ (List.getElem?_eq_getElem hqc)
        obtain ⟨sb, so, rfl, hsb, hsc⟩ := HS.out (by intro e; rw [e] at hls; simp at hls)
        obtain ⟨_, _, _, _, _, hsz, _⟩ := hsc k _ (List.getElem?_eq_getElem hls)
        have hpr : priceC m.crafts row[k] = m.crafts[q].price := by unfold priceC; rw [if_neg (by omega), hq, Int.toNat_natCast, List.getElem?_eq_getElem hqc]
        have hbd0 := costTo_bd hm row k (by rw [← hrow.len]; omega)
        have hbd1 := costTo_bd hm row (k + 1) (by omega)
        have h1 := HCO.out
        rw [hpr] at h1
        have hmul : IntKind.i64.wrap (m.crafts[q].price * m.slopes[k].size) = m.crafts[q].price * m.slopes[k].size := IntWalk.i64_in _ (by omega)
        have hadd2 : IntKind.i64.wrap (costTo m row k + m.crafts[q].price * m.slopes[k].size) = costTo m row (k + 1) := by rw [← h1]; exact IntWalk.i64_in _ (by omega)
        have h2 : ((row.take (k + 1)).any fun x => decide (0 ≤ x)) = true := by rw [HA.out]; simp [hp]
        have hQ : ∀ w4, Grows Wr w4 → _ := fun w4 hw4 => And.intro (blk5 (blk_below hw4 hbx.out (lt_blk hbx.out))) (And.intro ((hw4.cell (p := ⟨b, o + k, none⟩) (Nat.lt_of_lt_of_le hbk hbe.out.size)).trans hc)
          (And.intro (((hbe.out.trans (hw4.mono hbe.out.size)).cell (p := ⟨cb, co + q * 3 + 1, none⟩) hcb).trans hpc) (((hbe.out.trans (hw4.mono hbe.out.size)).cell (p := ⟨sb, so + k * 5 + 3, none⟩) hsb).trans hsz)))
        have hci : (q : Int) < (m.crafts.length : Int) := by omega
        have hsi : (k : Int) < (m.slopes.length : Int) := by omega
        have hq0 : (0 : Int) ≤ (q : Int) := by omega
        have H2 := Lib.hid h2
        clear h1 h2 hpr hbd0 hbd1 hcc hsc hpc hsz HCO HA
        generalize row[k] = r at *
        subst hq
        generalize m.crafts[q].price = pr at *
        generalize m.slopes[k].size = sz at *
        generalize hT : costTo m row (k + 1) = T1 at *
        generalize costTo m row k = T at *
        generalize ((row.take k).any fun x => decide (0 ≤ x)) = U at *
        have HT := Lib.hid hT
        have HQ := Lib.hid hQ
        clear hT hQ
        go_wp2_with fail
        refine wp_region_rg Grows (fun _ => .fn) (by kernel_rfl) (by kernel_rfl) Grows.refl growsT (fun _ => trivial) ?_
        iterate 19 (refine rg_step fun K hK => ?_; apply rg_fn rfl; (intro w4 hw; obtain ⟨⟨x0, x1, x2, x3, x4⟩, y1, y2, y3⟩ := HQ.out w4 hw.undrew; go_simp; try rfl); go_simp; (try with_reducible refine hK _ _ ?_); try clear hK K)
        refine rg_nil ?_
        intro w5 hw5 _
        replace hw5 := hw5.undrew
        have HB5 := Lib.hid (hbe.out.trans (hw5.mono hbe.out.size))
        have HX5 := Lib.hid (blk_below hw5 hbx.out (lt_blk hbx.out))
        clear hw5 HQ w0 w1 w2 w3 w4 hc
        go_wp2_with fail
        go_round
        case rel => exact ⟨k + 1, by omega, by go_num, by rw [HT.out], by rw [H2.out], HB5, HX5⟩
        case measure => simp [intOf]; omega
      · have hpr : priceC m.crafts row[k] = 0 := by unfold priceC; rw [if_pos (by omega)]
        have h1 : costTo m row (k + 1) = costTo m row k := by rw [HCO.out, hpr]; omega
        have h2 : ((row.take (k + 1)).any fun x => decide (0 ≤ x)) = ((row.take k).any fun x => decide (0 ≤ x)) := by rw [HA.out]; simp [hp]
        have H1 := Lib.hid h1
        have H2 := Lib.hid h2
        clear h1 h2 hpr
        generalize row[k] = r at *
        generalize hT : costTo m row k = T at *
        generalize hU : ((row.take k).any fun x => decide (0 ≤ x)) = U at *
        have hT' := Lib.hid hT
        have hU' := Lib.hid hU
        clear hT hU
        go_wp2_with fail
        exact ⟨⟨k + 1, by omega, by simp, by rw [H1.out], by rw [H2.out], hbe, hbx⟩, by simp [intOf]; omega⟩
    · have hin : k = row.length := by omega
      subst hin
      have hbd := costTo_bd hm row row.length (by rw [hrow.len]; exact Nat.le_refl _)
      have hrl : row.length ≤ 4 := by have := hrow.len; have := hm.few; omega
      have hvi := hm.visit
      have hadd : IntKind.i64.wrap (costTo m row row.length + m.visit) = costTo m row row.length + m.visit := IntWalk.i64_in _ (by omega)
      have hcs : costS m row = costTo m row row.length + if row.any (fun x => decide (0 ≤ x)) then m.visit else 0 := rfl
      have HCS := Lib.hid hcs
      have hnil : ¬ (row.length : Int) < (row.length : Int) := by omega
      clear hcs
      rw [List.take_length]
      generalize row.any (fun x => decide (0 ≤ x)) = U at *
      cases U
      · go_wp2_with fail
        go_ret
        exact ⟨ret_int (by show costTo m row row.length = _; rw [HCS.out]; simp), hbe.out⟩
      · go_wp2_with fail
        go_ret
        exact ⟨ret_int (by show costTo m row row.length + m.visit = _; rw [HCS.out]; simp), hbe.out⟩

theorem chain8 (a b c d e f g h : Prop) : (a ∨ (¬ a ∧ b) ∨ (¬ a ∧ ¬ b ∧ c) ∨ (¬ a ∧ ¬ b ∧ ¬ c ∧ d) ∨ (¬ a ∧ ¬ b ∧ ¬ c ∧ ¬ d ∧ e) ∨ (¬ a ∧ ¬ b ∧ ¬ c ∧ ¬ d ∧ ¬ e ∧ f) ∨ (¬ a ∧ ¬ b ∧ ¬ c ∧ ¬ d ∧ ¬ e ∧ ¬ f ∧ g) ∨ (¬ a ∧ ¬ b ∧ ¬ c ∧ ¬ d ∧ ¬ e ∧ ¬ f ∧ ¬ g ∧ h)) ∨ (¬ a ∧ ¬ b ∧ ¬ c ∧ ¬ d ∧ ¬ e ∧ ¬ f ∧ ¬ g ∧ ¬ h) := by
  by_cases a <;> by_cases b <;> by_cases c <;> by_cases d <;> by_cases e <;> by_cases f <;> by_cases g <;> by_cases h <;> simp [*]
theorem chain6 (a b c d e f : Prop) : (a ∨ (¬ a ∧ b) ∨ (¬ a ∧ ¬ b ∧ c) ∨ (¬ a ∧ ¬ b ∧ ¬ c ∧ d) ∨ (¬ a ∧ ¬ b ∧ ¬ c ∧ ¬ d ∧ e) ∨ (¬ a ∧ ¬ b ∧ ¬ c ∧ ¬ d ∧ ¬ e ∧ f)) ∨ (¬ a ∧ ¬ b ∧ ¬ c ∧ ¬ d ∧ ¬ e ∧ ¬ f) := by
  by_cases a <;> by_cases b <;> by_cases c <;> by_cases d <;> by_cases e <;> by_cases f <;> simp [*]
theorem orL_at : ∀ {l : List Int} {i : Nat} {x : Int}, (∀ j, j < i → ∀ y, l[j]? = some y → y = 0) → l[i]? = some x → x ≠ 0 → orL l = x
  | [], i, x, _, h, _ => by simp at h
  | y :: l, 0, x, _, h, hx => by
    simp at h
    subst h
    simp only [orL]
    rw [if_neg hx]
  | y :: l, i + 1, x, h0, h, hx => by
    simp only [orL]
    rw [if_pos (h0 0 (Nat.succ_pos _) y rfl)]
    exact orL_at (fun j hj z hz => h0 (j + 1) (Nat.succ_lt_succ hj) z (by simpa using hz)) (by simpa using h) hx
theorem orL_zeros : ∀ {l : List Int}, (∀ x ∈ l, x = 0) → orL l = 0
  | [], _ => rfl
  | y :: l, h => by
    simp only [orL]
    rw [if_pos (h y (by simp))]
    exact orL_zeros fun x hx => h x (by simp [hx])
/-- The first slope with an error. -/
theorem check_slope {m : Wk} (h4 : ¬ 4 < m.slopes.length) {i : Nat} {x : Slope} (h0 : ∀ j y, j < i → m.slopes[j]? = some y → slopeE y = 0) (hx : m.slopes[i]? = some x) (he : slopeE x ≠ 0) : checkS m = slopeE x := by
  have h1 : orL (m.slopes.map slopeE) = slopeE x := orL_at (i := i) (fun j hj y hy => by
    rw [List.getElem?_map, Option.map_eq_some_iff] at hy
    obtain ⟨z, hz, rfl⟩ := hy
    exact h0 j z hj hz) (by rw [List.getElem?_map, hx]; rfl) he
  have hl := (List.getElem?_eq_some_iff.1 hx).1
  unfold checkS
  rw [if_neg h4, if_neg (by omega), h1, if_neg he]
theorem check_slopes {m : Wk} (h4 : ¬ 4 < m.slopes.length) (hn : ¬ m.slopes.length = 0) (h0 : ∀ j y, j < m.slopes.length → m.slopes[j]? = some y → slopeE y = 0) :
    checkS m = if 4 < m.crafts.length then 3 else if m.crafts.any craftBad then 1 else if restBad m then 1 else 0 := by
  unfold checkS
  rw [if_neg h4, if_neg hn, if_pos]
  refine orL_zeros fun x hx => ?_
  obtain ⟨s, hs, rfl⟩ := List.mem_map.1 hx
  obtain ⟨j, hj⟩ := List.getElem?_of_mem hs
  exact h0 j s (List.getElem?_eq_some_iff.1 hj).1 hj
theorem slopeE_bad {x : Slope} (h : slopeBad x = true) : slopeE x = 1 := by unfold slopeE; rw [if_pos h]

set_option maxHeartbeats 8000000 in
theorem rcheck_calls (m : Wk) (sl cr : Value) (w : World) (hsl : SlopesAt w w.heap.size sl m.slopes) (hcr : CraftsAt w w.heap.size cr m.crafts) :
    Calls Try.prog 20 #[.agg #[sl, cr, .int .i64 m.years, .int .i64 m.visit, .int .i64 m.hands]] w fun e w' => e = .returned (.int .i64 (checkS m)) ∧ Below w.heap.size w w' := by
  obtain ⟨sA, sc, rfl, hl1, hss⟩ := id hsl
  obtain ⟨cA, cc, rfl, hl2, hcc⟩ := id hcr
  obtain ⟨w0, hw0⟩ : ∃ w0, w0 = w.alloc (.cells #[.slice sA m.slopes.length sc, .slice cA m.crafts.length cc, .int .i64 m.years, .int .i64 m.visit, .int .i64 m.hands] 25) := ⟨_, rfl⟩
  have h0 := LawInv.start hsl hcr
  rw [← hw0] at h0
  have x5 := blk5 h0.box
  rw [hw0] at x5
  obtain ⟨x0, x1, x2, x3, x4⟩ := x5
  have H0 := Lib.hid h0
  have HW0 := Lib.hid hw0
  have HSS := Lib.hid hss
  have HCC := Lib.hid hcc
  clear h0 hw0 hsl hcr hss hcc
  go_enter Try.func20, Try.ntmps20
  by_cases hl4 : (m.slopes.length : Int) > 4
  · have hres : checkS m = 3 := by unfold checkS; rw [if_pos (by omega)]
    have HRES := Lib.hid hres
    clear hres
    go_wp2_with fail
    go_ret
    rw [← HW0.out]
    exact ⟨ret_int HRES.out.symm, H0.out.below⟩
  · by_cases hn0 : (m.slopes.length : Int) = 0
    · have hres : checkS m = 1 := by unfold checkS; rw [if_neg (by omega), if_pos (by omega)]
      have hn1 : ((m.slopes.length : Int) == 0) = true := by simpa using hn0
      have HRES := Lib.hid hres
      clear hres hn0
      go_wp2_with fail
      go_ret
      rw [← HW0.out]
      exact ⟨ret_int HRES.out.symm, H0.out.below⟩
    · have hn1 : ((m.slopes.length : Int) == 0) = false := by simpa using hn0
      have hN : ¬ m.slopes.length = 0 := by omega
      have hL4 : ¬ 4 < m.slopes.length := by omega
      have HN := Lib.hid (And.intro hN hL4)
      clear hn0 hN hL4
      go_wp2_with fail
      rw [← HW0.out]
      go_loopw [3] (fun c wr => ∃ i : Nat, i ≤ m.slopes.length ∧ c = .int .i64 (i : Int) ∧ Hid (∀ j y, j < i → m.slopes[j]? = some y → slopeE y = 0) ∧ Hid (LawInv m w (.slice sA m.slopes.length sc) (.slice cA m.crafts.length cc) w.heap.size wr)) (fun c _ => m.slopes.length - (intOf c).toNat)
      case atStart => exact ⟨0, Nat.zero_le _, rfl, Lib.hid (fun j y h => by omega), H0⟩
      case round =>
        obtain ⟨i, hi, rfl, HZ, HI⟩ := hrel
        obtain ⟨Wr, rfl⟩ : ∃ Wr, Wr = wr := ⟨_, rfl⟩
        clear x0 x1 x2 x3 x4
        obtain ⟨x0, x1, x2, x3, x4⟩ := blk5 HI.out.box
        by_cases hil : i < m.slopes.length
        · have hii : (i : Int) < (m.slopes.length : Int) := by omega
          have hi0 : (0 : Int) ≤ (i : Int) := by omega
          have hiadd : IntKind.i64.wrap ((i : Int) + 1) = (i : Int) + 1 := IntWalk.i64_in _ (by omega)
          have hgi : m.slopes[i]? = some m.slopes[i] := List.getElem?_eq_getElem hil
          obtain ⟨b, o, rfl, hb, hc⟩ := HSS.out (by intro e; rw [e] at hil; simp at hil)
          obtain ⟨t, ht, c0, c1, c2, c3, c4⟩ := hc i _ hgi
          obtain ⟨tA, tc, rfl, _⟩ := id ht
          have hbe := HI.out.below
          have k0 := (hbe.cell (p := ⟨b, o + i * 5, none⟩) hb).trans c0
          have k1 := (hbe.cell (p := ⟨b, o + i * 5 + 1, none⟩) hb).trans c1
          have k2 := (hbe.cell (p := ⟨b, o + i * 5 + 2, none⟩) hb).trans c2
          have k3 := (hbe.cell (p := ⟨b, o + i * 5 + 3, none⟩) hb).trans c3
          have k4 := (hbe.cell (p := ⟨b, o + i * 5 + 4, none⟩) hb).trans c4
          have hch := fun he => check_slope HN.out.2 HZ.out hgi he
          have hnx : slopeE m.slopes[i] = 0 → ∀ j y, j < i + 1 → m.slopes[j]? = some y → slopeE y = 0 := fun he j y hj hy => by
            rcases Nat.lt_or_ge j i with h | h
            · exact HZ.out j y h hy
            · obtain rfl : j = i := by omega
              rw [hgi] at hy
              cases hy
              exact he
          have HCH := Lib.hid hch
          have HNX := Lib.hid hnx
          have HT := Lib.hid ht
          clear c0 c1 c2 c3 c4 hc hbe hgi hch hnx ht
          generalize m.slopes[i] = x at *
          rcases chain8 (x.full < 1) (x.full > 1000) (x.need < 0) (x.need > x.full) (x.now < 0) (x.now > x.full) (x.size < 1) (x.size > 1000) with hb | ⟨h1, h2, h3, h4, h5, h6, h7, h8⟩
          · have hbad : slopeBad x = true := by
              simp only [slopeBad, outB, Bool.or_eq_true, Bool.not_eq_true', Bool.and_eq_false_iff, decide_eq_false_iff_not]
              omega
            have hres : checkS m = 1 := by rw [HCH.out (by rw [slopeE_bad hbad]; decide), slopeE_bad hbad]
            have HRES := Lib.hid hres
            clear hbad hres
            rcases hb with h1 | ⟨h1, h2⟩ | ⟨h1, h2, h3⟩ | ⟨h1, h2, h3, h4⟩ | ⟨h1, h2, h3, h4, h5⟩ | ⟨h1, h2, h3, h4, h5, h6⟩ | ⟨h1, h2, h3, h4, h5, h6, h7⟩ | ⟨h1, h2, h3, h4, h5, h6, h7, h8⟩
            all_goals
              go_wp2_with fail
              go_ret
              exact ⟨ret_int HRES.out.symm, HI.out.below.trans ((below1 Wr _).mono HI.out.below.size)⟩
          · have hgood : slopeBad x = false := by
              simp only [slopeBad, outB, Bool.or_eq_false_iff, Bool.not_eq_false', Bool.and_eq_true, decide_eq_true_eq]
              omega
            by_cases h12 : (x.takes.length : Int) > 12
            · have he : slopeE x = 3 := by unfold slopeE; rw [hgood]; simp; omega
              have hres : checkS m = 3 := by rw [HCH.out (by rw [he]; decide), he]
              have HRES := Lib.hid hres
              clear hgood he hres
              go_wp2_with fail
              go_ret
              exact ⟨ret_int HRES.out.symm, HI.out.below.trans ((below1 Wr _).mono HI.out.below.size)⟩
            · have hE : takesBad x.takes = true → slopeE x = 1 := fun h => by unfold slopeE; rw [hgood, h]; simp; omega
              have hE0 : takesBad x.takes = false → slopeE x = 0 := fun h => by unfold slopeE; rw [hgood, h]; simp; omega
              have HE := Lib.hid (And.intro hE hE0)
              clear hgood hE hE0
              go_wp2_with fail
              obtain ⟨W1, hW1⟩ : ∃ W1, W1 = Wr.alloc (.cells #[.int .i64 x.now, .int .i64 x.need, .int .i64 x.full, .int .i64 x.size, .slice tA x.takes.length tc] 55) := ⟨_, rfl⟩
              have g5 : W1.heap[Wr.heap.size]? = some (.cells #[.int .i64 x.now, .int .i64 x.need, .int .i64 x.full, .int .i64 x.size, .slice tA x.takes.length tc] 55 (0, 0)) := by rw [hW1]; exact heap_alloc_self _ _
              have hb1 : Below Wr.heap.size Wr W1 := by rw [hW1]; exact below1 _ _
              rw [← hW1]
              have HI1 := Lib.hid (HI.out.later hb1)
              obtain ⟨y0, y1, y2, y3, y4⟩ := blk5 g5
              clear hW1 g5 hb1 k0 k1 k2 k3 k4 x0 x1 x2 x3 x4
              go_loop [5] (fun c => ∃ k : Nat, k ≤ x.takes.length ∧ c = .int .i64 (k : Int) ∧ Hid (∀ j t, j < k → x.takes[j]? = some t → outB t 0 500 = false)) (fun c => x.takes.length - (intOf c).toNat)
              case atStart => exact ⟨0, Nat.zero_le _, rfl, Lib.hid (fun j t h => by omega)⟩
              case round =>
                obtain ⟨k, hk, rfl, HK⟩ := hrel
                by_cases hkl : k < x.takes.length
                · have hki : (k : Int) < (x.takes.length : Int) := by omega
                  have hk0 : (0 : Int) ≤ (k : Int) := by omega
                  have hkadd : IntKind.i64.wrap ((k : Int) + 1) = (k : Int) + 1 := IntWalk.i64_in _ (by omega)
                  obtain ⟨tA', tc', e9, hrc⟩ := HT.out.below HI1.out.below
                  cases e9
                  obtain ⟨rb, ro, rfl, hrb, hcell⟩ := hrc.at_ k (by simpa using hkl)
                  simp only [List.getElem_map] at hcell
                  have hgk : x.takes[k]? = some x.takes[k] := List.getElem?_eq_getElem hkl
                  have hbadT : outB x.takes[k] 0 500 = true → takesBad x.takes = true := fun h => by
                    unfold takesBad
                    rw [List.any_eq_true]
                    exact ⟨_, List.mem_of_getElem? hgk, h⟩
                  have hnxT : outB x.takes[k] 0 500 = false → ∀ j t, j < k + 1 → x.takes[j]? = some t → outB t 0 500 = false := fun he j t hj hy => by
                    rcases Nat.lt_or_ge j k with h | h
                    · exact HK.out j t h hy
                    · obtain rfl : j = k := by omega
                      rw [hgk] at hy
                      cases hy
                      exact he
                  have HBT := Lib.hid hbadT
                  have HNT := Lib.hid hnxT
                  clear hrc hgk hbadT hnxT
                  generalize x.takes[k] = q at *
                  by_cases hq1 : q < 0
                  · have hres : checkS m = 1 := by
                      have he := HE.out.1 (HBT.out (by simp [outB]; omega))
                      rw [HCH.out (by rw [he]; decide), he]
                    have HRES := Lib.hid hres
                    clear hres
                    go_wp2_with fail
                    go_ret
                    exact ⟨ret_int HRES.out.symm, HI1.out.below⟩
                  · by_cases hq2 : q > 500
                    · have hres : checkS m = 1 := by
                        have he := HE.out.1 (HBT.out (by simp [outB]; omega))
                        rw [HCH.out (by rw [he]; decide), he]
                      have HRES := Lib.hid hres
                      clear hres
                      go_wp2_with fail
                      go_ret
                      exact ⟨ret_int HRES.out.symm, HI1.out.below⟩
                    · have hnq := HNT.out (outB_false.2 ⟨by omega, by omega⟩)
                      have HNQ := Lib.hid hnq
                      clear hnq
                      go_wp2_with fail
                      go_round
                      case rel => exact ⟨k + 1, by omega, by go_num, HNQ⟩
                      case measure => simp [intOf]; omega
                · have hki : ¬ (k : Int) < (x.takes.length : Int) := by omega
                  have hz : slopeE x = 0 := HE.out.2 (by
                    unfold takesBad
                    rw [List.any_eq_false]
                    intro t ht
                    obtain ⟨j, hj⟩ := List.getElem?_of_mem ht
                    have := HK.out j t (by have := (List.getElem?_eq_some_iff.1 hj).1; omega) hj
                    simp [this])
                  have HNZ := Lib.hid (HNX.out hz)
                  clear hz
                  go_wp2_with fail
                  go_round
                  case rel => exact ⟨i + 1, by omega, by go_num, HNZ, HI1⟩
                  case measure => simp [intOf]; omega
        · have hii : ¬ (i : Int) < (m.slopes.length : Int) := by omega
          have hcs := check_slopes HN.out.2 HN.out.1 (fun j y hj hy => HZ.out j y (by omega) hy)
          have HCS := Lib.hid hcs
          clear hcs
          by_cases hc4 : (m.crafts.length : Int) > 4
          · have hres : checkS m = 3 := by rw [HCS.out, if_pos (by omega)]
            have HRES := Lib.hid hres
            clear hres
            go_wp2_with fail
            go_ret
            exact ⟨ret_int HRES.out.symm, HI.out.below⟩
          · go_wp2_with fail
            go_loopw [6] (fun c wr => ∃ q : Nat, q ≤ m.crafts.length ∧ c = .int .i64 (q : Int) ∧ Hid (∀ j y, j < q → m.crafts[j]? = some y → craftBad y = false) ∧ Hid (LawInv m w (.slice sA m.slopes.length sc) (.slice cA m.crafts.length cc) w.heap.size wr)) (fun c _ => m.crafts.length - (intOf c).toNat)
            case atStart => exact ⟨0, Nat.zero_le _, rfl, Lib.hid (fun j y h => by omega), HI⟩
            case round =>
              obtain ⟨q, hq, rfl, HZ2, HJ⟩ := hrel
              obtain ⟨Wq, rfl⟩ : ∃ Wq, Wq = wr := ⟨_, rfl⟩
              clear x0 x1 x2 x3 x4
              obtain ⟨x0, x1, x2, x3, x4⟩ := blk5 HJ.out.box
              by_cases hql : q < m.crafts.length
              · have hqi : (q : Int) < (m.crafts.length : Int) := by omega
                have hq0 : (0 : Int) ≤ (q : Int) := by omega
                have hqadd : IntKind.i64.wrap ((q : Int) + 1) = (q : Int) + 1 := IntWalk.i64_in _ (by omega)
                have hgq : m.crafts[q]? = some m.crafts[q] := List.getElem?_eq_getElem hql
                obtain ⟨b, o, rfl, hb, hc⟩ := HCC.out (by intro e; rw [e] at hql; simp at hql)
                obtain ⟨c0, c1, c2⟩ := hc q _ hgq
                have hbe := HJ.out.below
                have k0 := (hbe.cell (p := ⟨b, o + q * 3, none⟩) hb).trans c0
                have k1 := (hbe.cell (p := ⟨b, o + q * 3 + 1, none⟩) hb).trans c1
                have k2 := (hbe.cell (p := ⟨b, o + q * 3 + 2, none⟩) hb).trans c2
                have hbadC : craftBad m.crafts[q] = true → checkS m = 1 := fun h => by
                  rw [HCS.out, if_neg (by omega), if_pos]
                  rw [List.any_eq_true]
                  exact ⟨_, List.mem_of_getElem? hgq, h⟩
                have hnxC : craftBad m.crafts[q] = false → ∀ j y, j < q + 1 → m.crafts[j]? = some y → craftBad y = false := fun he j y hj hy => by
                  rcases Nat.lt_or_ge j q with h | h
                  · exact HZ2.out j y h hy
                  · obtain rfl : j = q := by omega
                    rw [hgq] at hy
                    cases hy
                    exact he
                have HBC := Lib.hid hbadC
                have HNC := Lib.hid hnxC
                clear c0 c1 c2 hc hbe hgq hbadC hnxC
                generalize m.crafts[q] = y at *
                rcases chain6 (y.price < 0) (y.price > 10000) (y.add < 0) (y.add > 1000) (y.strip = true ∧ y.add ≠ 0) False with hb | ⟨h1, h2, h3, h4, h5, _⟩
                · have hbad : craftBad y = true := by
                    simp only [craftBad, outB, Bool.or_eq_true, Bool.not_eq_true', Bool.and_eq_true, Bool.and_eq_false_iff, decide_eq_false_iff_not, decide_eq_true_eq]
                    rcases hb with h1 | ⟨h1, h2⟩ | ⟨h1, h2, h3⟩ | ⟨h1, h2, h3, h4⟩ | ⟨h1, h2, h3, h4, h5⟩ | ⟨_, _, _, _, _, h⟩
                    · exact .inl (.inl (.inl (by omega)))
                    · exact .inl (.inl (.inr (by omega)))
                    · exact .inl (.inr (.inl (by omega)))
                    · exact .inl (.inr (.inr (by omega)))
                    · exact .inr h5
                    · exact h.elim
                  have HRES := Lib.hid (HBC.out hbad)
                  clear hbad
                  obtain ⟨ya, yp, ys⟩ := y
                  simp only [] at *
                  rcases hb with h1 | ⟨h1, h2⟩ | ⟨h1, h2, h3⟩ | ⟨h1, h2, h3, h4⟩ | ⟨h1, h2, h3, h4, h5, h6⟩ | ⟨_, _, _, _, _, h⟩
                  case inr.inr.inr.inr.inl =>
                    subst h5
                    have h7 : (ya != 0) = true := by simpa using h6
                    have h8 : (!(ya == 0)) = true := by simpa using h6
                    clear h6
                    go_wp2_with fail
                    go_ret
                    exact ⟨ret_int HRES.out.symm, HJ.out.below.trans ((below1 Wq _).mono HJ.out.below.size)⟩
                  case inr.inr.inr.inr.inr => exact h.elim
                  all_goals
                    go_wp2_with fail
                    go_ret
                    exact ⟨ret_int HRES.out.symm, HJ.out.below.trans ((below1 Wq _).mono HJ.out.below.size)⟩
                · have hgood : craftBad y = false := by
                    simp only [craftBad, outB, Bool.or_eq_false_iff, Bool.not_eq_false', Bool.and_eq_true, Bool.and_eq_false_iff, decide_eq_false_iff_not, decide_eq_true_eq]
                    refine ⟨⟨by omega, by omega⟩, ?_⟩
                    cases hs : y.strip
                    · exact .inl rfl
                    · exact .inr (fun h => h5 ⟨hs, h⟩)
                  have HNY := Lib.hid (HNC.out hgood)
                  clear hgood
                  obtain ⟨W1, hW1⟩ : ∃ W1, W1 = Wq.alloc (.cells #[.int .i64 y.add, .int .i64 y.price, .bool y.strip] 57) := ⟨_, rfl⟩
                  have hb1 : Below Wq.heap.size Wq W1 := by rw [hW1]; exact below1 _ _
                  have HI1 := Lib.hid (HJ.out.later hb1)
                  have HW1 := Lib.hid hW1
                  clear hb1 hW1
                  obtain ⟨ya, yp, ys⟩ := y
                  simp only [] at *
                  cases ys
                  · clear h5
                    go_wp2_with fail
                    rw [← HW1.out]
                    go_round
                    case rel => exact ⟨q + 1, by omega, by go_num, HNY, HI1⟩
                    case measure => simp [intOf]; omega
                  · have h6 : ya = 0 := Decidable.not_not.1 fun h => h5 ⟨rfl, h⟩
                    subst h6
                    clear h5
                    go_wp2_with fail
                    rw [← HW1.out]
                    go_round
                    case rel => exact ⟨q + 1, by omega, by go_num, HNY, HI1⟩
                    case measure => simp [intOf]; omega
              · have hqi : ¬ (q : Int) < (m.crafts.length : Int) := by omega
                have hany : m.crafts.any craftBad = false := by
                  rw [List.any_eq_false]
                  intro y hy
                  obtain ⟨j, hj⟩ := List.getElem?_of_mem hy
                  have := HZ2.out j y (by have := (List.getElem?_eq_some_iff.1 hj).1; omega) hj
                  simp [this]
                have hfin : checkS m = if restBad m then 1 else 0 := by rw [HCS.out, if_neg (by omega), hany]; rfl
                clear hany
                rcases chain6 (m.years < 0) (m.years > 40) (m.visit < 0) (m.visit > 1000000) (m.hands < 0) (m.hands > 4) with hb | ⟨h1, h2, h3, h4, h5, h6⟩
                · have hbad : restBad m = true := by
                    simp only [restBad, outB, Bool.or_eq_true, Bool.not_eq_true', Bool.and_eq_false_iff, decide_eq_false_iff_not]
                    omega
                  rw [hbad, if_pos rfl] at hfin
                  have HRES := Lib.hid hfin
                  clear hbad hfin
                  rcases hb with h1 | ⟨h1, h2⟩ | ⟨h1, h2, h3⟩ | ⟨h1, h2, h3, h4⟩ | ⟨h1, h2, h3, h4, h5⟩ | ⟨h1, h2, h3, h4, h5, h6⟩
                  all_goals
                    go_wp2_with fail
                    go_ret
                    exact ⟨ret_int HRES.out.symm, HJ.out.below⟩
                · have hgood : restBad m = false := by
                    simp only [restBad, outB, Bool.or_eq_false_iff, Bool.not_eq_false', Bool.and_eq_true, decide_eq_true_eq]
                    omega
                  rw [hgood, if_neg (by simp)] at hfin
                  have HRES := Lib.hid hfin
                  clear hgood hfin
                  go_wp2_with fail
                  go_ret
                  exact ⟨ret_int HRES.out.symm, HJ.out.below⟩

/-- What came in and the box lie low: they stay, whatever turns above. -/
theorem LawInv.low {m : Wk} {w : World} {sl cr : Value} {bx : Nat} {W W' : World} (h : LawInv m w sl cr bx W) (hb : Below (bx + 1) W W') (h1 : w.heap.size ≤ bx + 1) (h2 : SlopesAt w w.heap.size sl m.slopes ∧ CraftsAt w w.heap.size cr m.crafts) : LawInv m w sl cr bx W' :=
  ⟨h.below.trans (hb.mono h1), ((h2.1.below h.below).below (hb.mono h1)).mono (Nat.le_trans h.below.size hb.size), ((h2.2.below h.below).below (hb.mono h1)).mono (Nat.le_trans h.below.size hb.size), blk_below hb h.box (by omega)⟩
theorem may_len {m : Wk} {row : List Int} (h : row.length ≠ m.slopes.length) : mayS m row = false := by
  unfold mayS; simp [h]
theorem may_bad {m : Wk} {row : List Int} {i : Nat} {x : Int} (hx : row[i]? = some x) (h : x < -1 ∨ x ≥ (m.crafts.length : Int)) : mayS m row = false := by
  have : row.all (fun n => decide (-1 ≤ n) && decide (n ≤ m.crafts.length - 1)) = false := by
    rw [List.all_eq_false]
    exact ⟨x, List.mem_of_getElem? hx, by simp; omega⟩
  unfold mayS; rw [this]; simp
theorem may_all {m : Wk} {row : List Int} (hl : row.length = m.slopes.length) (h : ∀ j x, j < row.length → row[j]? = some x → -1 ≤ x ∧ x < (m.crafts.length : Int)) : mayS m row = decide ((row.countP (fun n => decide (0 ≤ n)) : Int) ≤ m.hands) := by
  have : row.all (fun n => decide (-1 ≤ n) && decide (n ≤ m.crafts.length - 1)) = true := by
    rw [List.all_eq_true]
    intro x hx
    obtain ⟨j, hj⟩ := List.getElem?_of_mem hx
    have := h j x (List.getElem?_eq_some_iff.1 hj).1 hj
    simp; omega
  unfold mayS; rw [this]; simp [hl]

set_option maxHeartbeats 8000000 in
theorem rmay_calls (m : Wk) (sl cr : Value) (rA : Option Addr) (rc : Nat) (row : List Int) (w : World) (hsl : SlopesAt w w.heap.size sl m.slopes) (hcr : CraftsAt w w.heap.size cr m.crafts) (hr : RowC w w.heap.size rA (row.map (Value.int .i64))) (hm : m.slopes.length ≤ 4) :
    Calls Try.prog 65 #[.agg #[sl, cr, .int .i64 m.years, .int .i64 m.visit, .int .i64 m.hands], .slice rA row.length rc] w fun e w' => e = .returned (.bool (mayS m row)) ∧ Below w.heap.size w w' := by
  obtain ⟨sA, sc, rfl, hl1, _⟩ := id hsl
  obtain ⟨cA, cc, rfl, hl2, _⟩ := id hcr
  obtain ⟨w0, hw0⟩ : ∃ w0, w0 = w.alloc (.cells #[.slice sA m.slopes.length sc, .slice cA m.crafts.length cc, .int .i64 m.years, .int .i64 m.visit, .int .i64 m.hands] 25) := ⟨_, rfl⟩
  have h0 := LawInv.start hsl hcr
  rw [← hw0] at h0
  have x5 := blk5 h0.box
  rw [hw0] at x5
  obtain ⟨x0, x1, x2, x3, x4⟩ := x5
  have hrl := hr.1
  simp only [List.length_map] at hrl
  have H0 := Lib.hid h0
  have HW0 := Lib.hid hw0
  have HR := Lib.hid hr
  clear h0 hw0 hsl hcr hr
  go_enter Try.func65, Try.ntmps65
  by_cases hl : row.length = m.slopes.length
  · have hn1 : ((row.length : Int) != (m.slopes.length : Int)) = false := by simp [hl]
    have hn2 : (!((row.length : Int) == (m.slopes.length : Int))) = false := by simp [hl]
    have hr4 : row.length ≤ 4 := by omega
    have HL := Lib.hid hl
    clear hl
    go_wp2_with fail
    rw [← HW0.out]
    go_loopw [5, 6] (fun n c wr => ∃ i : Nat, i ≤ row.length ∧ c = .int .i64 (i : Int) ∧ n = .int .i64 ((row.take i).countP (fun n => decide (0 ≤ n)) : Nat) ∧ Hid (∀ j x, j < i → row[j]? = some x → -1 ≤ x ∧ x < (m.crafts.length : Int)) ∧ Hid (LawInv m w (.slice sA m.slopes.length sc) (.slice cA m.crafts.length cc) w.heap.size wr)) (fun _ c _ => row.length - (intOf c).toNat)
    case atStart => exact ⟨0, Nat.zero_le _, rfl, rfl, Lib.hid (fun j x h => by omega), H0⟩
    case round =>
      obtain ⟨i, hi, rfl, rfl, HZ, HI⟩ := hrel
      obtain ⟨Wr, rfl⟩ : ∃ Wr, Wr = wr := ⟨_, rfl⟩
      clear x0 x1 x2 x3 x4
      obtain ⟨x0, x1, x2, x3, x4⟩ := blk5 HI.out.box
      have hcp : (row.take i).countP (fun n => decide (0 ≤ n)) ≤ i := Nat.le_trans List.countP_le_length (by simp; omega)
      by_cases hil : i < row.length
      · have hii : (i : Int) < (row.length : Int) := by omega
        have hi0 : (0 : Int) ≤ (i : Int) := by omega
        have hiadd : IntKind.i64.wrap ((i : Int) + 1) = (i : Int) + 1 := IntWalk.i64_in _ (by omega)
        have hgi : row[i]? = some row[i] := List.getElem?_eq_getElem hil
        obtain ⟨b, o, rfl, hb, hc⟩ := (HR.out.below HI.out.below).at_ i (by simpa using hil)
        simp only [List.getElem_map] at hc
        have hts : (row.take (i + 1)).countP (fun n => decide (0 ≤ n)) = (row.take i).countP (fun n => decide (0 ≤ n)) + if 0 ≤ row[i] then 1 else 0 := by
          rw [List.take_succ_eq_append_getElem hil, List.countP_append]
          by_cases h : 0 ≤ row[i] <;> simp [h]
        have hbad := fun h => may_bad (m := m) hgi h
        have hnx : -1 ≤ row[i] ∧ row[i] < (m.crafts.length : Int) → ∀ j x, j < i + 1 → row[j]? = some x → -1 ≤ x ∧ x < (m.crafts.length : Int) := fun he j x hj hx => by
          rcases Nat.lt_or_ge j i with h | h
          · exact HZ.out j x h hx
          · obtain rfl : j = i := by omega
            rw [hgi] at hx
            cases hx
            exact he
        have HTS := Lib.hid hts
        have HBAD := Lib.hid hbad
        have HNX := Lib.hid hnx
        have hbW := Nat.lt_of_lt_of_le hb HI.out.below.size
        clear hts hbad hnx hgi
        generalize row[i] = x at *
        generalize hcc : (row.take i).countP (fun n => decide (0 ≤ n)) = cnt at *
        have hca : IntKind.i64.wrap ((cnt : Int) + 1) = ((cnt + 1 : Nat) : Int) := by rw [IntWalk.i64_in _ (by omega)]; omega
        have hq : ∀ w4, Grows Wr w4 → _ := fun w4 hw4 => And.intro (blk5 (blk_below hw4 HI.out.box (lt_blk HI.out.box))) ((hw4.cell (p := ⟨b, o + i, none⟩) hbW).trans hc)
        have HQ := Lib.hid hq
        clear hq hcc
        by_cases hx1 : x < -1
        · have HF := Lib.hid (HBAD.out (.inl hx1))
          go_wp2_with fail
          refine wp_region_rg Grows (fun _ => .fn) (by kernel_rfl) (by kernel_rfl) Grows.refl growsT (fun _ => trivial) ?_
          iterate 6 (refine rg_step fun K hK => ?_; apply rg_fn rfl; (intro w4 hw; obtain ⟨⟨x0, x1, x2, x3, x4⟩, y1⟩ := HQ.out w4 hw.undrew; go_simp; try rfl); go_simp; (try with_reducible refine hK _ _ ?_); try clear hK K)
          iterate 8 (refine rg_step fun K hK => ?_; apply rg_skip rfl; go_simp; (try with_reducible refine hK _ _ ?_); try clear hK K)
          iterate 1 (refine rg_step fun K hK => ?_; apply rg_fn rfl; (intro w4 hw; go_simp; try rfl); go_simp; (try with_reducible refine hK _ _ ?_); try clear hK K)
          refine rg_nil ?_
          intro w5 hw5 _
          have H5 := Lib.hid (HI.out.later hw5.undrew)
          clear hw5 HQ
          go_wp2_with fail
          go_ret
          exact ⟨by rw [HF.out]; rfl, H5.out.below⟩
        · have hd1 : decide (x < -1) = false := by simp; omega
          by_cases hx2 : x ≥ (m.crafts.length : Int)
          · have HF := Lib.hid (HBAD.out (.inr hx2))
            go_wp2_with fail
            refine wp_region_rg Grows (fun _ => .fn) (by kernel_rfl) (by kernel_rfl) Grows.refl growsT (fun _ => trivial) ?_
            iterate 15 (refine rg_step fun K hK => ?_; apply rg_fn rfl; (intro w4 hw; obtain ⟨⟨x0, x1, x2, x3, x4⟩, y1⟩ := HQ.out w4 hw.undrew; go_simp; try rfl); go_simp; (try with_reducible refine hK _ _ ?_); try clear hK K)
            refine rg_nil ?_
            intro w5 hw5 _
            have H5 := Lib.hid (HI.out.later hw5.undrew)
            clear hw5 HQ
            go_wp2_with fail
            go_ret
            exact ⟨by rw [HF.out]; rfl, H5.out.below⟩
          · have HN := Lib.hid (HNX.out ⟨by omega, by omega⟩)
            have hd2 : decide (x ≥ (m.crafts.length : Int)) = false := by simp; omega
            go_wp2_with fail
            refine wp_region_rg Grows (fun _ => .fn) (by kernel_rfl) (by kernel_rfl) Grows.refl growsT (fun _ => trivial) ?_
            iterate 15 (refine rg_step fun K hK => ?_; apply rg_fn rfl; (intro w4 hw; obtain ⟨⟨x0, x1, x2, x3, x4⟩, y1⟩ := HQ.out w4 hw.undrew; go_simp; try rfl); go_simp; (try with_reducible refine hK _ _ ?_); try clear hK K)
            refine rg_nil ?_
            intro w5 hw5 _
            obtain ⟨_, y1⟩ := HQ.out w5 hw5.undrew
            have H5 := Lib.hid (HI.out.later hw5.undrew)
            clear hw5 HQ x0 x1 x2 x3 x4 hc
            by_cases hx3 : x ≥ 0
            · have hts := HTS.out
              rw [if_pos (show 0 ≤ x by omega)] at hts
              have HTT := Lib.hid hts
              clear hts
              go_wp2_with fail
              go_round
              case rel => exact ⟨i + 1, by omega, by go_num, by rw [HTT.out]; simp, HN, H5⟩
              case measure => simp [intOf]; omega
            · have hts := HTS.out
              rw [if_neg (show ¬ 0 ≤ x by omega)] at hts
              have HTT := Lib.hid hts
              clear hts
              go_wp2_with fail
              go_round
              case rel => exact ⟨i + 1, by omega, by go_num, by rw [HTT.out]; rfl, HN, H5⟩
              case measure => simp [intOf]; omega
      · obtain rfl : i = row.length := by omega
        have hii : ¬ (row.length : Int) < (row.length : Int) := by omega
        have hres := may_all HL.out HZ.out
        rw [List.take_length] at *
        have HRES := Lib.hid hres
        clear hres
        generalize row.countP (fun n => decide (0 ≤ n)) = cnt at *
        go_wp2_with fail
        go_ret
        exact ⟨by rw [HRES.out]; rfl, HI.out.below⟩
  · have hn1 : ((row.length : Int) != (m.slopes.length : Int)) = true := by simp; omega
    have hn2 : (!((row.length : Int) == (m.slopes.length : Int))) = true := by simp; omega
    have HF := Lib.hid (may_len hl)
    go_wp2_with fail
    go_ret
    rw [← HW0.out]
    exact ⟨by rw [HF.out]; rfl, H0.out.below⟩
set_option maxHeartbeats 2000000 in
theorem rnows_calls (m : Wk) (sl cr : Value) (w : World) (hsl : SlopesAt w w.heap.size sl m.slopes) (hcr : CraftsAt w w.heap.size cr m.crafts) (hm : m.slopes.length ≤ 4) :
    Calls Try.prog 46 #[.agg #[sl, cr, .int .i64 m.years, .int .i64 m.visit, .int .i64 m.hands]] w fun e w' => ∃ v', e = .returned v' ∧ w'.ownsRow w.heap.size 3 1 v' (nows m).length ((nows m).map (Value.int .i64)) ∧ Below w.heap.size w w' := by
  obtain ⟨sA, sc, rfl, hl1, hss⟩ := id hsl
  obtain ⟨cA, cc, rfl, hl2, _⟩ := id hcr
  obtain ⟨w0, hw0⟩ : ∃ w0, w0 = w.alloc (.cells #[.slice sA m.slopes.length sc, .slice cA m.crafts.length cc, .int .i64 m.years, .int .i64 m.visit, .int .i64 m.hands] 25) := ⟨_, rfl⟩
  have h0 := LawInv.start hsl hcr
  rw [← hw0] at h0
  have H0 := Lib.hid h0
  have HW0 := Lib.hid hw0
  have HSS := Lib.hid hss
  have z0 : w.heap.size < w0.heap.size := by rw [hw0]; simp
  clear h0 hw0 hsl hcr hss
  go_enter Try.func46, Try.ntmps46
  go_wp2_with fail
  rw [← HW0.out]
  go_loopw [3, 4] (fun l c wr => ∃ k : Nat, k ≤ m.slopes.length ∧ c = .int .i64 (k : Int) ∧ (∃ A n c, l = .slice A n c) ∧ Hid (wr.ownsRow w0.heap.size 3 1 l k (((nows m).take k).map (Value.int .i64))) ∧ Hid (LawInv m w (.slice sA m.slopes.length sc) (.slice cA m.crafts.length cc) w.heap.size wr) ∧ Hid (Below w0.heap.size w0 wr)) (fun _ c _ => m.slopes.length - (intOf c).toNat)
  case atStart => exact ⟨0, Nat.zero_le _, rfl, ⟨none, 0, 0, rfl⟩, Lib.hid ⟨by simp, .inl ⟨rfl, rfl⟩⟩, H0, Lib.hid (Below.refl _ _)⟩
  case round =>
    obtain ⟨k, hk, rfl, ⟨lA, ln, lc, rfl⟩, HO, HI, HB⟩ := hrel
    obtain ⟨Wr, rfl⟩ : ∃ Wr, Wr = wr := ⟨_, rfl⟩
    obtain ⟨x0, x1, x2, x3, x4⟩ := blk5 HI.out.box
    have zr := HB.out.size
    by_cases hlt : k < m.slopes.length
    · have hki : (k : Int) < (m.slopes.length : Int) := by omega
      have hk0 : (0 : Int) ≤ (k : Int) := by omega
      have hkadd : IntKind.i64.wrap ((k : Int) + 1) = (k : Int) + 1 := IntWalk.i64_in _ (by omega)
      obtain ⟨b, o, rfl, hb, hc⟩ := HSS.out (by intro e; rw [e] at hlt; simp at hlt)
      obtain ⟨t, _, c0, _⟩ := hc k _ (List.getElem?_eq_getElem hlt)
      have k0 := (HI.out.below.cell (p := ⟨b, o + k * 5, none⟩) hb).trans c0
      have hts : (nows m).take (k + 1) = (nows m).take k ++ [m.slopes[k].now] := by
        rw [List.take_succ_eq_append_getElem (by simpa [nows] using hlt)]; simp [nows]
      have HT := Lib.hid hts
      clear hc c0 hts
      generalize m.slopes[k].now = nw at *
      have hho := HO.out
      have hhb : w0.heap.size ≤ (Wr.alloc (.cells #[.int .i64 nw] 3)).heap.size := by simp; omega
      have hhc : Wr.alloc (.cells #[.int .i64 nw] 3) = Wr.alloc (.cells #[.int .i64 nw] 3) := rfl
      go_wp2_with (at_builtin; (refine wpList_app2 w0.heap.size _ _ 36 3 (.int .i64 0) 1 8 [.int .i64 nw] (by rfl) (by rfl) Try.underlying36 infoInt rfl (by decide) (by decide) (.slice lA ln lc) k _ (by rfl) Wr.heap.size (by rfl) (heap_alloc_self _ _) rfl (by simp [Value.oneCell']) (own_below hho (below1 _ _) (fun k hk => (own_blk_lt hho k hk).2)) (by omega) hhb ?_); intro v1 w1 hown1 hg _ hb1; obtain ⟨A1, n1, c1, rfl⟩ := own_slice hown1; have HX := Lib.hid (And.intro hown1 hb1); clear hown1 hg hb1)
      obtain ⟨hown1, hb1⟩ := HX.out
      have hbW : Below w0.heap.size Wr w1 := ((below1 Wr (.cells #[.int .i64 nw] 3)).mono zr).trans hb1
      have hI1 : LawInv m w (.slice (some ⟨b, o, none⟩) m.slopes.length sc) (.slice cA m.crafts.length cc) w.heap.size w1 := ⟨HI.out.below.trans (hbW.mono (by omega)), (H0.out.slopes.below (HB.out.trans hbW)).mono (Nat.le_trans zr hbW.size), (H0.out.crafts.below (HB.out.trans hbW)).mono (Nat.le_trans zr hbW.size), blk_below hbW HI.out.box z0⟩
      have HI1 := Lib.hid hI1
      have HB1 := Lib.hid (HB.out.trans hbW)
      have hoo : w1.ownsRow w0.heap.size 3 1 (.slice A1 n1 c1) (k + 1) (((nows m).take (k + 1)).map (Value.int .i64)) := by rw [HT.out]; simpa using hown1
      have HO1 := Lib.hid hoo
      clear hown1 hb1 hbW hI1 hoo HX hho hhb hhc
      go_round
      case rel => exact ⟨k + 1, by omega, by go_num, ⟨_, _, _, rfl⟩, HO1, HI1, HB1⟩
      case measure => simp [intOf]; omega
    · obtain rfl : k = m.slopes.length := by omega
      have hki : ¬ (m.slopes.length : Int) < (m.slopes.length : Int) := by omega
      have hl : (nows m).length = m.slopes.length := by simp [nows]
      have hoo := HO.out
      rw [show (nows m).take m.slopes.length = nows m by rw [← hl, List.take_length]] at hoo
      have HOO := Lib.hid (own_mono hoo (by omega : w.heap.size ≤ w0.heap.size))
      have HL := Lib.hid hl
      clear hoo hl
      go_wp2_with fail
      go_ret
      exact ⟨_, rfl, by rw [HL.out]; exact HOO.out, HI.out.below⟩

def plannedS (m : Wk) (plan : List (List Int)) : Int := if checkS m = 0 then if planOk m plan then 0 else 1 else checkS m
theorem planned_follow (m : Wk) (plan : List (List Int)) : (followS m plan).2.2.2 = plannedS m plan := by
  unfold followS plannedS
  by_cases hc : checkS m = 0
  · rw [if_pos hc, if_pos hc]
    by_cases hp : planOk m plan = true
    · rw [if_pos hp, if_pos hp]
      split <;> rfl
    · rw [if_neg hp, if_neg hp]
  · rw [if_neg hc, if_neg hc]

set_option maxHeartbeats 4000000 in
theorem rplanned_calls (m : Wk) (sl cr pv : Value) (plan : List (List Int)) (w : World) (hsl : SlopesAt w w.heap.size sl m.slopes) (hcr : CraftsAt w w.heap.size cr m.crafts) (hp : RowsAt w w.heap.size pv plan) :
    Calls Try.prog 45 #[.agg #[sl, cr, .int .i64 m.years, .int .i64 m.visit, .int .i64 m.hands], pv] w fun e w' => e = .returned (.int .i64 (plannedS m plan)) ∧ Below w.heap.size w w' := by
  obtain ⟨sA, sc, rfl, hl1, _⟩ := id hsl
  obtain ⟨cA, cc, rfl, hl2, _⟩ := id hcr
  obtain ⟨pA, pc, rfl, hpl, hpr⟩ := id hp
  obtain ⟨w0, hw0⟩ : ∃ w0, w0 = w.alloc (.cells #[.slice sA m.slopes.length sc, .slice cA m.crafts.length cc, .int .i64 m.years, .int .i64 m.visit, .int .i64 m.hands] 25) := ⟨_, rfl⟩
  have h0 := LawInv.start hsl hcr
  rw [← hw0] at h0
  have x5 := blk5 h0.box
  rw [hw0] at x5
  obtain ⟨x0, x1, x2, x3, x4⟩ := x5
  have H0 := Lib.hid h0
  have HW0 := Lib.hid hw0
  have HPR := Lib.hid hpr
  clear h0 hw0 hsl hcr hpr hp
  go_enter Try.func45, Try.ntmps45
  go_wp2_with fail
  rw [← HW0.out]
  refine (rcheck_calls m _ _ w0 H0.out.slopes H0.out.crafts).mono ?_
  rintro e w1 ⟨rfl, hb1⟩
  have H1 := Lib.hid (H0.out.later hb1)
  clear hb1 x0 x1 x2 x3 x4
  obtain ⟨x0, x1, x2, x3, x4⟩ := blk5 H1.out.box
  by_cases hc : checkS m = 0
  · have hm := checkS_ok hc
    have hf := hm.few
    have hyb := hm.years
    have hpd : plannedS m plan = if planOk m plan then 0 else 1 := by unfold plannedS; rw [if_pos hc]
    have HPD := Lib.hid hpd
    rw [hc]
    clear hm hc hpd
    by_cases hlen : (plan.length : Int) = m.years
    · have hn1 : ((plan.length : Int) != m.years) = false := by simp [hlen]
      have hn2 : (!((plan.length : Int) == m.years)) = false := by simp [hlen]
      have hpl1 : (plan.length : Int) ≤ m.years := Int.le_of_eq hlen
      have HLEN := Lib.hid hlen
      clear hlen
      go_wp2_with fail
      go_loopw [6] (fun c wr => ∃ i : Nat, i ≤ plan.length ∧ c = .int .i64 (i : Int) ∧ Hid (∀ j r, j < i → plan[j]? = some r → mayS m r = true) ∧ Hid (LawInv m w (.slice sA m.slopes.length sc) (.slice cA m.crafts.length cc) w.heap.size wr)) (fun c _ => plan.length - (intOf c).toNat)
      case atStart => exact ⟨0, Nat.zero_le _, rfl, Lib.hid (fun j r h => by omega), H1⟩
      case round =>
        obtain ⟨i, hi, rfl, HZ, HI⟩ := hrel
        obtain ⟨Wr, rfl⟩ : ∃ Wr, Wr = wr := ⟨_, rfl⟩
        clear x0 x1 x2 x3 x4
        obtain ⟨x0, x1, x2, x3, x4⟩ := blk5 HI.out.box
        by_cases hil : i < plan.length
        · have hii : (i : Int) < (plan.length : Int) := by omega
          have hi0 : (0 : Int) ≤ (i : Int) := by omega
          have hiadd : IntKind.i64.wrap ((i : Int) + 1) = (i : Int) + 1 := IntWalk.i64_in _ (by omega)
          have hgi : plan[i]? = some plan[i] := List.getElem?_eq_getElem hil
          obtain ⟨pb, po, rfl, hpb, hpc⟩ := HPR.out (by intro e; rw [e] at hil; simp at hil)
          obtain ⟨u, hu, rA, rc, rfl, hur⟩ := hpc i _ hgi
          have hbad : mayS m plan[i] = false → plannedS m plan = 1 := fun h => by
            rw [HPD.out, if_neg]
            unfold planOk
            rw [Bool.and_eq_true, List.all_eq_true]
            rintro ⟨_, h2⟩
            have := h2 _ (List.mem_of_getElem? hgi)
            rw [h] at this
            cases this
          have hnx : mayS m plan[i] = true → ∀ j r, j < i + 1 → plan[j]? = some r → mayS m r = true := fun he j r hj hr => by
            rcases Nat.lt_or_ge j i with h | h
            · exact HZ.out j r h hr
            · obtain rfl : j = i := by omega
              rw [hgi] at hr
              cases hr
              exact he
          have hq : ∀ w4, Grows Wr w4 → _ := fun w4 hw4 => And.intro (blk5 (blk_below hw4 HI.out.box (lt_blk HI.out.box))) (((HI.out.below.trans (hw4.mono HI.out.below.size)).cell (p := ⟨pb, po + i, none⟩) hpb).trans hu)
          have hcall : ∀ w4, Grows Wr w4 → _ := fun w4 hw4 => rmay_calls m (.slice sA m.slopes.length sc) (.slice cA m.crafts.length cc) rA rc plan[i] w4 (HI.out.later hw4).slopes (HI.out.later hw4).crafts ((hur.below (HI.out.below.trans (hw4.mono HI.out.below.size))).mono (Nat.le_trans HI.out.below.size (Below.size hw4))) hf
          have HBAD := Lib.hid hbad
          have HNX := Lib.hid hnx
          have HQ := Lib.hid hq
          have HCALL := Lib.hid hcall
          clear hbad hnx hq hcall hgi hpc hu hur
          generalize plan[i].length = rn at *
          generalize mayS m plan[i] = my at *
          go_wp2_with fail
          refine wp_region_rg Grows (fun | 5 => .ex (.bool my) | _ => .fn) (by kernel_rfl) (by kernel_rfl) Grows.refl growsT (by intro i; split <;> trivial) ?_
          iterate 5 (refine rg_step fun K hK => ?_; apply rg_fn rfl; (intro w4 hw; obtain ⟨⟨x0, x1, x2, x3, x4⟩, y1⟩ := HQ.out w4 hw.undrew; go_simp; try rfl); go_simp; (try with_reducible refine hK _ _ ?_); try clear hK K)
          refine rg_step fun K hK => ?_
          apply rg_call (.inl rfl) rfl
          · intro w4 hw
            go_simp
            exact ⟨rfl, rfl⟩
          · intro w4 hw
            exact HCALL.out w4 hw.undrew
          go_simp
          (try with_reducible refine hK _ _ ?_)
          try clear hK K
          iterate 1 (refine rg_step fun K hK => ?_; apply rg_fn rfl; (intro w4 hw; go_simp; try rfl); go_simp; (try with_reducible refine hK _ _ ?_); try clear hK K)
          refine rg_nil ?_
          intro w5 hw5 _
          have H5 := Lib.hid (HI.out.later hw5.undrew)
          clear hw5 HQ HCALL x0 x1 x2 x3 x4
          cases my
          · have HF := Lib.hid (HBAD.out rfl)
            go_wp2_with fail
            go_ret
            exact ⟨ret_int HF.out.symm, H5.out.below⟩
          · have HN := Lib.hid (HNX.out rfl)
            go_wp2_with fail
            go_round
            case rel => exact ⟨i + 1, by omega, by go_num, HN, H5⟩
            case measure => simp [intOf]; omega
        · have hii : ¬ (i : Int) < (plan.length : Int) := by omega
          have hres : plannedS m plan = 0 := by
            rw [HPD.out, if_pos]
            unfold planOk
            rw [Bool.and_eq_true, decide_eq_true_eq, List.all_eq_true]
            refine ⟨HLEN.out, fun r hr => ?_⟩
            obtain ⟨j, hj⟩ := List.getElem?_of_mem hr
            exact HZ.out j r (by have := (List.getElem?_eq_some_iff.1 hj).1; omega) hj
          have HF := Lib.hid hres
          clear hres
          go_wp2_with fail
          go_ret
          exact ⟨ret_int HF.out.symm, HI.out.below⟩
    · have hn1 : ((plan.length : Int) != m.years) = true := by simpa using hlen
      have hn2 : (!((plan.length : Int) == m.years)) = true := by simpa using hlen
      have hres : plannedS m plan = 1 := by
        rw [HPD.out, if_neg]
        unfold planOk
        simp [hlen]
      have HF := Lib.hid hres
      clear hlen hres
      go_wp2_with fail
      go_ret
      exact ⟨ret_int HF.out.symm, H1.out.below⟩
  · have hn1 : (checkS m != 0) = true := by simpa using hc
    have hn2 : (!(checkS m == 0)) = true := by simpa using hc
    have hres : plannedS m plan = checkS m := by unfold plannedS; rw [if_neg hc]
    have HF := Lib.hid hres
    clear hc hres
    go_wp2_with fail
    go_ret
    exact ⟨ret_int HF.out.symm, H1.out.below⟩
end Go.Proofs.Ytccplobhfokcgaa
