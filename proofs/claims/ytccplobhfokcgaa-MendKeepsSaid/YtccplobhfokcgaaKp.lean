/- MendKeeps: the walk. -/
import Derived.Test.YtccplobhfokcgaaLc
import Derived.Test.YtccplobhfokcgaaPn
namespace Go.Proofs.Ytccplobhfokcgaa
open Go Go.RowKit Go.Shelf
set_option maxRecDepth 100000

/-- A slice of bytes. -/
def BytesAt (w : World) (n0 : Nat) (v : Value) (bs : List Int) : Prop := ∃ A c, v = .slice A bs.length c ∧ RowC w n0 A (bs.map (Value.int .u8)) ∧ ∀ b ∈ bs, 0 ≤ b ∧ b ≤ 255
/-- What a year takes of a slope, as stated. -/
def tkS (s : Slope) (y : Int) : Int := if s.takes.length = 0 then 0 else takeOf s y
def ReallyPost (s : Slope) (y : Int) (w : World) (e : Ending) (w' : World) : Prop := (∃ r, e = .returned (.int .i64 r) ∧ 0 ≤ r ∧ r ≤ tkS s y) ∧ Below w.heap.size w w'

set_option maxHeartbeats 4000000 in
theorem really_calls (n0 : Nat) (s : Slope) (tA : Option Addr) (tc : Nat) (y : Int) (bA : Option Addr) (bc : Nat) (bs : List Int) (k : Nat) (w : World) (ht : RowC w n0 tA (s.takes.map (Value.int .i64))) (hb : RowC w n0 bA (bs.map (Value.int .u8))) (hbb : ∀ b ∈ bs, 0 ≤ b ∧ b ≤ 255) (hn : n0 ≤ w.heap.size) (hl : s.takes.length ≤ 12) (htk : ∀ t ∈ s.takes, 0 ≤ t ∧ t ≤ 500) (hy : 0 ≤ y ∧ y ≤ 40) (hk : k ≤ 1000) :
    Calls Try.prog 34 #[.agg #[.int .i64 s.now, .int .i64 s.need, .int .i64 s.full, .int .i64 s.size, .slice tA s.takes.length tc], .int .i64 y, .slice bA bs.length bc, .int .i64 (k : Int)] w (ReallyPost s y w) := by
  by_cases h0 : s.takes.length = 0
  · have hz : tkS s y = 0 := by unfold tkS; rw [if_pos h0]
    unfold ReallyPost
    rw [hz, h0]
    go_enter Try.func34, Try.ntmps34
    go_wp2
    go_ret
    exact ⟨⟨0, rfl, by omega, by omega⟩, below1 _ _⟩
  · have hz : tkS s y = takeOf s y := by unfold tkS; rw [if_neg h0]
    unfold ReallyPost
    rw [hz]
    go_enter Try.func34, Try.ntmps34
    have h0i : ¬ (s.takes.length : Int) = 0 := by omega
    obtain ⟨yn, rfl⟩ : ∃ yn : Nat, y = (yn : Int) := ⟨y.toNat, by omega⟩
    have hlt : yn % s.takes.length < s.takes.length := Nat.mod_lt _ (by omega)
    have hmj : (yn : Int).tmod (s.takes.length : Int) = ((yn % s.takes.length : Nat) : Int) := by rw [Int.tmod_eq_emod_of_nonneg (by omega)]; simp
    obtain ⟨b, o, rfl, hbk, hc⟩ := ht.at_ (yn % s.takes.length) (by simpa using hlt)
    simp only [List.getElem_map] at hc
    have hv : takeOf s (yn : Int) = s.takes[yn % s.takes.length] := by simp [takeOf, List.getD_eq_getElem?_getD, List.getElem?_eq_getElem hlt]
    have hvb := htk _ (List.getElem_mem hlt)
    rw [← hv] at hvb hc
    have hji : ((yn % s.takes.length : Nat) : Int) < (s.takes.length : Int) := by omega
    have hj0 : (0 : Int) ≤ ((yn % s.takes.length : Nat) : Int) := by omega
    clear hv
    generalize takeOf s (yn : Int) = tv at *
    generalize yn % s.takes.length = j at *
    have hwr : IntKind.i64.wrap ((yn : Int).tmod (s.takes.length : Int)) = (j : Int) := by rw [hmj]; exact IntWalk.i64_in _ (by omega)
    have hb1 : b < w.heap.size := by omega
    obtain ⟨W1, hW1⟩ : ∃ W1, W1 = w.alloc (.cells #[.int .i64 s.now, .int .i64 s.need, .int .i64 s.full, .int .i64 s.size, .slice (some ⟨b, o, none⟩) s.takes.length tc] 55) := ⟨_, rfl⟩
    have hB1 : Below w.heap.size w W1 := by rw [hW1]; exact below1 _ _
    have g1 : W1.heap[w.heap.size]? = some (.cells #[.int .i64 s.now, .int .i64 s.need, .int .i64 s.full, .int .i64 s.size, .slice (some ⟨b, o, none⟩) s.takes.length tc] 55 (0, 0)) := by rw [hW1]; exact heap_alloc_self _ _
    have c1 : W1.cell? ⟨w.heap.size, 4, none⟩ = some (.slice (some ⟨b, o, none⟩) s.takes.length tc) := by rw [cell_blk g1]; rfl
    have d1 : W1.cell? ⟨b, o + j, none⟩ = some (.int .i64 tv) := (below_cells hB1 _ _ hb1).trans hc
    have z1 : w.heap.size < W1.heap.size := lt_blk g1
    have hb2 : b < W1.heap.size := by omega
    go_wp2_with fail
    rw [← hW1]
    have HB1 := Lib.hid hB1
    clear hW1 hB1 g1 hc
    refine wp_region_rg (Below W1.heap.size) (fun _ => .fn) (by kernel_rfl) (by kernel_rfl) (Below.refl _) belowR (fun _ => trivial) ?_
    iterate 10 (refine rg_step fun K hK => ?_; apply rg_fn rfl; (intro w4 hw; have hc := below_cells (undrew hw); go_simp; try rfl); go_simp; (try with_reducible refine hK _ _ ?_); try clear hK K)
    refine rg_nil ?_
    intro w6 hw6 _
    have hb6 := HB1.out.trans ((undrew hw6).mono (by omega))
    have HB6 := Lib.hid hb6
    have HBB := Lib.hid hbb
    have hbr := hb.below (hb6.mono hn)
    clear hw6 hb6 c1 d1
    by_cases hkl : (k : Int) ≥ (bs.length : Int)
    · go_wp2_with fail
      go_ret
      exact ⟨⟨tv, rfl, hvb.1, Int.le_refl _⟩, HB6.out⟩
    · have hkn : k < bs.length := by omega
      have hki : (k : Int) < (bs.length : Int) := by omega
      have hk0 : (0 : Int) ≤ (k : Int) := by omega
      obtain ⟨qb, qo, rfl, hqb, hqc⟩ := hbr.at_ k (by simpa using hkn)
      simp only [List.getElem_map] at hqc
      have hqv := hbb _ (List.getElem_mem hkn)
      generalize bs[k] = q at *
      have hconv : IntKind.i64.wrap q = q := IntWalk.i64_in _ (by omega)
      have hm0 : 0 ≤ tv * q := Int.mul_nonneg hvb.1 hqv.1
      have hm1 : tv * q ≤ tv * 255 := Int.mul_le_mul_of_nonneg_left hqv.2 hvb.1
      have hmul : IntKind.i64.wrap (tv * q) = tv * q := IntWalk.i64_in _ (by omega)
      have hr1 : (tv * q).tdiv 255 ≤ tv := by
        rw [Int.tdiv_eq_ediv_of_nonneg hm0]
        have := Int.ediv_le_of_le_mul (c := 255) (by omega) hm1
        exact this
      have hr0 : 0 ≤ (tv * q).tdiv 255 := Int.tdiv_nonneg hm0 (by omega)
      generalize hrr : (tv * q).tdiv 255 = r at *
      have hquo : IntKind.i64.wrap ((tv * q).tdiv 255) = r := by rw [hrr]; exact IntWalk.i64_in _ (by omega)
      clear hrr
      go_wp2_with fail
      go_ret
      exact ⟨⟨r, rfl, hr0, hr1⟩, HB6.out⟩
/-! ### The law -/
theorem cheapS_none {m : Wk} (h : ¬ ((cheapS m).2.2.2 = 0 ∧ (cheapS m).2.2.1 = true)) : (cheapS m).1 = [] ∧ (cheapS m).2.1 = 0 := by
  unfold cheapS at h ⊢
  by_cases hc : checkS m = 0
  · rw [if_pos hc] at h ⊢
    by_cases hl : 2000 < (allS m (firstS m)).length
    · rw [if_pos hl]; exact ⟨rfl, rfl⟩
    · rw [if_neg hl] at h ⊢
      by_cases hv : 2000000000 ≤ valS m (firstS m)
      · rw [if_pos hv]; exact ⟨rfl, rfl⟩
      · rw [if_neg hv] at h
        exact absurd ⟨rfl, rfl⟩ h
  · rw [if_neg hc]; exact ⟨rfl, rfl⟩
/-- What MendKeeps needs of the cheapest plan. -/
structure KeepFacts (m : Wk) (P : List (List Int)) (V : Int) : Prop where
  ok : m.Ok
  len : (P.length : Int) = m.years
  val : 0 ≤ V ∧ V ≤ 2000000000
  row : ∀ y : Nat, (y : Int) < m.years → P[y]? = some (pkS m y) ∧ RowOk m (pkS m y) ∧ mayS m (pkS m y) = true
  sum : ∀ y : Nat, (y : Int) < m.years → costPl m P (y + 1) = costPl m P y + costS m (pkS m y)
  bd : ∀ y : Nat, (y : Int) ≤ m.years → 0 ≤ costPl m P y ∧ costPl m P y ≤ y * 41000000
  fin : ∀ y : Nat, (y : Int) = m.years → costPl m P y = V
  step : ∀ (y i : Nat) (x : Slope), (y : Int) < m.years → m.slopes[i]? = some x → ∀ t r : Int, (chS m y).get i ≤ t → t ≤ x.full → 0 ≤ r → r ≤ tkS x y →
    (chS m (y + 1)).get i ≤ max (mendC m.crafts ((pkS m y).getD i (-1)) t x.full - r) 0 ∧ max (mendC m.crafts ((pkS m y).getD i (-1)) t x.full - r) 0 ≤ x.full ∧ x.need ≤ max (mendC m.crafts ((pkS m y).getD i (-1)) t x.full - r) 0
  start : ∀ (i : Nat) (x : Slope), m.slopes[i]? = some x → (chS m 0).get i = x.now ∧ x.now ≤ x.full
  low : ∀ (y i : Nat), (y : Int) ≤ m.years → i < 4 → 0 ≤ (chS m y).get i
theorem keepFacts {m : Wk} (hc : checkS m = 0) (hv : valS m (firstS m) < 2000000000) : KeepFacts m (planS m) (valS m (firstS m)) := by
  have hm := checkS_ok hc
  have hl := planS_length (m := m) hm.years.1
  have hpo := planOk_planS hm hv
  have hyb := hm.years
  have hfew := hm.few
  have hfit : ∀ y : Nat, (y : Int) ≤ m.years → StFit m (chS m y) := fun y hy => reach_fit hm (firstS_fit hm) (allS_mem.1 (chS_ok hm hv y hy).all)
  refine ⟨hm, hl, valS_bd hm _, fun y hy => ?_, fun y hy => ?_, fun y hy => costPl_bd hm hpo y (by omega), fun y hy => ?_, fun y i x hy hx t r ht htf hr0 hr => ?_, fun i x hx => ?_, fun y i hy hi => ?_⟩
  · have hp := (chS_pick (chS_ok hm hv y (by omega)) hy).2.1
    exact ⟨planS_get hy, (rowsS_mem hp).1, (rowsS_mem hp).2⟩
  · have hlt : y < (planS m).length := by omega
    rw [costPl_succ m hlt, planS_at hlt hy]
  · have h1 := costPl_planS hm hv y (by omega)
    have h2 := (chS_ok hm hv y (by omega)).y
    rw [valS_end (by rw [h2]; omega)] at h1
    omega
  · have hil := (List.getElem?_eq_some_iff.1 hx).1
    have hxm := List.mem_of_getElem? hx
    obtain ⟨_, _, hk, _, hn⟩ := chS_pick (chS_ok hm hv y (by omega)) hy
    have hy2 := (chS_ok hm hv y (by omega)).y
    have hf := hfit y (by omega) i (by omega)
    rw [hx] at hf
    have hmono := mendC_mono m.crafts ((pkS m y).getD i (-1)) x.full ht
    have hmf := mendC_fit hm.craft ((pkS m y).getD i (-1)) t x.full ⟨by omega, htf⟩
    have hm0 := mendC_fit hm.craft ((pkS m y).getD i (-1)) ((chS m y).get i) x.full hf
    have hlf : leftS m.crafts x (y : Int) ((pkS m y).getD i (-1)) ((chS m y).get i) = max 0 (mendC m.crafts ((pkS m y).getD i (-1)) ((chS m y).get i) x.full - tkS x y) := by
      unfold leftS tkS
      split
      · omega
      · rfl
    have hg : (chS m (y + 1)).get i = leftS m.crafts x (y : Int) ((pkS m y).getD i (-1)) ((chS m y).get i) := by
      rw [hn, stepS_get m _ _ (by omega)]
      unfold upd
      rw [hx, hy2]
    have hkp : x.need ≤ leftS m.crafts x (y : Int) ((pkS m y).getD i (-1)) ((chS m y).get i) := by
      unfold keptS at hk
      rw [List.all_eq_true] at hk
      have h1 := hk i (by simpa using hil)
      unfold keptAt at h1
      rw [hx, hy2] at h1
      simpa using h1
    rw [hg]
    rw [hlf] at hkp ⊢
    have hfull := (hm.slopes x hxm).full
    refine ⟨by omega, by omega, by omega⟩
  · have hil := (List.getElem?_eq_some_iff.1 hx).1
    have hnow := (hm.slopes x (List.mem_of_getElem? hx)).now
    refine ⟨?_, hnow.2⟩
    show (firstS m).get i = x.now
    unfold firstS
    rw [stOf_get _ _ (by omega), List.getD_eq_getElem?_getD, nows, List.getElem?_map, hx]
    rfl
  · have h := hfit y hy i hi
    cases hx : m.slopes[i]? with
    | none => rw [hx] at h; rw [h]; exact Int.le_refl _
    | some x => rw [hx] at h; exact h.1
/-- What is left of all slopes, in a year, k of them done: at least what the plan counts on. -/
def NowOk (m : Wk) (y k : Nat) (N : List Int) : Prop := N.length = m.slopes.length ∧ ∀ (i : Nat) (x : Slope), m.slopes[i]? = some x → (if i < k then (chS m (y + 1)).get i else (chS m y).get i) ≤ N.getD i 0 ∧ N.getD i 0 ≤ x.full
theorem NowOk.next {m : Wk} {y : Nat} {N : List Int} (h : NowOk m y m.slopes.length N) : NowOk m (y + 1) 0 N := by
  refine ⟨h.1, fun i x hx => ?_⟩
  have := h.2 i x hx
  rw [if_pos (List.getElem?_eq_some_iff.1 hx).1] at this
  simpa using this
theorem NowOk.set {m : Wk} {y i : Nat} {N : List Int} {x : Slope} (h : NowOk m y i N) (hx : m.slopes[i]? = some x) {t : Int} (h1 : (chS m (y + 1)).get i ≤ t) (h2 : t ≤ x.full) : NowOk m y (i + 1) (N.set i t) := by
  have hil : i < N.length := by rw [h.1]; exact (List.getElem?_eq_some_iff.1 hx).1
  refine ⟨by rw [List.length_set]; exact h.1, fun j z hz => ?_⟩
  rw [getD_set hil]
  by_cases hj : j = i
  · subst hj
    rw [if_pos (by omega), if_pos rfl]
    rw [hx] at hz
    cases hz
    exact ⟨h1, h2⟩
  · rw [if_neg hj]
    have := h.2 j z hz
    by_cases hji : j < i
    · rw [if_pos hji] at this
      rw [if_pos (by omega)]
      exact this
    · rw [if_neg hji] at this
      rw [if_neg (by omega)]
      exact this
/-- The cells of a list of one's own. -/
theorem own_cur {w : World} {B g c n : Nat} {N : List Int} (h : w.ownsRow B 3 1 (.slice (some ⟨g, 0, none⟩) n c) n (N.map (Value.int .i64))) {i : Nat} (hi : i < N.length) :
    ∃ cur, w.heap[g]? = some (.cells cur 3 (0, 0)) ∧ cur[i]? = some (.int .i64 (N.getD i 0)) ∧ B ≤ g ∧ g < w.heap.size := by
  have hl := h.1
  have hb := own_blk_lt h g rfl
  rcases h.2 with ⟨h1, _⟩ | ⟨g', cap', cur, hv, _, hh, _, _, _, ht⟩
  · cases h1
  · cases hv
    refine ⟨cur, hh, ?_, hb.1, hb.2⟩
    have h2 : (N.map (Value.int .i64))[i]? = some (.int .i64 (N.getD i 0)) := by rw [List.getElem?_map, List.getElem?_eq_getElem hi, getD_lt hi]; rfl
    have hN : N.length = n := by simpa using hl
    rw [← ht, List.getElem?_take, if_pos (by omega), Array.getElem?_toList] at h2
    exact h2
theorem hands_pos (row : List Int) : (0 < row.countP fun n => decide (0 ≤ n)) ↔ row.any (fun k => decide (0 ≤ k)) = true := by
  rw [List.countP_pos_iff, List.any_eq_true]
theorem costS_of (m : Wk) {row : List Int} {n : Nat} (h : row.length = n) : costS m row = costTo m row n + if 0 < row.countP (fun n => decide (0 ≤ n)) then m.visit else 0 := by
  unfold costS
  rw [h]
  by_cases ha : row.any (fun k => decide (0 ≤ k)) = true
  · rw [if_pos ha, if_pos ((hands_pos row).2 ha)]
  · rw [if_neg ha, if_neg (fun h => ha ((hands_pos row).1 h))]
theorem hands_may {m : Wk} {row : List Int} (h : mayS m row = true) : (row.countP (fun n => decide (0 ≤ n)) : Int) ≤ m.hands := by
  unfold mayS at h
  simp only [Bool.and_eq_true, decide_eq_true_eq] at h
  exact h.2

/-- A number within bounds. -/
def intV (hi : Int) : { S : Value → Prop // ∃ u, S u } := ⟨fun v => ∃ r : Int, v = .int .i64 r ∧ 0 ≤ r ∧ r ≤ max hi 0, .int .i64 0, 0, rfl, Int.le_refl _, by omega⟩

set_option maxHeartbeats 16000000 in
theorem mendKeeps_calls (m : Wk) (sl cr pv : Value) (bs : List Int) (w : World) (hsl : SlopesAt w w.heap.size sl m.slopes) (hcr : CraftsAt w w.heap.size cr m.crafts) (hb : BytesAt w w.heap.size pv bs) :
    Calls Try.prog 7 #[.agg #[sl, cr, .int .i64 m.years, .int .i64 m.visit, .int .i64 m.hands], pv] w (LawPost w) := by
  obtain ⟨sA, sc, rfl, _, hss⟩ := id hsl
  obtain ⟨cA, cc, rfl, _, hcc⟩ := id hcr
  obtain ⟨bA, bc, rfl, hbr, hbb⟩ := hb
  obtain ⟨w0, hw0⟩ : ∃ w0, w0 = w.alloc (.cells #[.slice sA m.slopes.length sc, .slice cA m.crafts.length cc, .int .i64 m.years, .int .i64 m.visit, .int .i64 m.hands] 25) := ⟨_, rfl⟩
  have h0 := LawInv.start hsl hcr
  rw [← hw0] at h0
  have x5 := blk5 h0.box
  rw [hw0] at x5
  obtain ⟨x0, x1, x2, x3, x4⟩ := x5
  have H0 := Lib.hid h0
  have HW0 := Lib.hid hw0
  have HSS := Lib.hid hss
  have HCC := Lib.hid hcc
  have HBR := Lib.hid (And.intro hbr hbb)
  have hz0 : w.heap.size < w0.heap.size := by rw [hw0]; simp
  clear h0 hw0 hsl hcr hss hcc hbr hbb
  go_enter Try.func7, Try.ntmps7
  go_wp2_with fail
  rw [← HW0.out]
  refine (great_calls m _ _ w0 H0.out.slopes H0.out.crafts).mono ?_
  rintro e w1 ⟨⟨g, rfl⟩, hb1⟩
  have H1 := Lib.hid (H0.out.later hb1)
  have hz1 := hb1.size
  clear hb1 x0 x1 x2 x3 x4 H0 HW0
  cases g
  · by_cases h100 : (bs.length : Int) > 100
    · go_wp2_with (go_at_call 16; refine (runs_law H1.out).mono ?_; rintro e wr ⟨rfl, hr⟩; have HR := Lib.hid hr; clear hr)
      go_ret
      exact HR.out
    · obtain ⟨x0, x1, x2, x3, x4⟩ := blk5 H1.out.box
      go_wp2_with fail
      refine (cheap_calls m _ _ w1 H1.out.slopes H1.out.crafts).mono ?_
      rintro e w2 ⟨v2, rfl, hr2, hb2⟩
      have H2 := Lib.hid (H1.out.later hb2)
      have hz2 := hb2.size
      clear hb2 H1 x0 x1 x2 x3 x4
      by_cases hfine : (cheapS m).2.2.2 = 0 ∧ (cheapS m).2.2.1 = true
      · obtain ⟨hck, hfew, hv, hch⟩ := cheapS_fine hfine.1 hfine.2
        have hkf := keepFacts hck hv
        rw [hch] at hr2
        simp only [] at hr2
        rw [hch]
        simp only []
        clear hfine hck hfew hv hch
        generalize planS m = P at *
        generalize valS m (firstS m) = V at *
        have HKF := Lib.hid hkf
        have hm := hkf.ok
        have hpl1 : (P.length : Int) ≤ m.years := Int.le_of_eq hkf.len
        have hpl2 : m.years ≤ (P.length : Int) := Int.le_of_eq hkf.len.symm
        have hpl3 : ((P.length : Int) != m.years) = false := by simp [hkf.len]
        have hpl4 : (!((P.length : Int) == m.years)) = false := by simp [hkf.len]
        have hyb := hm.years
        have hn4 := hm.few
        have hn1 := hm.some
        have hvb := hkf.val
        have hvis := hm.visit
        have hhan := hm.hands
        have HM := Lib.hid hm
        obtain ⟨pA, pc, rfl, _, hpr⟩ := id hr2
        have HPR := Lib.hid hpr
        clear hkf hpr hr2 hm
        obtain ⟨x0, x1, x2, x3, x4⟩ := blk5 H2.out.box
        go_wp2_with fail
        clear x0 x1 x2 x3 x4
        go_loopw [10, 11] (fun l c wr => ∃ k : Nat, k ≤ m.slopes.length ∧ c = .int .i64 (k : Int) ∧ (∃ A n c, l = .slice A n c) ∧ Hid (wr.ownsRow w2.heap.size 3 1 l k (((nows m).take k).map (Value.int .i64))) ∧ Hid (Below w2.heap.size w2 wr)) (fun _ c _ => m.slopes.length - (intOf c).toNat)
        case atStart => exact ⟨0, Nat.zero_le _, rfl, ⟨none, 0, 0, rfl⟩, Lib.hid ⟨by simp, .inl ⟨rfl, rfl⟩⟩, Lib.hid (Below.refl _ _)⟩
        case round =>
          obtain ⟨k, hk, rfl, ⟨lA, ln, lc, rfl⟩, HO, HB⟩ := hrel
          obtain ⟨Wr, rfl⟩ : ∃ Wr, Wr = wr := ⟨_, rfl⟩
          have HI := Lib.hid (H2.out.later HB.out)
          obtain ⟨x0, x1, x2, x3, x4⟩ := blk5 HI.out.box
          have zr := HB.out.size
          by_cases hlt : k < m.slopes.length
          · have hki : (k : Int) < (m.slopes.length : Int) := by omega
            have hk0 : (0 : Int) ≤ (k : Int) := by omega
            have hkadd : IntKind.i64.wrap ((k : Int) + 1) = (k : Int) + 1 := IntWalk.i64_in _ (by omega)
            obtain ⟨b, o, rfl, hb, hc⟩ := HSS.out (by intro e; rw [e] at hlt; simp at hlt)
            obtain ⟨t, _, c0, _⟩ := hc k _ (List.getElem?_eq_getElem hlt)
            have k0 := (HI.out.below.cell (p := ⟨b, o + k * 5, none⟩) hb).trans c0
            have hts : (nows m).take (k + 1) = (nows m).take k ++ [m.slopes[k].now] := by
              rw [List.take_succ_eq_append_getElem (by simpa [nows] using hlt)]; simp [nows]
            have HT := Lib.hid hts
            clear hc c0 hts
            generalize m.slopes[k].now = nw at *
            have hho := HO.out
            have hhb : w2.heap.size ≤ (Wr.alloc (.cells #[.int .i64 nw] 3)).heap.size := by simp; omega
            go_wp2_with (at_builtin; (refine wpList_app2 w2.heap.size _ _ 36 3 (.int .i64 0) 1 8 [.int .i64 nw] (by rfl) (by rfl) Try.underlying36 infoInt rfl (by decide) (by decide) (.slice lA ln lc) k _ (by rfl) Wr.heap.size (by rfl) (heap_alloc_self _ _) rfl (by simp [Value.oneCell']) (own_below hho (below1 _ _) (fun k hk => (own_blk_lt hho k hk).2)) (by omega) hhb ?_); intro v1 w1' hown1 hg _ hb1; obtain ⟨A1, n1, c1, rfl⟩ := own_slice hown1; have HX := Lib.hid (And.intro hown1 hb1); clear hown1 hg hb1)
            obtain ⟨hown1, hb1⟩ := HX.out
            have HB1 := Lib.hid (HB.out.trans (((below1 Wr (.cells #[.int .i64 nw] 3)).mono zr).trans hb1))
            have hoo : w1'.ownsRow w2.heap.size 3 1 (.slice A1 n1 c1) (k + 1) (((nows m).take (k + 1)).map (Value.int .i64)) := by rw [HT.out]; simpa using hown1
            have HO1 := Lib.hid hoo
            clear hown1 hb1 hoo HX hho hhb
            go_round
            case rel => exact ⟨k + 1, by omega, by go_num, ⟨_, _, _, rfl⟩, HO1, HB1⟩
            case measure => simp [intOf]; omega
          · obtain rfl : k = m.slopes.length := by omega
            have hki : ¬ (m.slopes.length : Int) < (m.slopes.length : Int) := by omega
            have hl : (nows m).length = m.slopes.length := by simp [nows]
            have hoo := HO.out
            rw [show (nows m).take m.slopes.length = nows m by rw [← hl, List.take_length]] at hoo
            obtain ⟨g, c9, e9⟩ : ∃ g c, Value.slice lA ln lc = .slice (some ⟨g, 0, none⟩) m.slopes.length c := by
              rcases id hoo.2 with ⟨_, h0⟩ | ⟨g, cap, cur, e, _⟩
              · omega
              · exact ⟨g, cap, e⟩
            rw [e9] at hoo ⊢
            have hn0 : NowOk m 0 0 (nows m) := ⟨hl, fun i x hx => by
              have h1 := HKF.out.start i x hx
              have h2 : (nows m).getD i 0 = x.now := by rw [List.getD_eq_getElem?_getD, nows, List.getElem?_map, hx]; rfl
              rw [h2]
              simp
              omega⟩
            have HN0 := Lib.hid hn0
            have HO0 := Lib.hid hoo
            clear hl hoo hn0 e9
            go_wp2_with fail
            clear x0 x1 x2 x3 x4
            go_loopw [9, 12] (fun su c wr => ∃ (y : Nat) (N : List Int), (y : Int) ≤ m.years ∧ c = .int .i64 (y : Int) ∧ su = .int .i64 (costPl m P y) ∧ Hid (NowOk m y 0 N) ∧ Hid (wr.ownsRow w2.heap.size 3 1 (.slice (some ⟨g, 0, none⟩) m.slopes.length c9) m.slopes.length (N.map (Value.int .i64))) ∧ Hid (Below w2.heap.size w2 wr)) (fun _ c _ => m.years.toNat - (intOf c).toNat)
            case atStart => exact ⟨0, nows m, by omega, rfl, rfl, HN0, HO0, HB⟩
            case round =>
              obtain ⟨y, N, hy, rfl, rfl, HN, HO, HB⟩ := hrel
              obtain ⟨Wr, rfl⟩ : ∃ Wr, Wr = wr := ⟨_, rfl⟩
              have HI := Lib.hid (H2.out.later HB.out)
              obtain ⟨x0, x1, x2, x3, x4⟩ := blk5 HI.out.box
              have zr := HB.out.size
              by_cases hyl : (y : Int) < m.years
              · have hy0 : (0 : Int) ≤ (y : Int) := by omega
                have hyadd : IntKind.i64.wrap ((y : Int) + 1) = (y : Int) + 1 := IntWalk.i64_in _ (by omega)
                have hyP : (y : Int) < (P.length : Int) := by omega
                obtain ⟨hgy, hro, hmay⟩ := HKF.out.row y hyl
                have hrl := hro.len
                obtain ⟨pb, po, rfl, hpb, hpc⟩ := HPR.out (by intro e; rw [e] at hgy; simp at hgy)
                obtain ⟨u1, hu1, rA, rc, rfl, hr1⟩ := hpc y _ hgy
                have hq : ∀ W, Grows Wr W → _ := fun W hW => And.intro (blk5 (blk_below hW HI.out.box (lt_blk HI.out.box))) (((HB.out.trans (hW.mono zr)).cell (p := ⟨pb, po + y, none⟩) hpb).trans hu1)
                have HQ := Lib.hid hq
                have HU := Lib.hid (And.intro hu1 (And.intro hr1 hpb))
                have HRO := Lib.hid (And.intro hro hmay)
                have hsums := HKF.out.sum y hyl
                have hcbd := HKF.out.bd y hy
                have hcbd1 := HKF.out.bd (y + 1) (by omega)
                have HSUM := Lib.hid hsums
                clear hq hu1 hr1 hpc hgy hro hmay hsums
                generalize hrow : pkS m y = row at *
                have HROW := Lib.hid hrow
                have HRL := Lib.hid hrl
                have hrle1 : row.length ≤ m.slopes.length := Nat.le_of_eq hrl
                have hrle2 : m.slopes.length ≤ row.length := Nat.le_of_eq hrl.symm
                have hrl3 : ((row.length : Int) != (m.slopes.length : Int)) = false := by simp [hrl]
                have hrl4 : (!((row.length : Int) == (m.slopes.length : Int))) = false := by simp [hrl]
                clear hrow hrl
                go_wp2_with fail
                refine wp_region_rg Grows (fun _ => .fn) (by kernel_rfl) (by kernel_rfl) Grows.refl growsT (fun _ => trivial) ?_
                iterate 9 (refine rg_step fun K hK => ?_; apply rg_fn rfl; (intro w4 hw; obtain ⟨⟨x0, x1, x2, x3, x4⟩, y1⟩ := HQ.out w4 hw.undrew; go_simp; try rfl); go_simp; (try with_reducible refine hK _ _ ?_); try clear hK K)
                refine rg_nil ?_
                intro w5 hw5 _
                replace hw5 := hw5.undrew
                have HB5 := Lib.hid (HB.out.trans (hw5.mono zr))
                have HO5 := Lib.hid (own_below HO.out hw5 (fun k hk => (own_blk_lt HO.out k hk).2))
                clear hw5 HQ x0 x1 x2 x3 x4
                go_wp2_with fail
                go_loopw [9, 13, 14] (fun su ha c wi => ∃ (i : Nat) (N : List Int), i ≤ m.slopes.length ∧ c = .int .i64 (i : Int) ∧ su = .int .i64 (costPl m P y + costTo m row i) ∧ ha = .int .i64 ((row.take i).countP (fun n => decide (0 ≤ n)) : Nat) ∧ Hid (NowOk m y i N) ∧ Hid (wi.ownsRow w2.heap.size 3 1 (.slice (some ⟨g, 0, none⟩) m.slopes.length c9) m.slopes.length (N.map (Value.int .i64))) ∧ Hid (Below w2.heap.size w2 wi)) (fun _ _ c _ => m.slopes.length - (intOf c).toNat)
                case atStart => exact ⟨0, N, Nat.zero_le _, rfl, by simp [costTo], rfl, HN, HO5, HB5⟩
                case round =>
                  obtain ⟨i, N, hi, rfl, rfl, rfl, HN, HO, HB⟩ := hrel
                  obtain ⟨Wr, rfl⟩ : ∃ Wr, Wr = wr := ⟨_, rfl⟩
                  have HI := Lib.hid (H2.out.later HB.out)
                  obtain ⟨x0, x1, x2, x3, x4⟩ := blk5 HI.out.box
                  have zr := HB.out.size
                  have hzw := HI.out.below.size
                  have hctb := costTo_bd HM.out row i hi
                  have hcp : (row.take i).countP (fun n => decide (0 ≤ n)) ≤ i := Nat.le_trans List.countP_le_length (by simp; omega)
                  by_cases hil : i < m.slopes.length
                  · have hii : (i : Int) < (m.slopes.length : Int) := by omega
                    have hi0 : (0 : Int) ≤ (i : Int) := by omega
                    have hiadd : IntKind.i64.wrap ((i : Int) + 1) = (i : Int) + 1 := IntWalk.i64_in _ (by omega)
                    have hir : i < row.length := by omega
                    have hiri : (i : Int) < (row.length : Int) := by omega
                    have hgx : m.slopes[i]? = some m.slopes[i] := List.getElem?_eq_getElem hil
                    obtain ⟨b, o, rfl, hb, hc⟩ := HSS.out (by intro e; rw [e] at hil; simp at hil)
                    obtain ⟨tk, htk, c0, c1, c2, c3, c4⟩ := hc i _ hgx
                    obtain ⟨kA, kc, rfl, hkrow⟩ := id htk
                    obtain ⟨hu1, hr1, hpb⟩ := HU.out
                    obtain ⟨rb, ro, rfl, hrb, hrc⟩ := hr1.at_ i (by simpa using hir)
                    simp only [List.getElem_map] at hrc
                    have hbe := HI.out.below
                    have k0 := (hbe.cell (p := ⟨b, o + i * 5, none⟩) hb).trans c0
                    have k1 := (hbe.cell (p := ⟨b, o + i * 5 + 1, none⟩) hb).trans c1
                    have k2 := (hbe.cell (p := ⟨b, o + i * 5 + 2, none⟩) hb).trans c2
                    have k3 := (hbe.cell (p := ⟨b, o + i * 5 + 3, none⟩) hb).trans c3
                    have k4 := (hbe.cell (p := ⟨b, o + i * 5 + 4, none⟩) hb).trans c4
                    have t0 := (HB.out.cell (p := ⟨pb, po + y, none⟩) hpb).trans hu1
                    have r0 := (HB.out.cell (p := ⟨rb, ro + i, none⟩) hrb).trans hrc
                    have hal : ∀ (p : Addr) (v : Value), p.block < Wr.heap.size → Wr.cell? p = some v → ∀ ob, (Wr.alloc ob).cell? p = some v := fun p v hp hv ob => ((below1 Wr ob).cell hp).trans hv
                    have a0 := hal ⟨b, o + i * 5, none⟩ _ (show b < Wr.heap.size by omega) k0
                    have a1 := hal ⟨b, o + i * 5 + 1, none⟩ _ (show b < Wr.heap.size by omega) k1
                    have a2 := hal ⟨b, o + i * 5 + 2, none⟩ _ (show b < Wr.heap.size by omega) k2
                    have a3 := hal ⟨b, o + i * 5 + 3, none⟩ _ (show b < Wr.heap.size by omega) k3
                    have a4 := hal ⟨b, o + i * 5 + 4, none⟩ _ (show b < Wr.heap.size by omega) k4
                    have a5 := hal ⟨pb, po + y, none⟩ _ (show pb < Wr.heap.size by omega) t0
                    have a6 := hal ⟨w.heap.size, 0, none⟩ _ (show w.heap.size < Wr.heap.size by omega) x0
                    have a7 := hal ⟨rb, ro + i, none⟩ _ (show rb < Wr.heap.size by omega) r0
                    have hstep := fun t r => HKF.out.step y i _ hyl hgx t r
                    rw [HROW.out, getD_lt hir] at hstep
                    have hNx := HN.out.2 i _ hgx
                    rw [if_neg (Nat.lt_irrefl i)] at hNx
                    have hlow := HKF.out.low y i hy (by omega)
                    have hset := fun (t : Int) h1 h2 => NowOk.set (t := t) HN.out hgx h1 h2
                    have hNl := HN.out.1
                    have hcts := costTo_succ m row i hir hil
                    have hctb1 := costTo_bd HM.out row (i + 1) hil
                    have hcps : (row.take (i + 1)).countP (fun n => decide (0 ≤ n)) = (row.take i).countP (fun n => decide (0 ≤ n)) + if 0 ≤ row[i] then 1 else 0 := by
                      rw [List.take_succ_eq_append_getElem hir, List.countP_append]
                      by_cases h : 0 ≤ row[i] <;> simp [h]
                    have hrk := HRO.out.1.each _ (List.getElem_mem hir)
                    have hsok := HM.out.slopes _ (List.getElem_mem hil)
                    have hcraft : ∀ q : Nat, row[i] = (q : Int) → ∀ hq : q < m.crafts.length, (∀ t, mendC m.crafts row[i] t m.slopes[i].full = if m.crafts[q].strip then m.slopes[i].full else min m.slopes[i].full (t + m.crafts[q].add)) ∧ (0 ≤ m.crafts[q].add ∧ m.crafts[q].add ≤ 1000) ∧ priceC m.crafts row[i] = m.crafts[q].price := fun q e hq => by
                      refine ⟨fun t => ?_, (HM.out.craft _ (List.getElem_mem hq)).add, ?_⟩
                      · unfold mendC
                        rw [e, if_neg (by omega), Int.toNat_natCast, List.getElem?_eq_getElem hq]
                      · unfold priceC
                        rw [e, if_neg (by omega), Int.toNat_natCast, List.getElem?_eq_getElem hq]
                    have hnone : row[i] < 0 → (∀ t, mendC m.crafts row[i] t m.slopes[i].full = t) ∧ priceC m.crafts row[i] = 0 := fun h => ⟨fun t => by unfold mendC; rw [if_pos h], by unfold priceC; rw [if_pos h]⟩
                    have hfull := hsok.full
                    have hpr1 := hsok.size
                    have HSTEP := Lib.hid hstep
                    have HSET := Lib.hid hset
                    have HCTS := Lib.hid hcts
                    have HCPS := Lib.hid hcps
                    have HCR := Lib.hid hcraft
                    have HNO := Lib.hid hnone
                    have HKR := Lib.hid hkrow
                    have HNL := Lib.hid hNl
                    have HTB := Lib.hid (And.intro hsok.len hsok.takes)
                    have hiN : i < N.length := by omega
                    have hmul : IntKind.i64.wrap ((y : Int) * (m.slopes.length : Int)) = ((y * m.slopes.length : Nat) : Int) := by
                      have h1 : y * m.slopes.length ≤ 40 * 4 := Nat.mul_le_mul (by omega) hn4
                      rw [show (y : Int) * (m.slopes.length : Int) = ((y * m.slopes.length : Nat) : Int) by simp]
                      exact IntWalk.i64_in _ (by omega)
                    have hyn : y * m.slopes.length + i ≤ 1000 := by
                      have h1 : y * m.slopes.length ≤ 40 * 4 := Nat.mul_le_mul (by omega) hn4
                      omega
                    have hadd9 : IntKind.i64.wrap (((y * m.slopes.length : Nat) : Int) + (i : Int)) = ((y * m.slopes.length + i : Nat) : Int) := by rw [IntWalk.i64_in _ (by omega)]; omega
                    clear hal c0 c1 c2 c3 c4 hc hbe hrc hstep hset hcts hcps hcraft hnone hkrow htk hNl hsok hu1 hr1
                    generalize m.slopes[i] = x at *
                    generalize row[i] = rk at *
                    generalize hNi : N.getD i 0 = Ni at *
                    generalize (chS m (y + 1)).get i = lo at *
                    generalize hkk : y * m.slopes.length + i = kk at *
                    generalize y * m.slopes.length = ym at *
                    have HNI := Lib.hid hNi
                    clear hNi hkk
                    go_wp2_with fail
                    go_region
                    obtain ⟨W1, hW1⟩ : ∃ W1, W1 = (Wr.alloc (.cells #[.int .i64 x.now, .int .i64 x.need, .int .i64 x.full, .int .i64 x.size, .slice kA x.takes.length kc] 55)).drew := ⟨_, rfl⟩
                    have g5 : W1.heap[Wr.heap.size]? = some (.cells #[.int .i64 x.now, .int .i64 x.need, .int .i64 x.full, .int .i64 x.size, .slice kA x.takes.length kc] 55 (0, 0)) := by rw [hW1]; exact heap_alloc_self Wr _
                    have hb1 : Below Wr.heap.size Wr W1 := by rw [hW1]; exact (below1 Wr _).drew
                    rw [← hW1]
                    have HB1 := Lib.hid (HB.out.trans (hb1.mono zr))
                    have hown1 := own_below HO.out hb1 (fun k hk => (own_blk_lt HO.out k hk).2)
                    obtain ⟨cur, hcur, hci, hgB, hgS⟩ := own_cur HO.out hiN
                    have hgb : g ≠ Wr.heap.size := by omega
                    have G5 := Lib.hid g5
                    have HO1 := Lib.hid hown1
                    have hz9 := hb1.size
                    have hlt5 := lt_blk g5
                    clear hW1 g5 hb1 hown1 a0 a1 a2 a3 a4 a5 a6 a7 k0 k1 k2 k3 k4 t0 r0 x0 x1 x2 x3 x4 hcur hci
                    have hnk1 : ¬ rk ≥ (m.crafts.length : Int) := by omega
                    have hnk2 : ¬ rk < -1 := by omega
                    by_cases hneg : rk ≥ 0
                    · obtain ⟨q, rfl⟩ := Int.eq_ofNat_of_zero_le hneg
                      have hqc : q < m.crafts.length := by omega
                      have hqi : (q : Int) < (m.crafts.length : Int) := by omega
                      obtain ⟨cb, co, rfl, hcb, hcc2⟩ := HCC.out (by intro e; rw [e] at hqc; simp at hqc)
                      obtain ⟨d0, d1, d2⟩ := hcc2 q _ (List.getElem?_eq_getElem hqc)
                      obtain ⟨hTq, ⟨ha0, ha1⟩, hpq⟩ := HCR.out q rfl hqc
                      have hcts := HCTS.out
                      have hcps := HCPS.out
                      rw [hpq] at hcts
                      rw [if_pos hneg] at hcps
                      have HMC := Lib.hid hTq
                      have hI1 := H2.out.later HB1.out
                      have hO1 := HO1.out
                      obtain ⟨cur1, hcur1, hci1, _, hgS1⟩ := own_cur hO1 hiN
                      rw [HNI.out] at hci1
                      have hbw : ∀ W, Grows W1 W → Below w.heap.size w W := fun W hW => hI1.below.trans (hW.mono hI1.below.size)
                      have hq : ∀ W, Grows W1 W → _ := fun W hW => And.intro (blk5 (blk_below hW hI1.box (lt_blk hI1.box))) (And.intro (show W.cell? ⟨g, i, none⟩ = some (.int .i64 Ni) by rw [cell_blk (blk_below hW hcur1 hgS1)]; exact hci1) (And.intro (blk5 (blk_below hW G5.out (lt_blk G5.out)))
                        (And.intro (((hbw W hW).cell (p := ⟨cb, co + q * 3, none⟩) hcb).trans d0) (And.intro (((hbw W hW).cell (p := ⟨cb, co + q * 3 + 1, none⟩) hcb).trans d1) (((hbw W hW).cell (p := ⟨cb, co + q * 3 + 2, none⟩) hcb).trans d2)))))
                      have hmulp : IntKind.i64.wrap (m.crafts[q].price * x.size) = m.crafts[q].price * x.size := IntWalk.i64_in _ (by omega)
                      have haddp : IntKind.i64.wrap (costPl m P y + costTo m row i + m.crafts[q].price * x.size) = costPl m P y + costTo m row (i + 1) := by rw [hcts, ← Int.add_assoc]; exact IntWalk.i64_in _ (by omega)
                      have hD := And.intro d0 (And.intro d1 (And.intro d2 hcb))
                      have hcn : IntKind.i64.wrap (((row.take i).countP (fun n => decide (0 ≤ n)) : Nat) + 1 : Int) = (((row.take i).countP (fun n => decide (0 ≤ n)) + 1 : Nat) : Int) := by rw [IntWalk.i64_in _ (by omega)]; omega
                      have HSUMI : Hid (costPl m P y + costTo m row (i + 1) = costPl m P y + costTo m row (i + 1)) := Lib.hid rfl
                      have HCNT := Lib.hid hcps
                      have HQ := Lib.hid hq
                      have HD := Lib.hid hD
                      have HG1 := Lib.hid (And.intro hcur1 hgS1)
                      clear hcc2 d0 d1 d2 hTq hpq hcts hcps hI1 hO1 hcur1 hci1 hbw hq hD HCR HNO
                      generalize m.crafts[q] = cq at *
                      obtain ⟨⟨x0, x1, x2, x3, x4⟩, y1, ⟨z0, z1, z2, z3, z4⟩, d0, d1, d2⟩ := HQ.out W1 (Grows.refl _)
                      go_wp2_with fail
                      refine wp_region_rg Grows (fun _ => .fn) (by kernel_rfl) (by kernel_rfl) Grows.refl growsT (fun _ => trivial) ?_
                      iterate 12 (refine rg_step fun K hK => ?_; apply rg_fn rfl; (intro w4 hw; obtain ⟨⟨x0, x1, x2, x3, x4⟩, y1, ⟨z0, z1, z2, z3, z4⟩, d0, d1, d2⟩ := HQ.out w4 hw.undrew; go_simp; try rfl); go_simp; (try with_reducible refine hK _ _ ?_); try clear hK K)
                      refine rg_nil ?_
                      intro w6 hw6 _
                      replace hw6 := hw6.undrew
                      have hq6 : ∀ W, Grows w6 W → _ := fun W hW => HQ.out W (growsT _ _ _ hw6 hW)
                      have HQ6 := Lib.hid hq6
                      have HG6 := Lib.hid hw6
                      have hadda : IntKind.i64.wrap (Ni + cq.add) = Ni + cq.add := IntWalk.i64_in _ (by omega)
                      clear hw6 hq6 HQ
                      go_wp2_with fail
                      refine wp_region_rg_tail 17 Grows (fun _ => .fn) (by kernel_rfl) (by kernel_rfl) Grows.refl growsT (fun _ => trivial) ?_
                      iterate 17 (refine rg_step fun K hK => ?_; apply rg_fn rfl; (intro w4 hw; obtain ⟨⟨x0, x1, x2, x3, x4⟩, y1, ⟨z0, z1, z2, z3, z4⟩, d0, d1, d2⟩ := HQ6.out w4 hw.undrew; go_simp; try rfl); go_simp; (try with_reducible refine hK _ _ ?_); try clear hK K)
                      refine rg_nil ?_
                      intro w7 hw7 _
                      replace hw7 := hw7.undrew
                      obtain ⟨⟨x0, x1, x2, x3, x4⟩, y7, ⟨z0, z1, z2, z3, z4⟩, d0, d1, d2⟩ := HQ6.out w7 hw7
                      have hg7 : Grows W1 w7 := growsT _ _ _ HG6.out hw7
                      have h7g := blk_below hg7 HG1.out.1 HG1.out.2
                      have f7 := frozen_blk h7g i
                      have hset7 := own_set (own_below HO1.out hg7 (fun k hk => (own_blk_lt HO1.out k hk).2)) (s := i) (min (Ni + cq.add) x.full)
                      obtain ⟨W8, hW8⟩ : ∃ W8, W8 = w7.setCell ⟨g, i, none⟩ (.int .i64 (min (Ni + cq.add) x.full)) := ⟨_, rfl⟩
                      rw [← hW8] at hset7
                      have hB8 : Below w2.heap.size w2 W8 := by rw [hW8]; exact (HB1.out.trans (hg7.mono HB1.out.size)).setCell (p := ⟨g, i, none⟩) hgB _
                      have g58 : W8.heap[Wr.heap.size]? = some (.cells #[.int .i64 x.now, .int .i64 x.need, .int .i64 x.full, .int .i64 x.size, .slice kA x.takes.length kc] 55 (0, 0)) := by
                        rw [hW8]
                        exact (Below.heap_setCell _ _ _ _ (fun e => hgb e.symm)).trans (blk_below hg7 G5.out (lt_blk G5.out))
                      have hI8 := H2.out.later hB8
                      have e8 := (hI8.below.cell (p := ⟨cb, co + q * 3 + 2, none⟩) HD.out.2.2.2).trans HD.out.2.2.1
                      obtain ⟨cur8, hcur8, hci8, _, hgS8⟩ := own_cur hset7 (i := i) (by rw [List.length_set]; exact hiN)
                      have c8 : W8.cell? ⟨g, i, none⟩ = some (.int .i64 ((N.set i (min (Ni + cq.add) x.full)).getD i 0)) := by rw [cell_blk hcur8]; exact hci8
                      have f8 := frozen_blk hcur8 i
                      have hx8 := blk5 hI8.box
                      have hz8 := blk5 g58
                      rw [hW8] at e8 c8 f8 hx8 hz8
                      have HMC2 := Lib.hid (HMC.out Ni)
                      have HW8 := Lib.hid hW8
                      have HB8 := Lib.hid hB8
                      have G58 := Lib.hid g58
                      have HO8 := Lib.hid hset7
                      clear x0 x1 x2 x3 x4 z0 z1 z2 z3 z4 d0 d1 d2 h7g hg7 hw7 hset7 hW8 hB8 g58 hI8 hcur8 hci8 HQ6 HMC HD
                      obtain ⟨x0, x1, x2, x3, x4⟩ := hx8
                      obtain ⟨z0, z1, z2, z3, z4⟩ := hz8
                      simp only [List.drop_succ_cons, List.drop_zero]
                      generalize cq.strip = st at *
                      cases st
                      · have HVE : Hid (mendC m.crafts (q : Int) Ni x.full = min (Ni + cq.add) x.full) := Lib.hid (by rw [HMC2.out]; simp; omega)
                        clear HMC2
                        go_wp2_with fail
                        rw [← HW8.out]
                        clear x0 x1 x2 x3 x4 z0 z1 z2 z3 z4 e8 c8 f8 f7 y7
                        as_aux_lemma =>
                          have hO := HO8.out
                          obtain ⟨curV, hcurV, hciV, hgBV, hgSV⟩ := own_cur hO (by rw [List.length_set]; exact hiN)
                          rw [getD_set hiN, if_pos rfl] at hciV
                          have hIV := H2.out.later HB8.out
                          have zV := HB8.out.size
                          have hq : ∀ W, Grows W8 W → _ := fun W hW => And.intro (blk5 (blk_below hW hIV.box (lt_blk hIV.box))) (And.intro (show W.cell? ⟨g, i, none⟩ = some (.int .i64 (min (Ni + cq.add) x.full)) by rw [cell_blk (blk_below hW hcurV hgSV)]; exact hciV) (blk5 (blk_below hW G58.out (lt_blk G58.out))))
                          have hreal : ∀ W, Grows W8 W → _ := fun W hW => really_calls w.heap.size x kA kc (y : Int) bA bc bs kk W (HKR.out.below (hIV.below.trans (hW.mono hIV.below.size))) (HBR.out.1.below (hIV.below.trans (hW.mono hIV.below.size))) HBR.out.2 (Nat.le_trans hIV.below.size (Below.size hW)) HTB.out.1 HTB.out.2 ⟨hy0, by omega⟩ hyn
                          have HQ := Lib.hid hq
                          have HREAL := Lib.hid hreal
                          have hvb0 : 0 ≤ min (Ni + cq.add) x.full ∧ min (Ni + cq.add) x.full ≤ 2000 := by omega
                          have htk0 : 0 ≤ tkS x (y : Int) ∧ tkS x (y : Int) ≤ 500 := by
                            unfold tkS
                            split
                            · omega
                            · rename_i h9
                              unfold takeOf
                              rw [getD_lt (Nat.mod_lt _ (by omega))]
                              exact HTB.out.2 _ (List.getElem_mem _)
                          have HG := Lib.hid (And.intro hcurV (And.intro hgBV hgSV))
                          obtain ⟨x0, x1, x2, x3, x4⟩ := blk5 hIV.box
                          clear hO hcurV hciV hIV hq hreal
                          have HNXX := Lib.hid hNx
                          clear hNx
                          (try clear hlow; try clear hctb; try clear hctb1; try clear hcp; try clear hrk; try clear hfull; try clear hpr1; try clear hnk1; try clear hnk2; try clear hneg; try clear hcn; try clear hmulp; try clear haddp; try clear hadda; try clear ha0; try clear ha1; try clear hqc; try clear hqi; try clear hzw; try clear zr; try clear hz9; try clear hlt5; try clear hgB; try clear hgS; try clear hgBV; try clear hgSV; try clear hcbd; try clear hcbd1; try clear hyP; try clear hyl; try clear hy; try clear hyb; try clear hvb; try clear hvis; try clear hhan; try clear hpl1; try clear hpl2; try clear hpl3; try clear hpl4; try clear hn4; try clear hn1; try clear h100; try clear hz0; try clear hz1; try clear hz2; try clear hrle1; try clear hrle2; try clear hrl3; try clear hrl4; try clear hiri; try clear hir; try clear hi; try clear HSS; try clear HCC; try clear HRO; try clear HU; try clear HSUM; try clear HROW; try clear HRL; try clear HPR; try clear H2B; try clear HN0; try clear HO0; try clear HKF; try clear HM; try clear HCTS; try clear HCPS; try clear HCR; try clear HNO; try clear HKR; try clear HBR; try clear HTB; try clear HG6; try clear HG1; try clear HB1X)
                          refine wp_region_rg_tail 20 Grows (fun | 16 => .any (intV (tkS x (y : Int))) (fun _ _ _ => True) | _ => .fn) (by kernel_rfl) (by kernel_rfl) Grows.refl growsT (by intro i; split <;> first | trivial | exact fun _ _ _ _ _ _ => trivial) ?_
                          iterate 16 (refine rg_step fun K hK => ?_; apply rg_fn rfl; (intro w4 hw; obtain ⟨⟨x0, x1, x2, x3, x4⟩, y1, z0, z1, z2, z3, z4⟩ := HQ.out w4 hw.undrew; go_simp; try rfl); go_simp; (try with_reducible refine hK _ _ ?_); try clear hK K)
                          refine rg_step fun K hK => ?_
                          apply rg_call_any (.inl rfl) rfl
                          · intro w4 hw
                            go_simp
                            exact ⟨rfl, rfl⟩
                          · intro w4 hw
                            refine (HREAL.out w4 hw.undrew).mono ?_
                            rintro e w5 ⟨⟨r, he, h0, h1⟩, hb⟩
                            exact ⟨_, he, hb, ⟨r, rfl, h0, by omega⟩, trivial⟩
                          rintro v5 ⟨r, rfl, hr0, hr1⟩
                          replace hr1 : r ≤ tkS x (y : Int) := by omega
                          have hsub : IntKind.i64.wrap (min (Ni + cq.add) x.full - r) = min (Ni + cq.add) x.full - r := IntWalk.i64_in _ (by omega)
                          go_simp
                          (try with_reducible refine hK _ _ ?_)
                          try clear hK K
                          iterate 3 (refine rg_step fun K hK => ?_; apply rg_fn rfl; (intro w4 hw; go_simp; try rfl); go_simp; (try with_reducible refine hK _ _ ?_); try clear hK K)
                          refine rg_nil ?_
                          intro w9 hw9 _
                          replace hw9 := hw9.undrew
                          have hO9 := own_below HO8.out hw9 (fun k hk => (own_blk_lt HO8.out k hk).2)
                          have h9g := blk_below hw9 HG.out.1 HG.out.2.2
                          have f9 := frozen_blk h9g i
                          obtain ⟨cur9, hcur9, hci9, _, hgS9⟩ := own_cur hO9 (i := i) (by rw [List.length_set]; exact hiN)
                          have c9g : w9.cell? ⟨g, i, none⟩ = some (.int .i64 (((N.set i (min (Ni + cq.add) x.full))).getD i 0)) := by rw [cell_blk hcur9]; exact hci9
                          have hset9 := own_set hO9 (s := i) (max (min (Ni + cq.add) x.full - r) 0)
                          rw [List.set_set] at hset9
                          obtain ⟨W10, hW10⟩ : ∃ W10, W10 = w9.setCell ⟨g, i, none⟩ (.int .i64 (max (min (Ni + cq.add) x.full - r) 0)) := ⟨_, rfl⟩
                          rw [← hW10] at hset9
                          have hB10 : Below w2.heap.size w2 W10 := by rw [hW10]; exact (HB8.out.trans (hw9.mono zV)).setCell (p := ⟨g, i, none⟩) HG.out.2.1 _
                          have g510 : W10.heap[Wr.heap.size]? = some (.cells #[.int .i64 x.now, .int .i64 x.need, .int .i64 x.full, .int .i64 x.size, .slice kA x.takes.length kc] 55 (0, 0)) := by
                            rw [hW10]
                            exact (Below.heap_setCell _ _ _ _ (fun e => hgb e.symm)).trans (blk_below hw9 G58.out (lt_blk G58.out))
                          have hst9 := HSTEP.out Ni r HNXX.out.1 HNXX.out.2 hr0 hr1
                          have hve : mendC m.crafts (q : Int) Ni x.full = min (Ni + cq.add) x.full := HVE.out
                          rw [hve] at hst9
                          obtain ⟨hs1, hs2, hs3⟩ := hst9
                          have hnok := HSET.out _ hs1 hs2
                          obtain ⟨cur10, hcur10, hci10, _, hgS10⟩ := own_cur hset9 (i := i) (by rw [List.length_set]; exact hiN)
                          rw [getD_set hiN, if_pos rfl] at hci10
                          have hq10 : ∀ W, Grows W10 W → _ := fun W hW => And.intro (show W.cell? ⟨g, i, none⟩ = some (.int .i64 (max (min (Ni + cq.add) x.full - r) 0)) by rw [cell_blk (blk_below hW hcur10 hgS10)]; exact hci10) (blk5 (blk_below hW g510 (lt_blk g510)))
                          have HQ10 := Lib.hid hq10
                          have HW10 := Lib.hid hW10
                          have HB10 := Lib.hid hB10
                          have HS10 := Lib.hid hset9
                          have HNOK := Lib.hid hnok
                          have hnn : decide (max (min (Ni + cq.add) x.full - r) 0 < x.need) = false := by simp; omega
                          have hnn2 : ¬ max (min (Ni + cq.add) x.full - r) 0 < x.need := by omega
                          clear hw9 hO9 h9g hcur9 hci9 hset9 hW10 hB10 g510 hve hs1 hs2 hnok hcur10 hci10 hq10 HQ HREAL
                          simp only [List.drop_succ_cons, List.drop_zero]
                          go_wp2_with fail
                          rw [← HW10.out]
                          refine wp_region_rg Grows (fun _ => .fn) (by kernel_rfl) (by kernel_rfl) Grows.refl growsT (fun _ => trivial) ?_
                          iterate 7 (refine rg_step fun K hK => ?_; apply rg_fn rfl; (intro w4 hw; obtain ⟨y1, z0, z1, z2, z3, z4⟩ := HQ10.out w4 hw.undrew; go_simp; try rfl); go_simp; (try with_reducible refine hK _ _ ?_); try clear hK K)
                          refine rg_nil ?_
                          intro w11 hw11 _
                          replace hw11 := hw11.undrew
                          have HB11 := Lib.hid (HB10.out.trans (hw11.mono HB10.out.size))
                          have HO11 := Lib.hid (own_below HS10.out hw11 (fun k hk => (own_blk_lt HS10.out k hk).2))
                          clear hw11 HQ10 f9 c9g
                          go_wp2_with fail
                          go_round
                          case rel => exact ⟨i + 1, _, by omega, by go_num, by first | rfl | rw [HSUMI.out], by rw [HCNT.out] <;> simp, HNOK, HO11, HB11⟩
                          case measure => simp [intOf]; omega
                      · have HVE : Hid (mendC m.crafts (q : Int) Ni x.full = x.full) := Lib.hid (by rw [HMC2.out]; simp)
                        have hset9 := own_set HO8.out (s := i) x.full
                        rw [List.set_set] at hset9
                        obtain ⟨W9, hW9⟩ : ∃ W9, W9 = W8.setCell ⟨g, i, none⟩ (.int .i64 x.full) := ⟨_, rfl⟩
                        rw [← hW9] at hset9
                        have hB9 : Below w2.heap.size w2 W9 := by rw [hW9]; exact HB8.out.setCell (p := ⟨g, i, none⟩) hgB _
                        have g59 : W9.heap[Wr.heap.size]? = some (.cells #[.int .i64 x.now, .int .i64 x.need, .int .i64 x.full, .int .i64 x.size, .slice kA x.takes.length kc] 55 (0, 0)) := by
                          rw [hW9]
                          exact (Below.heap_setCell _ _ _ _ (fun e => hgb e.symm)).trans G58.out
                        have HW9 := Lib.hid hW9
                        have HB9 := Lib.hid hB9
                        have G59 := Lib.hid g59
                        have HO9 := Lib.hid hset9
                        clear HMC2 hset9 hW9 hB9 g59
                        go_wp2_with fail
                        rw [← HW8.out, ← HW9.out]
                        clear x0 x1 x2 x3 x4 z0 z1 z2 z3 z4 e8 c8 f8 f7 y7
                        as_aux_lemma =>
                          have hO := HO9.out
                          obtain ⟨curV, hcurV, hciV, hgBV, hgSV⟩ := own_cur hO (by rw [List.length_set]; exact hiN)
                          rw [getD_set hiN, if_pos rfl] at hciV
                          have hIV := H2.out.later HB9.out
                          have zV := HB9.out.size
                          have hq : ∀ W, Grows W9 W → _ := fun W hW => And.intro (blk5 (blk_below hW hIV.box (lt_blk hIV.box))) (And.intro (show W.cell? ⟨g, i, none⟩ = some (.int .i64 (x.full)) by rw [cell_blk (blk_below hW hcurV hgSV)]; exact hciV) (blk5 (blk_below hW G59.out (lt_blk G59.out))))
                          have hreal : ∀ W, Grows W9 W → _ := fun W hW => really_calls w.heap.size x kA kc (y : Int) bA bc bs kk W (HKR.out.below (hIV.below.trans (hW.mono hIV.below.size))) (HBR.out.1.below (hIV.below.trans (hW.mono hIV.below.size))) HBR.out.2 (Nat.le_trans hIV.below.size (Below.size hW)) HTB.out.1 HTB.out.2 ⟨hy0, by omega⟩ hyn
                          have HQ := Lib.hid hq
                          have HREAL := Lib.hid hreal
                          have hvb0 : 0 ≤ x.full ∧ x.full ≤ 2000 := by omega
                          have htk0 : 0 ≤ tkS x (y : Int) ∧ tkS x (y : Int) ≤ 500 := by
                            unfold tkS
                            split
                            · omega
                            · rename_i h9
                              unfold takeOf
                              rw [getD_lt (Nat.mod_lt _ (by omega))]
                              exact HTB.out.2 _ (List.getElem_mem _)
                          have HG := Lib.hid (And.intro hcurV (And.intro hgBV hgSV))
                          obtain ⟨x0, x1, x2, x3, x4⟩ := blk5 hIV.box
                          clear hO hcurV hciV hIV hq hreal
                          have HNXX := Lib.hid hNx
                          clear hNx
                          (try clear hlow; try clear hctb; try clear hctb1; try clear hcp; try clear hrk; try clear hfull; try clear hpr1; try clear hnk1; try clear hnk2; try clear hneg; try clear hcn; try clear hmulp; try clear haddp; try clear hadda; try clear ha0; try clear ha1; try clear hqc; try clear hqi; try clear hzw; try clear zr; try clear hz9; try clear hlt5; try clear hgB; try clear hgS; try clear hgBV; try clear hgSV; try clear hcbd; try clear hcbd1; try clear hyP; try clear hyl; try clear hy; try clear hyb; try clear hvb; try clear hvis; try clear hhan; try clear hpl1; try clear hpl2; try clear hpl3; try clear hpl4; try clear hn4; try clear hn1; try clear h100; try clear hz0; try clear hz1; try clear hz2; try clear hrle1; try clear hrle2; try clear hrl3; try clear hrl4; try clear hiri; try clear hir; try clear hi; try clear HSS; try clear HCC; try clear HRO; try clear HU; try clear HSUM; try clear HROW; try clear HRL; try clear HPR; try clear H2B; try clear HN0; try clear HO0; try clear HKF; try clear HM; try clear HCTS; try clear HCPS; try clear HCR; try clear HNO; try clear HKR; try clear HBR; try clear HTB; try clear HG6; try clear HG1; try clear HB1X)
                          refine wp_region_rg_tail 20 Grows (fun | 16 => .any (intV (tkS x (y : Int))) (fun _ _ _ => True) | _ => .fn) (by kernel_rfl) (by kernel_rfl) Grows.refl growsT (by intro i; split <;> first | trivial | exact fun _ _ _ _ _ _ => trivial) ?_
                          iterate 16 (refine rg_step fun K hK => ?_; apply rg_fn rfl; (intro w4 hw; obtain ⟨⟨x0, x1, x2, x3, x4⟩, y1, z0, z1, z2, z3, z4⟩ := HQ.out w4 hw.undrew; go_simp; try rfl); go_simp; (try with_reducible refine hK _ _ ?_); try clear hK K)
                          refine rg_step fun K hK => ?_
                          apply rg_call_any (.inl rfl) rfl
                          · intro w4 hw
                            go_simp
                            exact ⟨rfl, rfl⟩
                          · intro w4 hw
                            refine (HREAL.out w4 hw.undrew).mono ?_
                            rintro e w5 ⟨⟨r, he, h0, h1⟩, hb⟩
                            exact ⟨_, he, hb, ⟨r, rfl, h0, by omega⟩, trivial⟩
                          rintro v5 ⟨r, rfl, hr0, hr1⟩
                          replace hr1 : r ≤ tkS x (y : Int) := by omega
                          have hsub : IntKind.i64.wrap (x.full - r) = x.full - r := IntWalk.i64_in _ (by omega)
                          go_simp
                          (try with_reducible refine hK _ _ ?_)
                          try clear hK K
                          iterate 3 (refine rg_step fun K hK => ?_; apply rg_fn rfl; (intro w4 hw; go_simp; try rfl); go_simp; (try with_reducible refine hK _ _ ?_); try clear hK K)
                          refine rg_nil ?_
                          intro w9 hw9 _
                          replace hw9 := hw9.undrew
                          have hO9 := own_below HO9.out hw9 (fun k hk => (own_blk_lt HO9.out k hk).2)
                          have h9g := blk_below hw9 HG.out.1 HG.out.2.2
                          have f9 := frozen_blk h9g i
                          obtain ⟨cur9, hcur9, hci9, _, hgS9⟩ := own_cur hO9 (i := i) (by rw [List.length_set]; exact hiN)
                          have c9g : w9.cell? ⟨g, i, none⟩ = some (.int .i64 (((N.set i (x.full))).getD i 0)) := by rw [cell_blk hcur9]; exact hci9
                          have hset9 := own_set hO9 (s := i) (max (x.full - r) 0)
                          rw [List.set_set] at hset9
                          obtain ⟨W10, hW10⟩ : ∃ W10, W10 = w9.setCell ⟨g, i, none⟩ (.int .i64 (max (x.full - r) 0)) := ⟨_, rfl⟩
                          rw [← hW10] at hset9
                          have hB10 : Below w2.heap.size w2 W10 := by rw [hW10]; exact (HB9.out.trans (hw9.mono zV)).setCell (p := ⟨g, i, none⟩) HG.out.2.1 _
                          have g510 : W10.heap[Wr.heap.size]? = some (.cells #[.int .i64 x.now, .int .i64 x.need, .int .i64 x.full, .int .i64 x.size, .slice kA x.takes.length kc] 55 (0, 0)) := by
                            rw [hW10]
                            exact (Below.heap_setCell _ _ _ _ (fun e => hgb e.symm)).trans (blk_below hw9 G59.out (lt_blk G59.out))
                          have hst9 := HSTEP.out Ni r HNXX.out.1 HNXX.out.2 hr0 hr1
                          have hve : mendC m.crafts (q : Int) Ni x.full = x.full := HVE.out
                          rw [hve] at hst9
                          obtain ⟨hs1, hs2, hs3⟩ := hst9
                          have hnok := HSET.out _ hs1 hs2
                          obtain ⟨cur10, hcur10, hci10, _, hgS10⟩ := own_cur hset9 (i := i) (by rw [List.length_set]; exact hiN)
                          rw [getD_set hiN, if_pos rfl] at hci10
                          have hq10 : ∀ W, Grows W10 W → _ := fun W hW => And.intro (show W.cell? ⟨g, i, none⟩ = some (.int .i64 (max (x.full - r) 0)) by rw [cell_blk (blk_below hW hcur10 hgS10)]; exact hci10) (blk5 (blk_below hW g510 (lt_blk g510)))
                          have HQ10 := Lib.hid hq10
                          have HW10 := Lib.hid hW10
                          have HB10 := Lib.hid hB10
                          have HS10 := Lib.hid hset9
                          have HNOK := Lib.hid hnok
                          have hnn : decide (max (x.full - r) 0 < x.need) = false := by simp; omega
                          have hnn2 : ¬ max (x.full - r) 0 < x.need := by omega
                          clear hw9 hO9 h9g hcur9 hci9 hset9 hW10 hB10 g510 hve hs1 hs2 hnok hcur10 hci10 hq10 HQ HREAL
                          simp only [List.drop_succ_cons, List.drop_zero]
                          go_wp2_with fail
                          rw [← HW10.out]
                          refine wp_region_rg Grows (fun _ => .fn) (by kernel_rfl) (by kernel_rfl) Grows.refl growsT (fun _ => trivial) ?_
                          iterate 7 (refine rg_step fun K hK => ?_; apply rg_fn rfl; (intro w4 hw; obtain ⟨y1, z0, z1, z2, z3, z4⟩ := HQ10.out w4 hw.undrew; go_simp; try rfl); go_simp; (try with_reducible refine hK _ _ ?_); try clear hK K)
                          refine rg_nil ?_
                          intro w11 hw11 _
                          replace hw11 := hw11.undrew
                          have HB11 := Lib.hid (HB10.out.trans (hw11.mono HB10.out.size))
                          have HO11 := Lib.hid (own_below HS10.out hw11 (fun k hk => (own_blk_lt HS10.out k hk).2))
                          clear hw11 HQ10 f9 c9g
                          go_wp2_with fail
                          go_round
                          case rel => exact ⟨i + 1, _, by omega, by go_num, by first | rfl | rw [HSUMI.out], by rw [HCNT.out] <;> simp, HNOK, HO11, HB11⟩
                          case measure => simp [intOf]; omega
                    · obtain ⟨hTn, hpn⟩ := HNO.out (by omega)
                      have hcts := HCTS.out
                      have hcps := HCPS.out
                      rw [hpn, Int.zero_mul, Int.add_zero] at hcts
                      rw [if_neg (by omega), Nat.add_zero] at hcps
                      have HVE : Hid (mendC m.crafts rk Ni x.full = Ni) := Lib.hid (hTn Ni)
                      have HSUMI : Hid (costPl m P y + costTo m row (i + 1) = costPl m P y + costTo m row i) := Lib.hid (by rw [hcts])
                      have HCNT := Lib.hid hcps
                      have hself : N.set i Ni = N := by
                        have h1 := HNI.out
                        rw [getD_lt hiN] at h1
                        rw [← h1, List.set_getElem_self]
                      have HOV : Hid (W1.ownsRow w2.heap.size 3 1 (.slice (some ⟨g, 0, none⟩) m.slopes.length c9) m.slopes.length ((N.set i Ni).map (Value.int .i64))) := Lib.hid (by rw [hself]; exact HO1.out)
                      clear hTn hpn hcts hcps hself HCR HNO
                      as_aux_lemma =>
                        have hO := HOV.out
                        obtain ⟨curV, hcurV, hciV, hgBV, hgSV⟩ := own_cur hO (by rw [List.length_set]; exact hiN)
                        rw [getD_set hiN, if_pos rfl] at hciV
                        have hIV := H2.out.later HB1.out
                        have zV := HB1.out.size
                        have hq : ∀ W, Grows W1 W → _ := fun W hW => And.intro (blk5 (blk_below hW hIV.box (lt_blk hIV.box))) (And.intro (show W.cell? ⟨g, i, none⟩ = some (.int .i64 (Ni)) by rw [cell_blk (blk_below hW hcurV hgSV)]; exact hciV) (blk5 (blk_below hW G5.out (lt_blk G5.out))))
                        have hreal : ∀ W, Grows W1 W → _ := fun W hW => really_calls w.heap.size x kA kc (y : Int) bA bc bs kk W (HKR.out.below (hIV.below.trans (hW.mono hIV.below.size))) (HBR.out.1.below (hIV.below.trans (hW.mono hIV.below.size))) HBR.out.2 (Nat.le_trans hIV.below.size (Below.size hW)) HTB.out.1 HTB.out.2 ⟨hy0, by omega⟩ hyn
                        have HQ := Lib.hid hq
                        have HREAL := Lib.hid hreal
                        have hvb0 : 0 ≤ Ni ∧ Ni ≤ 2000 := by omega
                        have htk0 : 0 ≤ tkS x (y : Int) ∧ tkS x (y : Int) ≤ 500 := by
                          unfold tkS
                          split
                          · omega
                          · rename_i h9
                            unfold takeOf
                            rw [getD_lt (Nat.mod_lt _ (by omega))]
                            exact HTB.out.2 _ (List.getElem_mem _)
                        have HG := Lib.hid (And.intro hcurV (And.intro hgBV hgSV))
                        obtain ⟨x0, x1, x2, x3, x4⟩ := blk5 hIV.box
                        clear hO hcurV hciV hIV hq hreal
                        go_wp2_with fail
                        have HNXX := Lib.hid hNx
                        clear hNx
                        (try clear hlow; try clear hctb; try clear hctb1; try clear hcp; try clear hrk; try clear hfull; try clear hpr1; try clear hnk1; try clear hnk2; try clear hneg; try clear hcn; try clear hmulp; try clear haddp; try clear hadda; try clear ha0; try clear ha1; try clear hqc; try clear hqi; try clear hzw; try clear zr; try clear hz9; try clear hlt5; try clear hgB; try clear hgS; try clear hgBV; try clear hgSV; try clear hcbd; try clear hcbd1; try clear hyP; try clear hyl; try clear hy; try clear hyb; try clear hvb; try clear hvis; try clear hhan; try clear hpl1; try clear hpl2; try clear hpl3; try clear hpl4; try clear hn4; try clear hn1; try clear h100; try clear hz0; try clear hz1; try clear hz2; try clear hrle1; try clear hrle2; try clear hrl3; try clear hrl4; try clear hiri; try clear hir; try clear hi; try clear HSS; try clear HCC; try clear HRO; try clear HU; try clear HSUM; try clear HROW; try clear HRL; try clear HPR; try clear H2B; try clear HN0; try clear HO0; try clear HKF; try clear HM; try clear HCTS; try clear HCPS; try clear HCR; try clear HNO; try clear HKR; try clear HBR; try clear HTB; try clear HG6; try clear HG1; try clear HB1X)
                        refine wp_region_rg_tail 20 Grows (fun | 16 => .any (intV (tkS x (y : Int))) (fun _ _ _ => True) | _ => .fn) (by kernel_rfl) (by kernel_rfl) Grows.refl growsT (by intro i; split <;> first | trivial | exact fun _ _ _ _ _ _ => trivial) ?_
                        iterate 16 (refine rg_step fun K hK => ?_; apply rg_fn rfl; (intro w4 hw; obtain ⟨⟨x0, x1, x2, x3, x4⟩, y1, z0, z1, z2, z3, z4⟩ := HQ.out w4 hw.undrew; go_simp; try rfl); go_simp; (try with_reducible refine hK _ _ ?_); try clear hK K)
                        refine rg_step fun K hK => ?_
                        apply rg_call_any (.inl rfl) rfl
                        · intro w4 hw
                          go_simp
                          exact ⟨rfl, rfl⟩
                        · intro w4 hw
                          refine (HREAL.out w4 hw.undrew).mono ?_
                          rintro e w5 ⟨⟨r, he, h0, h1⟩, hb⟩
                          exact ⟨_, he, hb, ⟨r, rfl, h0, by omega⟩, trivial⟩
                        rintro v5 ⟨r, rfl, hr0, hr1⟩
                        replace hr1 : r ≤ tkS x (y : Int) := by omega
                        have hsub : IntKind.i64.wrap (Ni - r) = Ni - r := IntWalk.i64_in _ (by omega)
                        go_simp
                        (try with_reducible refine hK _ _ ?_)
                        try clear hK K
                        iterate 3 (refine rg_step fun K hK => ?_; apply rg_fn rfl; (intro w4 hw; go_simp; try rfl); go_simp; (try with_reducible refine hK _ _ ?_); try clear hK K)
                        refine rg_nil ?_
                        intro w9 hw9 _
                        replace hw9 := hw9.undrew
                        have hO9 := own_below HOV.out hw9 (fun k hk => (own_blk_lt HOV.out k hk).2)
                        have h9g := blk_below hw9 HG.out.1 HG.out.2.2
                        have f9 := frozen_blk h9g i
                        obtain ⟨cur9, hcur9, hci9, _, hgS9⟩ := own_cur hO9 (i := i) (by rw [List.length_set]; exact hiN)
                        have c9g : w9.cell? ⟨g, i, none⟩ = some (.int .i64 (((N.set i (Ni))).getD i 0)) := by rw [cell_blk hcur9]; exact hci9
                        have hset9 := own_set hO9 (s := i) (max (Ni - r) 0)
                        rw [List.set_set] at hset9
                        obtain ⟨W10, hW10⟩ : ∃ W10, W10 = w9.setCell ⟨g, i, none⟩ (.int .i64 (max (Ni - r) 0)) := ⟨_, rfl⟩
                        rw [← hW10] at hset9
                        have hB10 : Below w2.heap.size w2 W10 := by rw [hW10]; exact (HB1.out.trans (hw9.mono zV)).setCell (p := ⟨g, i, none⟩) HG.out.2.1 _
                        have g510 : W10.heap[Wr.heap.size]? = some (.cells #[.int .i64 x.now, .int .i64 x.need, .int .i64 x.full, .int .i64 x.size, .slice kA x.takes.length kc] 55 (0, 0)) := by
                          rw [hW10]
                          exact (Below.heap_setCell _ _ _ _ (fun e => hgb e.symm)).trans (blk_below hw9 G5.out (lt_blk G5.out))
                        have hst9 := HSTEP.out Ni r HNXX.out.1 HNXX.out.2 hr0 hr1
                        have hve : mendC m.crafts rk Ni x.full = Ni := HVE.out
                        rw [hve] at hst9
                        obtain ⟨hs1, hs2, hs3⟩ := hst9
                        have hnok := HSET.out _ hs1 hs2
                        obtain ⟨cur10, hcur10, hci10, _, hgS10⟩ := own_cur hset9 (i := i) (by rw [List.length_set]; exact hiN)
                        rw [getD_set hiN, if_pos rfl] at hci10
                        have hq10 : ∀ W, Grows W10 W → _ := fun W hW => And.intro (show W.cell? ⟨g, i, none⟩ = some (.int .i64 (max (Ni - r) 0)) by rw [cell_blk (blk_below hW hcur10 hgS10)]; exact hci10) (blk5 (blk_below hW g510 (lt_blk g510)))
                        have HQ10 := Lib.hid hq10
                        have HW10 := Lib.hid hW10
                        have HB10 := Lib.hid hB10
                        have HS10 := Lib.hid hset9
                        have HNOK := Lib.hid hnok
                        have hnn : decide (max (Ni - r) 0 < x.need) = false := by simp; omega
                        have hnn2 : ¬ max (Ni - r) 0 < x.need := by omega
                        clear hw9 hO9 h9g hcur9 hci9 hset9 hW10 hB10 g510 hve hs1 hs2 hnok hcur10 hci10 hq10 HQ HREAL
                        simp only [List.drop_succ_cons, List.drop_zero]
                        go_wp2_with fail
                        rw [← HW10.out]
                        refine wp_region_rg Grows (fun _ => .fn) (by kernel_rfl) (by kernel_rfl) Grows.refl growsT (fun _ => trivial) ?_
                        iterate 7 (refine rg_step fun K hK => ?_; apply rg_fn rfl; (intro w4 hw; obtain ⟨y1, z0, z1, z2, z3, z4⟩ := HQ10.out w4 hw.undrew; go_simp; try rfl); go_simp; (try with_reducible refine hK _ _ ?_); try clear hK K)
                        refine rg_nil ?_
                        intro w11 hw11 _
                        replace hw11 := hw11.undrew
                        have HB11 := Lib.hid (HB10.out.trans (hw11.mono HB10.out.size))
                        have HO11 := Lib.hid (own_below HS10.out hw11 (fun k hk => (own_blk_lt HS10.out k hk).2))
                        clear hw11 HQ10 f9 c9g
                        go_wp2_with fail
                        go_round
                        case rel => exact ⟨i + 1, _, by omega, by go_num, by first | rfl | rw [HSUMI.out], by rw [HCNT.out] <;> simp, HNOK, HO11, HB11⟩
                        case measure => simp [intOf]; omega
                  · obtain rfl : i = m.slopes.length := by omega
                    have hii : ¬ (m.slopes.length : Int) < (m.slopes.length : Int) := by omega
                    have htake : row.take m.slopes.length = row := List.take_of_length_le hrle1
                    rw [htake]
                    have hcso := costS_of m HRL.out
                    have hsum1 := HSUM.out
                    rw [hcso] at hsum1
                    have hmay := hands_may HRO.out.2
                    have HNX := Lib.hid HN.out.next
                    clear htake hcso
                    generalize (row.countP fun n => decide (0 ≤ n)) = cnt at *
                    have hnh : ¬ (cnt : Int) > m.hands := by omega
                    by_cases hc0 : 0 < cnt
                    · rw [if_pos hc0] at hsum1
                      have hc1 : (cnt : Int) > 0 := by omega
                      have hadd : IntKind.i64.wrap (costPl m P y + costTo m row m.slopes.length + m.visit) = costPl m P (y + 1) := by rw [hsum1, ← Int.add_assoc]; exact IntWalk.i64_in _ (by omega)
                      have HS1 := Lib.hid hsum1
                      clear hsum1
                      go_wp2_with fail
                      go_round
                      case rel => exact ⟨y + 1, N, by omega, by go_num, rfl, HNX, HO, HB⟩
                      case measure => simp [intOf]; omega
                    · rw [if_neg hc0, Int.add_zero] at hsum1
                      have hc1 : ¬ (cnt : Int) > 0 := by omega
                      have HS1 := Lib.hid hsum1
                      clear hsum1
                      go_wp2_with fail
                      go_round
                      case rel => exact ⟨y + 1, N, by omega, by go_num, by rw [HS1.out], HNX, HO, HB⟩
                      case measure => simp [intOf]; omega
              · have hfin := HKF.out.fin y (by omega)
                rw [hfin]
                have hVV : (V == V) = true := by simp
                clear hfin
                go_wp2_with (go_at_call 16; refine (runs_law HI.out).mono ?_; rintro e wr ⟨rfl, hr⟩; have HR := Lib.hid hr; clear hr)
                go_ret
                exact HR.out
      · obtain ⟨hn1, hn2⟩ := cheapS_none hfine
        rw [hn1] at hr2
        rw [hn2]
        obtain ⟨A2, c2, rfl, _, _⟩ := hr2
        generalize (cheapS m).2.2.2 = ce at *
        generalize (cheapS m).2.2.1 = cf at *
        clear hn1 hn2
        by_cases hce : ce = 0
        · have hcf : cf = false := by
            cases cf
            · rfl
            · exact absurd ⟨hce, rfl⟩ hfine
          have he1 : (ce != 0) = false := by simp [hce]
          have he2 : (!(ce == 0)) = false := by simp [hce]
          subst hcf
          clear hce hfine
          go_wp2_with (go_at_call 16; refine (runs_law H2.out).mono ?_; rintro e wr ⟨rfl, hr⟩; have HR := Lib.hid hr; clear hr)
          go_ret
          exact HR.out
        · have he1 : (ce != 0) = true := by simpa using hce
          have he2 : (!(ce == 0)) = true := by simpa using hce
          clear hce hfine
          go_wp2_with (go_at_call 16; refine (runs_law H2.out).mono ?_; rintro e wr ⟨rfl, hr⟩; have HR := Lib.hid hr; clear hr)
          go_ret
          exact HR.out
  · go_wp2_with (go_at_call 16; refine (runs_law H1.out).mono ?_; rintro e wr ⟨rfl, hr⟩; have HR := Lib.hid hr; clear hr)
    go_ret
    exact HR.out
end Go.Proofs.Ytccplobhfokcgaa
