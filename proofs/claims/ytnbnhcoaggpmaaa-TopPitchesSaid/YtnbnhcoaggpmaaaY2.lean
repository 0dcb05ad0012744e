/- Clone, begin, first, all and modelOf. -/
import Derived.Test.YtnbnhcoaggpmaaaMw

/- The small functions of package mend. -/
namespace Go.Proofs.Ytnbnhcoaggpmaaa
open Go Go.RowKit Go.Shelf
set_option maxRecDepth 100000

theorem in_calls (n lo hi : Int) (w : World) :
    Calls Try.prog 50 #[.int .i64 n, .int .i64 lo, .int .i64 hi] w fun e w' => e = .returned (.bool (decide (lo ≤ n) && decide (n ≤ hi))) ∧ w' = w := by
  by_cases h : lo ≤ n
  all_goals
    go_enter Try.func50, Try.ntmps50
    go_wp2
    go_ret
    first | (simp; done) | (simp; omega)

theorem addsMend_calls (a p t f : Int) (w : World) (ht : 0 ≤ t ∧ t ≤ 1000) (ha : 0 ≤ a ∧ a ≤ 1000) :
    Calls Try.prog 111 #[.agg #[.int .i64 a, .int .i64 p], .int .i64 t, .int .i64 f] w fun e w' => e = .returned (.int .i64 (min f (t + a))) ∧ Below w.heap.size w w' := by
  obtain ⟨ht0, ht1⟩ := ht
  obtain ⟨ha0, ha1⟩ := ha
  go_enter Try.func111, Try.ntmps111
  go_wp2
  all_goals
    go_ret
    exact ⟨ret_int (by show _ = min f (t + a); omega), below1 _ _⟩
theorem stripsMend_calls (p t f : Int) (w : World) :
    Calls Try.prog 109 #[.agg #[.int .i64 p], .int .i64 t, .int .i64 f] w fun e w' => e = .returned (.int .i64 f) ∧ Below w.heap.size w w' := by
  go_enter Try.func109, Try.ntmps109
  go_wp2
  go_ret
  exact ⟨rfl, (Below.refl _ _).alloc (Nat.le_refl _) _⟩
theorem noneMend_calls (t f : Int) (w : World) :
    Calls Try.prog 113 #[.agg #[], .int .i64 t, .int .i64 f] w fun e w' => e = .returned (.int .i64 t) ∧ Below w.heap.size w w' := by
  go_enter Try.func113, Try.ntmps113
  go_wp2
  go_ret
  exact ⟨rfl, (Below.refl _ _).alloc (Nat.le_refl _) _⟩
theorem addsPrice_calls (a p : Int) (w : World) :
    Calls Try.prog 112 #[.agg #[.int .i64 a, .int .i64 p]] w fun e w' => e = .returned (.int .i64 p) ∧ Below w.heap.size w w' := by
  go_enter Try.func112, Try.ntmps112
  go_wp2
  go_ret
  exact ⟨rfl, (Below.refl _ _).alloc (Nat.le_refl _) _⟩
theorem stripsPrice_calls (p : Int) (w : World) :
    Calls Try.prog 110 #[.agg #[.int .i64 p]] w fun e w' => e = .returned (.int .i64 p) ∧ Below w.heap.size w w' := by
  go_enter Try.func110, Try.ntmps110
  go_wp2
  go_ret
  exact ⟨rfl, (Below.refl _ _).alloc (Nat.le_refl _) _⟩
theorem nonePrice_calls (w : World) :
    Calls Try.prog 114 #[.agg #[]] w fun e w' => e = .returned (.int .i64 0) ∧ Below w.heap.size w w' := by
  go_enter Try.func114, Try.ntmps114
  go_wp2
  go_ret
  exact ⟨rfl, (Below.refl _ _).alloc (Nat.le_refl _) _⟩

theorem method_adds_price (a p : Int) (w : World) : (method 288 113 (.agg #[.int .i64 a, .int .i64 p]) "thatch/mend.price").run Try.prog w = .ok (112, .agg #[.int .i64 a, .int .i64 p]) w := by kernel_rfl
theorem method_adds_mend (a p : Int) (w : World) : (method 288 113 (.agg #[.int .i64 a, .int .i64 p]) "thatch/mend.mend").run Try.prog w = .ok (111, .agg #[.int .i64 a, .int .i64 p]) w := by kernel_rfl
theorem method_strips_price (p : Int) (w : World) : (method 288 111 (.agg #[.int .i64 p]) "thatch/mend.price").run Try.prog w = .ok (110, .agg #[.int .i64 p]) w := by kernel_rfl
theorem method_strips_mend (p : Int) (w : World) : (method 288 111 (.agg #[.int .i64 p]) "thatch/mend.mend").run Try.prog w = .ok (109, .agg #[.int .i64 p]) w := by kernel_rfl
theorem method_none_price (w : World) : (method 288 145 (.agg #[]) "thatch/mend.price").run Try.prog w = .ok (114, .agg #[]) w := by kernel_rfl
theorem method_none_mend (w : World) : (method 288 145 (.agg #[]) "thatch/mend.mend").run Try.prog w = .ok (113, .agg #[]) w := by kernel_rfl
/-- The craft of a number, as the interface's value. -/
def craftAtV (cs : List Craft) (k : Int) : Value := if k < 0 then .iface 145 (.agg #[]) else craftV (cs.getD k.toNat ⟨0, 0, false⟩)
theorem craft_calls (v0 v1 mc : Value) (y v h : Int) (cs : List Craft) (k : Int) (w : World) (hmc : McAt w w.heap.size mc cs) (h0 : -1 ≤ k) (h1 : k < cs.length) :
    Calls Try.prog 58 #[.agg #[v0, v1, .int .i64 y, .int .i64 v, .int .i64 h, mc], .int .i64 k] w fun e w' => e = .returned (craftAtV cs k) ∧ Below w.heap.size w w' := by
  by_cases hk : k < 0
  · go_enter Try.func58, Try.ntmps58
    go_wp2
    go_ret
    exact ⟨by simp [craftAtV, hk], below1 _ _⟩
  · obtain ⟨j, rfl⟩ := Int.eq_ofNat_of_zero_le (Int.not_lt.1 hk)
    have hj : j < cs.length := by omega
    obtain ⟨A, c, rfl, hr⟩ := hmc
    obtain ⟨b, o, rfl, hb, hc⟩ := hr.at_ j (by simpa using hj)
    have hj2 : j < 9223372036854775807 := by have := hr.1; simp at this; omega
    have hfin : craftAtV cs (j : Int) = craftV (cs[j]'hj) := by simp [craftAtV, hk, List.getD_eq_getElem?_getD, List.getElem?_eq_getElem hj]
    have HF := Lib.hid hfin
    simp only [List.getElem_map] at hc
    clear hr hfin h0
    generalize (cs[j]'hj) = x at *
    generalize hv : craftV x = v at *
    have HV := Lib.hid hv
    have h1c : v.oneCell' = true := by subst hv; unfold craftV; split <;> rfl
    clear hv
    go_enter Try.func58, Try.ntmps58
    go_wp2
    go_ret
    exact ⟨by rw [HF.out]; rfl, below1 _ _⟩
end Go.Proofs.Ytnbnhcoaggpmaaa

/- may, cost and step of package mend. -/
namespace Go.Proofs.Ytnbnhcoaggpmaaa
open Go Go.RowKit Go.Shelf
set_option maxRecDepth 100000

theorem may_calls (m : Wk) (sA cA mA rA : Option Addr) (sc cn cc mc rc : Nat) (row : List Int) (w : World)
    (hr : RowC w w.heap.size rA (row.map (Value.int .i64))) (hm : m.crafts.length ≤ 1000) (hs : m.slopes.length ≤ 1000) :
    Calls Try.prog 57 #[.agg #[.slice sA m.slopes.length sc, .slice cA cn cc, .int .i64 m.years, .int .i64 m.visit, .int .i64 m.hands, .slice mA m.crafts.length mc], .slice rA row.length rc] w
      fun e w' => e = .returned (.bool (mayS m row)) ∧ Below w.heap.size w w' := by
  have hl := hr.1
  simp only [List.length_map] at hl
  have hd : mayS m row = (row.all (fun n => decide (-1 ≤ n) && decide (n ≤ m.crafts.length - 1)) && decide (row.length = m.slopes.length) && decide ((row.countP (fun n => decide (0 ≤ n)) : Int) ≤ m.hands)) := rfl
  have HD := Lib.hid hd; clear hd
  generalize mayS m row = res at *
  generalize m.crafts.length = mn at *
  generalize m.slopes.length = sn at *
  generalize m.years = years at *
  generalize m.visit = visit at *
  generalize m.hands = hands at *
  go_enter Try.func57, Try.ntmps57
  go_wp2_with fail
  go_loop [5, 10] (fun h i => ∃ k : Nat, k ≤ row.length ∧ i = .int .i64 k ∧ (row.take k).all (fun n => decide (-1 ≤ n) && decide (n ≤ mn - 1)) = true ∧ h = .int .i64 ((row.take k).countP (fun n => decide (0 ≤ n)) : Nat)) (fun _ i => row.length - (intOf i).toNat)
  case atStart => exact ⟨0, Nat.zero_le _, rfl, rfl, rfl⟩
  case round =>
    obtain ⟨k, hk, rfl, hall, rfl⟩ := hrel
    by_cases hlt : k < row.length
    · obtain ⟨b, o, rfl, hb, hk1⟩ := hr.at_ k (by simpa using hlt)
      simp only [List.getElem_map] at hk1
      have hts : row.take (k + 1) = row.take k ++ [row[k]] := by rw [List.take_succ_eq_append_getElem hlt]
      have HT := Lib.hid hts; clear hts
      have hcp : (row.take k).countP (fun n => decide (0 ≤ n)) ≤ k := Nat.le_trans List.countP_le_length (by simp; omega)
      clear hr
      have hmem : row[k] ∈ row := List.getElem_mem hlt
      generalize row[k] = x at *
      have HA := Lib.hid hall; clear hall
      have HM := Lib.hid hmem; clear hmem
      go_wp2_with (go_at_call 50; refine (in_calls _ _ _ _).mono ?_; rintro e w' ⟨rfl, rfl⟩)
      · have h1 : (!decide (-1 ≤ x)) = true ∨ (!decide (x ≤ (mn : Int) - 1)) = true := by assumption
        go_ret
        refine ⟨?_, below1 _ _⟩
        rw [HD.out]
        have : row.all (fun n => decide (-1 ≤ n) && decide (n ≤ (mn : Int) - 1)) = false := by
          rw [List.all_eq_false]
          exact ⟨x, HM.out, by simp at h1 ⊢; omega⟩
        simp [this]
      all_goals
        have h1 : (!decide (-1 ≤ x)) = false ∧ (!decide (x ≤ (mn : Int) - 1)) = false := by assumption
        go_round
        case rel => exact ⟨k + 1, by omega, by go_num, by rw [HT.out]; simp [HA.out]; simpa using h1, by rw [HT.out, List.countP_append]; simp [*]⟩
        case measure => simp [intOf]; omega
    · obtain rfl : k = row.length := by omega
      rw [List.take_length] at *
      have HA := Lib.hid hall; clear hall
      generalize hcq : List.countP (fun n => decide (0 ≤ n)) row = cq at *
      have HC := Lib.hid hcq; clear hcq
      by_cases he : row.length = sn
      all_goals
        go_wp2_with fail
        go_ret
        refine ⟨?_, below1 _ _⟩
        rw [HD.out, HA.out]
        simp [he]
end Go.Proofs.Ytnbnhcoaggpmaaa

/- cost and step of package mend. -/
namespace Go.Proofs.Ytnbnhcoaggpmaaa
open Go Go.RowKit Go.Shelf
set_option maxRecDepth 100000

theorem price_cases (cs : List Craft) (k : Int) (h0 : -1 ≤ k) (h1 : k < cs.length) : ∃ T V f, craftAtV cs k = .iface T V ∧
    (∀ w, (method 288 T V "thatch/mend.price").run Try.prog w = .ok (f, V) w) ∧ (∀ args w, (callFunc f args).run Try.prog w = .ok (.enter f args) w) ∧ ∀ w, Calls Try.prog f #[V] w fun e w' => e = .returned (.int .i64 (priceC cs k)) ∧ Below w.heap.size w w' := by
  unfold craftAtV priceC
  by_cases hk : k < 0
  · rw [if_pos hk, if_pos hk]
    exact ⟨145, .agg #[], 114, rfl, method_none_price, enters_of Try.func114 (by kernel_rfl) rfl, nonePrice_calls⟩
  · obtain ⟨j, rfl⟩ := Int.eq_ofNat_of_zero_le (Int.not_lt.1 hk)
    have hj : j < cs.length := by omega
    have hg : cs.getD (j : Int).toNat ⟨0, 0, false⟩ = cs[j] := by simp [List.getD_eq_getElem?_getD, List.getElem?_eq_getElem hj]
    have hq : cs[(j : Int).toNat]? = some cs[j] := by simp [List.getElem?_eq_getElem hj]
    rw [if_neg hk, hg, if_neg hk, hq]
    unfold craftV
    cases hs : cs[j].strip
    · exact ⟨113, .agg #[.int .i64 cs[j].add, .int .i64 cs[j].price], 112, rfl, method_adds_price _ _, enters_of Try.func112 (by kernel_rfl) rfl, addsPrice_calls _ _⟩
    · exact ⟨111, .agg #[.int .i64 cs[j].price], 110, rfl, method_strips_price _, enters_of Try.func110 (by kernel_rfl) rfl, stripsPrice_calls _⟩

theorem priceC_bd {cs : List Craft} (h : ∀ c ∈ cs, CraftOk c) (k : Int) : 0 ≤ priceC cs k ∧ priceC cs k ≤ 10000 := by
  unfold priceC
  split
  · omega
  · split
    · rename_i c hc; exact (h c (List.mem_of_getElem? hc)).price
    · omega
theorem size_bd {m : Wk} (hm : m.Ok) (k : Nat) (hk : k < m.slopes.length) : 1 ≤ m.slopes[k].size ∧ m.slopes[k].size ≤ 1000 := (hm.slopes _ (List.getElem_mem hk)).size
theorem costTo_bd {m : Wk} (hm : m.Ok) (row : List Int) (i : Nat) (hi : i ≤ m.slopes.length) : 0 ≤ costTo m row i ∧ costTo m row i ≤ i * 10000000 := by
  induction i with
  | zero => simp [costTo]
  | succ i ih =>
    obtain ⟨h0, h1⟩ := ih (by omega)
    have hp := priceC_bd hm.craft (row.getD i (-1))
    have hs := size_bd hm i (by omega)
    have hq : m.slopes[i]? = some (m.slopes[i]'(by omega)) := List.getElem?_eq_getElem (by omega)
    simp only [costTo, hq]
    generalize priceC m.crafts (row.getD i (-1)) = p at *
    generalize (m.slopes[i]'(by omega)).size = z at *
    have a1 : 0 ≤ p * z := Int.mul_nonneg hp.1 (by omega)
    have a2 : p * z ≤ 10000 * 1000 := Int.mul_le_mul hp.2 hs.2 (by omega) (by omega)
    omega

def anyTo (row : List Int) (k : Nat) : Bool := (row.take k).any fun k => decide (0 ≤ k)
theorem anyTo_succ (row : List Int) (k : Nat) (hk : k < row.length) : anyTo row (k + 1) = (anyTo row k || decide (0 ≤ row[k])) := by
  unfold anyTo; rw [List.take_succ_eq_append_getElem hk, List.any_append]; simp
theorem costTo_succ (m : Wk) (row : List Int) (k : Nat) (hk : k < row.length) (hs : k < m.slopes.length) : costTo m row (k + 1) = costTo m row k + priceC m.crafts row[k] * m.slopes[k].size := by
  simp [costTo, List.getD_eq_getElem?_getD, List.getElem?_eq_getElem hk, List.getElem?_eq_getElem hs]

theorem cost_calls (m : Wk) (sl v1 mc : Value) (rA : Option Addr) (rc : Nat) (row : List Int) (w : World) (hm : m.Ok) (hrow : RowOk m row)
    (hsl : SlopesAt w w.heap.size sl m.slopes) (hmc : McAt w w.heap.size mc m.crafts) (hr : RowC w w.heap.size rA (row.map (Value.int .i64))) :
    Calls Try.prog 25 #[.agg #[sl, v1, .int .i64 m.years, .int .i64 m.visit, .int .i64 m.hands, mc], .slice rA row.length rc] w
      fun e w' => e = .returned (.int .i64 (costS m row)) ∧ Below w.heap.size w w' := by
  have hl := hr.1
  simp only [List.length_map] at hl
  obtain ⟨sA, sc, rfl, hsl1, hsl2⟩ := hsl
  go_enter Try.func25, Try.ntmps25
  go_wp2_with fail
  go_loopw [5, 6, 11] (fun n any i wr => ∃ k : Nat, k ≤ row.length ∧ i = .int .i64 k ∧ n = .int .i64 (costTo m row k) ∧ any = .bool (anyTo row k) ∧
    Below w.heap.size w wr ∧ wr.heap[w.heap.size]? = some (.cells #[.slice sA m.slopes.length sc, v1, .int .i64 m.years, .int .i64 m.visit, .int .i64 m.hands, mc] 75)) (fun _ _ i _ => row.length - (intOf i).toNat)
  case atStart => exact ⟨0, Nat.zero_le _, rfl, rfl, rfl, below1 _ _, heap_alloc_self _ _⟩
  case round =>
    obtain ⟨k, hk, rfl, rfl, rfl, hbe, hbox⟩ := hrel
    have hB := lt_blk hbox
    obtain ⟨m0, m1, m2, m3, m4, m5⟩ := blk6 hbox
    by_cases hlt : k < row.length
    · obtain ⟨b, o, rfl, hb, hk1⟩ := (hr.below hbe).at_ k (by simpa using hlt)
      simp only [List.getElem_map] at hk1
      obtain ⟨hx0, hx1⟩ := hrow.each _ (List.getElem_mem hlt)
      have hks : k < m.slopes.length := by rw [← hrow.len]; exact hlt
      obtain ⟨bs, os, rfl, hbs, hss⟩ := hsl2 (by intro e; simp [e] at hks)
      obtain ⟨tk, _, _, _, _, hs3, _⟩ := hss k _ (List.getElem?_eq_getElem hks)
      have hs3' : wr.cell? ⟨bs, os + k * 5 + 3, none⟩ = some (.int .i64 m.slopes[k].size) := (hbe.cell (p := ⟨bs, os + k * 5 + 3, none⟩) hbs).trans hs3
      have hcs := costTo_succ m row k hlt hks
      have has := anyTo_succ row k hlt
      have hz := size_bd hm k hks
      have hct := costTo_bd hm row k (by omega)
      have hp := priceC_bd hm.craft row[k]
      have hfew := hm.few
      have hmc' := (hmc.below hbe).mono (Nat.le_of_lt hB)
      have hcr := fun w1 h => craft_calls (.slice (some ⟨bs, os, none⟩) m.slopes.length sc) v1 mc m.years m.visit m.hands m.crafts row[k] w1 h hx0 hx1
      obtain ⟨T, V, g, hv, hme, heg, hpr⟩ := price_cases m.crafts row[k] hx0 hx1
      rw [hv] at hcr
      have HCR := Lib.hid hcr
      have HPR := Lib.hid hpr
      have hb' : b < wr.heap.size := Nat.lt_trans hb hB
      have hbs' : bs < wr.heap.size := Nat.lt_trans hbs hB
      have HB := Lib.hid hbe
      have HCS := Lib.hid hcs
      have HAS := Lib.hid has
      clear hs3 hss hr hsl1 hsl2 hb hbs hcr hpr hbe hcs has hv hrow hmc
      generalize row[k] = x at *
      generalize m.slopes[k].size = z at *
      generalize priceC m.crafts x = p at *
      generalize costTo m row k = ct at *
      have hpz0 : 0 ≤ p * z := Int.mul_nonneg hp.1 (by omega)
      have hpz1 : p * z ≤ 10000 * 1000 := Int.mul_le_mul hp.2 hz.2 (by omega) (by omega)
      have hw1 : IntKind.i64.wrap (p * z) = p * z := IntWalk.i64_in _ (by omega)
      have hw2 : IntKind.i64.wrap (ct + p * z) = ct + p * z := IntWalk.i64_in _ (by omega)
      have HW := Lib.hid (And.intro hw1 hw2)
      clear hw1 hw2 hp hz hpz0 hpz1 hct
      go_wp2_with fail
      refine wp_region_rg (Below wr.heap.size) (fun | 3 => .ex (.iface T V) | 4 => .ex (.int .i64 p) | _ => .fn) (by kernel_rfl) (by kernel_rfl) (Below.refl _) belowR (by intro i; split <;> trivial) ?_
      iterate 3 (refine rg_step fun K hK => ?_; apply rg_fn rfl; (intro w1 hw; have hc := below_cells (undrew hw); go_simp; try rfl); go_simp; refine hK _ _ ?_; clear hK K)
      refine rg_step fun K hK => ?_
      apply rg_call (.inl rfl) rfl
      · intro w1 hw; go_simp; exact ⟨rfl, rfl⟩
      · intro w1 hw
        exact calls_below hw.size (HCR.out _ ((hmc'.below (undrew hw)).mono hw.size))
      go_simp
      refine hK _ _ ?_
      clear hK K
      refine rg_step fun K hK => ?_
      apply rg_call (.inl rfl) rfl
      · intro w1 hw; go_simp; try exact ⟨rfl, rfl⟩
        try rfl
      · intro w1 hw
        exact calls_below hw.size (HPR.out _)
      go_simp
      refine hK _ _ ?_
      clear hK K
      iterate 10 (refine rg_step fun K hK => ?_; apply rg_fn rfl; (intro w1 hw; have hc := below_cells (undrew hw); go_simp; try rfl); go_simp; refine hK _ _ ?_; clear hK K)
      refine rg_nil ?_
      intro w2 hw2 _
      replace hw2 := undrew hw2
      by_cases hx : 0 ≤ x
      all_goals
        generalize hq : anyTo row k = q at *
        have HQ := Lib.hid hq; clear hq
        cases q
        all_goals
          go_wp2
          go_roundw
          case rel => exact ⟨k + 1, by omega, by go_num, by rw [HCS.out, HW.out.1, HW.out.2], by rw [HAS.out]; simp [hx], below_next HB.out (Nat.le_of_lt hB) hw2, blk_below hw2 hbox hB⟩
          case measure => simp [intOf]; omega
    · obtain rfl : k = row.length := by omega
      have hd : costS m row = costTo m row row.length + if anyTo row row.length then m.visit else 0 := by simp [costS, anyTo]
      have hct := costTo_bd hm row row.length (by rw [hrow.len]; exact Nat.le_refl _)
      have HD := Lib.hid hd; clear hd
      have hv := hm.visit
      have hv1 := hv.1
      have hv2 := hv.2
      have hf := hm.few
      have hl2 := hrow.len
      have hw1 : wrap64 (costTo m row row.length + m.visit) = costTo m row row.length + m.visit := IntWalk.wrap64_in _ (by omega)
      have HW := Lib.hid hw1
      clear hw1 hl2 hv hr hmc hsl2 hm hrow
      generalize costTo m row row.length = ct at *
      generalize anyTo row row.length = q at *
      cases q
      all_goals
        go_wp2
        go_ret
        exact ⟨ret_int (by rw [HD.out]; simp [HW.out]), hbe⟩
end Go.Proofs.Ytnbnhcoaggpmaaa

/- step of package mend. -/
namespace Go.Proofs.Ytnbnhcoaggpmaaa
open Go Go.RowKit Go.Shelf
set_option maxRecDepth 100000

theorem mend_cases (cs : List Craft) (hcs : ∀ c ∈ cs, CraftOk c) (k t full : Int) (h0 : -1 ≤ k) (h1 : k < cs.length) (ht : 0 ≤ t ∧ t ≤ 1000) : ∃ T V f, craftAtV cs k = .iface T V ∧
    (∀ w, (method 288 T V "thatch/mend.mend").run Try.prog w = .ok (f, V) w) ∧ (∀ w, (nilAhead 288 T V "thatch/mend.mend").run Try.prog w = .ok (some false) w) ∧ (∀ args w, (callFunc f args).run Try.prog w = .ok (.enter f args) w) ∧ ∀ w, Calls Try.prog f #[V, .int .i64 t, .int .i64 full] w fun e w' => e = .returned (.int .i64 (mendC cs k t full)) ∧ Below w.heap.size w w' := by
  unfold craftAtV mendC
  by_cases hk : k < 0
  · rw [if_pos hk, if_pos hk]
    exact ⟨145, .agg #[], 113, rfl, method_none_mend, (fun _ => by kernel_rfl), enters_of Try.func113 (by kernel_rfl) rfl, noneMend_calls t full⟩
  · obtain ⟨j, rfl⟩ := Int.eq_ofNat_of_zero_le (Int.not_lt.1 hk)
    have hj : j < cs.length := by omega
    have hg : cs.getD (j : Int).toNat ⟨0, 0, false⟩ = cs[j] := by simp [List.getD_eq_getElem?_getD, List.getElem?_eq_getElem hj]
    have hq : cs[(j : Int).toNat]? = some cs[j] := by simp [List.getElem?_eq_getElem hj]
    have hok := hcs _ (List.getElem_mem hj)
    rw [if_neg hk, hg, if_neg hk, hq]
    unfold craftV
    cases hs : cs[j].strip
    · exact ⟨113, .agg #[.int .i64 cs[j].add, .int .i64 cs[j].price], 111, rfl, method_adds_mend _ _, (fun _ => by kernel_rfl), enters_of Try.func111 (by kernel_rfl) rfl, by simpa [hs] using fun w => addsMend_calls cs[j].add cs[j].price t full w ht hok.add⟩
    · exact ⟨111, .agg #[.int .i64 cs[j].price], 109, rfl, method_strips_mend _, (fun _ => by kernel_rfl), enters_of Try.func109 (by kernel_rfl) rfl, by simpa [hs] using stripsMend_calls cs[j].price t full⟩

theorem mendC_bd {cs : List Craft} (hcs : ∀ c ∈ cs, CraftOk c) (k t full : Int) (ht : 0 ≤ t ∧ t ≤ 1000) (hf : 1 ≤ full ∧ full ≤ 1000) : 0 ≤ mendC cs k t full ∧ mendC cs k t full ≤ 1000 := by
  unfold mendC
  split
  · exact ht
  · split
    · rename_i c hc
      have := (hcs c (List.mem_of_getElem? hc)).add
      split <;> omega
    · exact ht
/-- Four numbers in a state's cells. -/
def curS (m : Wk) (s : St) (row : List Int) (k j : Nat) : Int := if j < k then upd m.crafts m.slopes row s.y j (s.get j) else s.get j
theorem curS_self (m : Wk) (s : St) (row : List Int) (k : Nat) : curS m s row k k = s.get k := by simp [curS]
theorem curS_end (m : Wk) (s : St) (row : List Int) (j : Nat) : curS m s row m.slopes.length j = upd m.crafts m.slopes row s.y j (s.get j) := by
  unfold curS
  split
  · rfl
  · rename_i h
    simp [upd, List.getElem?_eq_none (Nat.le_of_not_lt h)]
theorem max_ite (a b : Int) : max 0 (a - b) = if b < a then a - b else 0 := by split <;> omega
theorem set_box (m : Wk) (s : St) (row : List Int) (k : Nat) (hk : k < 4) (y : Value) :
    (#[y, .int .i64 (curS m s row k 0), .int .i64 (curS m s row k 1), .int .i64 (curS m s row k 2), .int .i64 (curS m s row k 3)] : Array Value).setIfInBounds (1 + k) (.int .i64 (upd m.crafts m.slopes row s.y k (s.get k))) =
    #[y, .int .i64 (curS m s row (k + 1) 0), .int .i64 (curS m s row (k + 1) 1), .int .i64 (curS m s row (k + 1) 2), .int .i64 (curS m s row (k + 1) 3)] := by
  match k, hk with
  | 0, _ => simp [curS]
  | 1, _ => simp [curS]
  | 2, _ => simp [curS]
  | 3, _ => simp [curS]
theorem box_at (m : Wk) (s : St) (row : List Int) (k : Nat) (hk : k < 4) (y : Value) :
    (#[y, .int .i64 (curS m s row k 0), .int .i64 (curS m s row k 1), .int .i64 (curS m s row k 2), .int .i64 (curS m s row k 3)] : Array Value)[1 + k]? = some (.int .i64 (s.get k)) := by
  match k, hk with
  | 0, _ => simp [curS]
  | 1, _ => simp [curS]
  | 2, _ => simp [curS]
  | 3, _ => simp [curS]
def keptTo (m : Wk) (s : St) (row : List Int) (k : Nat) : Bool := (List.range k).all (keptAt m s row)
theorem keptTo_succ (m : Wk) (s : St) (row : List Int) (k : Nat) (hk : k < m.slopes.length) (hr : k < row.length) :
    keptTo m s row (k + 1) = (keptTo m s row k && decide (m.slopes[k].need ≤ leftS m.crafts m.slopes[k] s.y row[k] (s.get k))) := by
  simp [keptTo, List.range_succ, keptAt, List.getElem?_eq_getElem hk, List.getD_eq_getElem?_getD, List.getElem?_eq_getElem hr]
theorem heap_set {w : World} {b : Nat} {cs : Array Value} {t : TypeId} (h : w.heap[b]? = some (.cells cs t (0, 0))) (i : Nat) (v : Value) : (w.setCell ⟨b, i, none⟩ v).heap[b]? = some (.cells (cs.setIfInBounds i v) t (0, 0)) := by
  simp [World.setCell, Array.getElem?_modify, h]

set_option maxHeartbeats 2000000 in
theorem step_calls (m : Wk) (s : St) (v1 sl mc : Value) (rA : Option Addr) (rc : Nat) (row : List Int) (w : World) (hm : m.Ok) (hs : s.Ok m) (hrow : RowOk m row)
    (hsl : SlopesAt w w.heap.size sl m.slopes) (hmc : McAt w w.heap.size mc m.crafts) (hr : RowC w w.heap.size rA (row.map (Value.int .i64))) :
    Calls Try.prog 24 #[.agg #[sl, v1, .int .i64 m.years, .int .i64 m.visit, .int .i64 m.hands, mc], .agg #[.int .i64 s.y, .int .i64 s.a, .int .i64 s.b, .int .i64 s.c, .int .i64 s.d], .slice rA row.length rc] w
      fun e w' => e = .returned (.tuple #[.agg #[.int .i64 (stepS m s row).y, .int .i64 (stepS m s row).a, .int .i64 (stepS m s row).b, .int .i64 (stepS m s row).c, .int .i64 (stepS m s row).d], .bool (keptS m s row)]) ∧ Below w.heap.size w w' := by
  have hl := hr.1
  simp only [List.length_map] at hl
  obtain ⟨sA, sc, rfl, hsl1, hsl2⟩ := hsl
  go_enter Try.func24, Try.ntmps24
  go_wp2_with fail
  go_loopw [8, 16] (fun kept i wr => ∃ k : Nat, k ≤ m.slopes.length ∧ i = .int .i64 k ∧ kept = .bool (keptTo m s row k) ∧
    Below w.heap.size w wr ∧ wr.heap[w.heap.size]? = some (.cells #[.slice sA m.slopes.length sc, v1, .int .i64 m.years, .int .i64 m.visit, .int .i64 m.hands, mc] 75) ∧
    wr.heap[w.heap.size + 1]? = some (.cells #[.int .i64 s.y, .int .i64 (curS m s row k 0), .int .i64 (curS m s row k 1), .int .i64 (curS m s row k 2), .int .i64 (curS m s row k 3)] 79) ∧
    wr.heap[w.heap.size + 1 + 1]? = some (.cells #[.int .i64 0, .int .i64 0, .int .i64 0, .int .i64 0, .int .i64 0] 79)) (fun _ i _ => m.slopes.length - (intOf i).toNat)
  case atStart =>
    refine ⟨0, Nat.zero_le _, rfl, rfl, ?_, ?_, ?_, ?_⟩
    · exact ((below1 _ _).alloc (by simp) _).alloc (by simp; omega) _
    · exact (Below.heap_alloc _ _ _ (by simp; omega)).trans ((Below.heap_alloc _ _ _ (by simp)).trans (heap_alloc_self _ _))
    · exact (Below.heap_alloc _ _ _ (by simp)).trans (by simpa [curS, St.get] using heap_alloc_self (w.alloc _) _)
    · simpa using heap_alloc_self ((w.alloc _).alloc _) _
  case round =>
    obtain ⟨k, hk, rfl, rfl, hbe, hbox, hst, hres⟩ := hrel
    have hB := lt_blk hres
    obtain ⟨m0, m1, m2, m3, m4, m5⟩ := blk6 hbox
    by_cases hlt : k < m.slopes.length
    · have hrl : k < row.length := by rw [hrow.len]; exact hlt
      obtain ⟨b, o, rfl, hb, hk1⟩ := (hr.below hbe).at_ k (by simpa using hrl)
      simp only [List.getElem_map] at hk1
      obtain ⟨hx0, hx1⟩ := hrow.each _ (List.getElem_mem hrl)
      obtain ⟨bs, os, rfl, hbs, hss⟩ := hsl2 (by intro e; simp [e] at hlt)
      obtain ⟨tk, ⟨tA, tc, rfl, htr⟩, s0, s1, s2, s3, s4⟩ := hss k _ (List.getElem?_eq_getElem hlt)
      have kk : ∀ j, wr.cell? ⟨bs, j, none⟩ = w.cell? ⟨bs, j, none⟩ := fun j => hbe.cell (p := ⟨bs, j, none⟩) hbs
      rw [← kk] at s0 s1 s2 s3 s4
      have hk4 : k < 4 := by have := hm.few; omega
      have hk4i : (k : Int) < 4 := by omega
      have hx := hrow.each _ (List.getElem_mem hrl)
      have hsk := hs.get k
      have hcr := fun w1 h => craft_calls (.slice (some ⟨bs, os, none⟩) m.slopes.length sc) v1 mc m.years m.visit m.hands m.crafts row[k] w1 h hx0 hx1
      obtain ⟨T, V, g, hv, hme, hna, heg, hpr⟩ := mend_cases m.crafts hm.craft row[k] (s.get k) m.slopes[k].full hx0 hx1 hsk
      rw [hv] at hcr
      have HCR := Lib.hid hcr
      have HPR := Lib.hid hpr
      have hmc' := (hmc.below hbe).mono (show w.heap.size ≤ wr.heap.size by omega)
      have htr' := htr.below hbe
      have HBE := Lib.hid hbe
      have hsc := (cell_blk hst (1 + k)).trans (box_at m s row k hk4 _)
      obtain ⟨t0, _⟩ := blk5 hst
      have hks := keptTo_succ m s row k hlt hrl
      have HKS := Lib.hid hks
      have HX := Lib.hid hx
      have HSK := Lib.hid hsk
      clear kk hss hcr hpr hks hv hx hsk hbe
      have hmd : m.crafts = m.crafts := rfl
      clear hmd
      generalize hmv : mendC m.crafts row[k] (s.get k) m.slopes[k].full = mv at *
      have HMV := Lib.hid hmv
      clear hmv
      go_wp2_with fail
      have hwa1 := below1 wr (.cells #[.int .i64 m.slopes[k].now, .int .i64 m.slopes[k].need, .int .i64 m.slopes[k].full, .int .i64 m.slopes[k].size, .slice tA m.slopes[k].takes.length tc] 43)
      have hwa2 := heap_alloc_self wr (.cells #[.int .i64 m.slopes[k].now, .int .i64 m.slopes[k].need, .int .i64 m.slopes[k].full, .int .i64 m.slopes[k].size, .slice tA m.slopes[k].takes.length tc] 43)
      generalize wr.alloc (.cells #[.int .i64 m.slopes[k].now, .int .i64 m.slopes[k].need, .int .i64 m.slopes[k].full, .int .i64 m.slopes[k].size, .slice tA m.slopes[k].takes.length tc] 43) = wa at *
      obtain ⟨x0, x1, x2, x3, x4⟩ := blk5 hwa2
      have hA := lt_blk hwa2
      have ka := below_cells hwa1
      rw [← ka _ _ (by omega)] at m0 m1 m2 m3 m4 m5 hk1 hsc t0
      have hb' : b < wa.heap.size := by omega
      have hB0 : w.heap.size < wa.heap.size := by omega
      have hB1 : w.heap.size + 1 < wa.heap.size := by omega
      clear ka
      refine wp_region_rg (Below wa.heap.size) (fun | 5 => .ex (.iface T V) | 15 => .ex (.int .i64 mv) | _ => .fn) (by kernel_rfl) (by kernel_rfl) (Below.refl _) belowR (by intro i; split <;> trivial) ?_
      iterate 5 (refine rg_step fun K hK => ?_; apply rg_fn rfl; (intro w1 hw; have hc := below_cells (undrew hw); go_simp; try rfl); go_simp; refine hK _ _ ?_; clear hK K)
      refine rg_step fun K hK => ?_
      apply rg_call (.inl rfl) rfl
      · intro w1 hw; go_simp; exact ⟨rfl, rfl⟩
      · intro w1 hw
        exact calls_below hw.size (HCR.out _ (((hmc'.below hwa1).mono (Nat.le_of_lt hA)).below (undrew hw) |>.mono hw.size))
      go_simp
      refine hK _ _ ?_
      clear hK K
      iterate 9 (refine rg_step fun K hK => ?_; apply rg_fn rfl; (intro w1 hw; have hc := below_cells (undrew hw); go_simp; try rfl); go_simp; refine hK _ _ ?_; clear hK K)
      refine rg_step fun K hK => ?_
      apply rg_call (.inl rfl) rfl
      · intro w1 hw; go_simp; exact ⟨rfl, rfl⟩
      · intro w1 hw
        exact calls_below hw.size (HPR.out _)
      go_simp
      refine hK _ _ ?_
      clear hK K
      iterate 1 (refine rg_step fun K hK => ?_; apply rg_fn rfl; (intro w1 hw; have hc := below_cells (undrew hw); go_simp; try rfl); go_simp; refine hK _ _ ?_; clear hK K)
      refine rg_nil ?_
      intro w2 hw2 _
      replace hw2 := undrew hw2
      have hy := hs.year
      have hy0 := hy.1
      have hmvb : -1000 ≤ mv ∧ mv ≤ 2000 := by rw [← HMV.out]; have h := mendC_bd hm.craft row[k] (s.get k) m.slopes[k].full HSK.out ((hm.slopes _ (List.getElem_mem hlt)).full); omega
      have hmv0 := hmvb.1
      have hmv1 := hmvb.2
      have fin : ∀ w3 : World, Below wa.heap.size wa w3 → Below w.heap.size w (w3.setCell ⟨w.heap.size + 1, 1 + k, none⟩ (.int .i64 (leftS m.crafts m.slopes[k] s.y row[k] (s.get k)))) ∧
          (w3.setCell ⟨w.heap.size + 1, 1 + k, none⟩ (.int .i64 (leftS m.crafts m.slopes[k] s.y row[k] (s.get k)))).heap[w.heap.size]? = some (.cells #[.slice (some ⟨bs, os, none⟩) m.slopes.length sc, v1, .int .i64 m.years, .int .i64 m.visit, .int .i64 m.hands, mc] 75) ∧
          (w3.setCell ⟨w.heap.size + 1, 1 + k, none⟩ (.int .i64 (leftS m.crafts m.slopes[k] s.y row[k] (s.get k)))).heap[w.heap.size + 1]? = some (.cells #[.int .i64 s.y, .int .i64 (curS m s row (k + 1) 0), .int .i64 (curS m s row (k + 1) 1), .int .i64 (curS m s row (k + 1) 2), .int .i64 (curS m s row (k + 1) 3)] 79) ∧
          (w3.setCell ⟨w.heap.size + 1, 1 + k, none⟩ (.int .i64 (leftS m.crafts m.slopes[k] s.y row[k] (s.get k)))).heap[w.heap.size + 1 + 1]? = some (.cells #[.int .i64 0, .int .i64 0, .int .i64 0, .int .i64 0, .int .i64 0] 79) := by
        intro w3 hw3
        have hk3 : ∀ i o, wr.heap[i]? = some o → w3.heap[i]? = some o := fun i o h => blk_below hw3 (blk_below hwa1 h (lt_blk h)) (Nat.lt_trans (lt_blk h) hA)
        have hu : upd m.crafts m.slopes row s.y k (s.get k) = leftS m.crafts m.slopes[k] s.y row[k] (s.get k) := by
          simp [upd, List.getElem?_eq_getElem hlt, List.getD_eq_getElem?_getD, List.getElem?_eq_getElem hrl]
        refine ⟨?_, ?_, ?_, ?_⟩
        · exact (below_next (below_next HBE.out (by omega) hwa1) (by omega) hw3).setCell (p := ⟨w.heap.size + 1, 1 + k, none⟩) (by simp) _
        · exact (Below.heap_setCell _ _ _ _ (by simp)).trans (hk3 _ _ hbox)
        · rw [← hu, heap_set (hk3 _ _ hst) (1 + k), set_box m s row k hk4]
        · exact (Below.heap_setCell _ _ _ _ (by simp)).trans (hk3 _ _ hres)
      have FIN := Lib.hid fin; clear fin
      have c2 := below_cells hw2
      have hf2 : w2.frozen? ⟨w.heap.size + 1, 1 + k, none⟩ = false := frozen_blk (blk_below hw2 (blk_below hwa1 hst (by omega)) hB1) _
      have hc2 : w2.cell? ⟨w.heap.size + 1, 1 + k, none⟩ = some (.int .i64 (s.get k)) := (c2 _ _ hB1).trans hsc
      rw [← c2 _ _ (by omega)] at x0 x1 x2 x3 x4 t0
      have HW2 := Lib.hid hw2
      have hbx := blk_below hw2 hwa2 hA
      have HWA := Lib.hid hwa1
      clear hw2 c2 hsc hbox hst hres hwa1 hwa2
      by_cases htz : m.slopes[k].takes.length = 0
      · have htz' : (m.slopes[k].takes.length : Int) ≤ 0 := by omega
        have hlf : leftS m.crafts m.slopes[k] s.y row[k] (s.get k) = mv := by unfold leftS; rw [if_pos htz]; exact HMV.out
        generalize hq : keptTo m s row k = q at *
        have HLF := Lib.hid hlf; clear hlf
        clear hq
        cases q
        all_goals
          go_wp2_with fail
          go_roundw
          case rel => exact ⟨k + 1, by omega, by go_num, by rw [HKS.out, HLF.out]; simp, by have h := FIN.out _ HW2.out; rw [HLF.out] at h; exact h⟩
          case measure => simp [intOf]; omega
      · obtain ⟨yn, hyn⟩ := Int.eq_ofNat_of_zero_le hs.year.1
        have htp : 0 < m.slopes[k].takes.length := by omega
        have htp' : (0 : Int) < (m.slopes[k].takes.length : Int) := by omega
        have htl := (hm.slopes _ (List.getElem_mem hlt)).len
        obtain ⟨bt, ot, rfl, hbt, htc⟩ := htr'.at_ (yn % m.slopes[k].takes.length) (by simpa using Nat.mod_lt _ htp)
        have hbt2 : bt < w2.heap.size := by have := HW2.out.size; omega
        have htc2 := (HW2.out.cell (p := ⟨bt, ot + yn % m.slopes[k].takes.length, none⟩) (by show bt < _; omega)).trans ((HWA.out.cell (p := ⟨bt, ot + yn % m.slopes[k].takes.length, none⟩) (by show bt < _; omega)).trans htc)
        simp only [List.getElem_map] at htc2
        have htk := (hm.slopes _ (List.getElem_mem hlt)).takes _ (List.getElem_mem (Nat.mod_lt yn htp))
        have hto : takeOf m.slopes[k] s.y = m.slopes[k].takes[yn % m.slopes[k].takes.length]'(Nat.mod_lt yn htp) := by
          simp [takeOf, hyn, List.getD_eq_getElem?_getD, List.getElem?_eq_getElem (Nat.mod_lt yn htp)]
        have hlf : leftS m.crafts m.slopes[k] s.y row[k] (s.get k) = max 0 (mv - m.slopes[k].takes[yn % m.slopes[k].takes.length]'(Nat.mod_lt yn htp)) := by
          unfold leftS; rw [if_neg htz, HMV.out, hto]
        generalize m.slopes[k].takes[yn % m.slopes[k].takes.length]'(Nat.mod_lt yn htp) = z at *
        generalize hq : keptTo m s row k = q at *
        have HLF := Lib.hid hlf; clear hlf
        clear hq hto htc hbt htr'
        rw [hyn] at t0
        have HY := Lib.hid hyn; clear hyn hs
        go_wp2_with fail
        have hmj : (yn : Int).tmod (m.slopes[k].takes.length : Int) = ((yn % m.slopes[k].takes.length : Nat) : Int) := by rw [Int.tmod_eq_emod_of_nonneg (by omega)]; simp
        have hmd1 : yn % m.slopes[k].takes.length < m.slopes[k].takes.length := Nat.mod_lt _ htp
        generalize yn % m.slopes[k].takes.length = j at *
        have hmd2 : (j : Int) < (m.slopes[k].takes.length : Int) := by omega
        have hW0 : wr.heap.size < w2.heap.size := lt_blk hbx
        have hW1 : w.heap.size + 1 < w2.heap.size := by omega
        have hz0 := htk.1
        have hz1 := htk.2
        have hsub : IntKind.i64.wrap (mv - z) = mv - z := IntWalk.i64_in _ (by omega)
        refine wp_region_rg (Below w2.heap.size) (fun _ => .fn) (by kernel_rfl) (by kernel_rfl) (Below.refl _) belowR (fun _ => trivial) ?_
        iterate 14 (refine rg_step fun K hK => ?_; apply rg_fn rfl; (intro w1 hw; have hc := below_cells (undrew hw); go_simp; try rfl); go_simp; refine hK _ _ ?_; clear hK K)
        refine rg_nil ?_
        intro w3 hw3 _
        replace hw3 := undrew hw3
        have c3 := below_cells hw3
        rw [← c3 _ _ (by omega)] at x1 hc2
        have hf3 : w3.frozen? ⟨w.heap.size + 1, 1 + k, none⟩ = false := (hw3.frozen (p := ⟨w.heap.size + 1, 1 + k, none⟩) hW1).trans hf2
        have HW3 := Lib.hid (below_next HW2.out (by have := HW2.out.size; omega) hw3)
        clear hw3 c3 hf2
        generalize hn : (if 0 < mv - z then mv - z else 0) = n at *
        cases q
        all_goals
          go_wp2_with fail
          go_roundw
          case rel => exact ⟨k + 1, by omega, by go_num, by rw [HKS.out, HLF.out]; simp [max_ite], by have h := FIN.out _ HW3.out; rw [HLF.out, max_ite] at h; exact h⟩
          case measure => simp [intOf]; omega
    · obtain rfl : k = m.slopes.length := by omega
      have hyb := hs.year
      have hy0 := hyb.1
      have hy1 := hyb.2
      have e0 : (stepS m s row).y = s.y + 1 := rfl
      have e1 := curS_end m s row 0
      have e2 := curS_end m s row 1
      have e3 := curS_end m s row 2
      have e4 := curS_end m s row 3
      rw [e1, e2, e3, e4] at hst
      have E0 := Lib.hid e0
      have ek : keptTo m s row m.slopes.length = keptS m s row := rfl
      rw [ek] at *
      have HBE := Lib.hid hbe
      obtain ⟨t0, t1, t2, t3, t4⟩ := blk5 hst
      obtain ⟨r0, r1, r2, r3, r4⟩ := blk5 hres
      have hfs := frozen_blk hst
      have hfr := frozen_blk hres
      clear hbe e0 e1 e2 e3 e4 ek hmc hr hrow hsl2 hm
      go_wp2_with fail
      refine bodyPost_ret (v := .tuple #[.agg #[.int .i64 (stepS m s row).y, .int .i64 (stepS m s row).a, .int .i64 (stepS m s row).b, .int .i64 (stepS m s row).c, .int .i64 (stepS m s row).d], .bool (keptS m s row)]) ?_ rfl ⟨rfl, ?_⟩
      · have h1 := (Below.heap_setCell wr ⟨w.heap.size + 1, 0, none⟩ (.int .i64 (s.y + 1)) (w.heap.size + 1 + 1) (by simp)).trans hres
        have h6 := heap_set (heap_set (heap_set (heap_set (heap_set h1 0 (.int .i64 (s.y + 1))) 1 (.int .i64 (upd m.crafts m.slopes row s.y 0 (s.get 0)))) 2 (.int .i64 (upd m.crafts m.slopes row s.y 1 (s.get 1)))) 3 (.int .i64 (upd m.crafts m.slopes row s.y 2 (s.get 2)))) 4 (.int .i64 (upd m.crafts m.slopes row s.y 3 (s.get 3)))
        simp only [List.setIfInBounds_toArray, List.set_cons_zero, List.set_cons_succ] at h6
        generalize World.setCell _ _ (Value.int IntKind.i64 (upd m.crafts m.slopes row s.y 3 (s.get 3))) = W at *
        obtain ⟨r0, r1, r2, r3, r4⟩ := blk5 h6
        simp [results, Try.results24, go_sem, r0, r1, r2, r3, r4, stepS, St.get]
      · exact (((((HBE.out.setCell (by simp) _).setCell (by simp; omega) _).setCell (by simp; omega) _).setCell (by simp; omega) _).setCell (by simp; omega) _).setCell (by simp; omega) _
end Go.Proofs.Ytnbnhcoaggpmaaa

namespace Go.Proofs.Ytnbnhcoaggpmaaa
open Go Go.RowKit Go.Shelf
set_option maxRecDepth 100000

theorem infoInt : (Try.prog.info? 3).map (fun i => (i.zero, i.size, i.bytes)) = some (some (.int .i64 0), 1, 8) := by kernel_rfl

theorem clone_calls (v : Value) (xs : List Int) (w : World) (n0 : Nat) (hv : IntsAt w n0 v xs) (hxs : xs.length ≤ 1000000) :
    Calls Try.prog 26 #[v] w fun e w' => ∃ v', e = .returned v' ∧ w'.ownsRow w.heap.size 3 1 v' xs.length (xs.map (Value.int .i64)) ∧ Below w.heap.size w w' := by
  obtain ⟨A, c, rfl, hl, hr⟩ := hv
  cases A with
  | none =>
    have hx : xs = [] := by
      cases xs with
      | nil => rfl
      | cons x xs => obtain ⟨b, o, e, _⟩ := hr (by simp); cases e
    subst hx
    have heq := fun w' => Lib.run_eql_slice_nil (P := Try.prog) w' 41 3 none 0 c 0 0 Try.underlying41
    go_enter Try.func26, Try.ntmps26
    go_wp2
    go_ret
    exact ⟨_, rfl, ⟨rfl, .inl ⟨rfl, rfl⟩⟩, Below.refl _ _⟩
  | some ad =>
    have heq := fun w' => Lib.run_eql_slice_nil (P := Try.prog) w' 41 3 (some ad) xs.length c 0 0 Try.underlying41
    obtain ⟨i0, hi, hz0, hz1, hz2⟩ := info_parts infoInt
    go_enter Try.func26, Try.ntmps26
    have hown : (w.alloc (.cells #[] 3)).ownsRow w.heap.size 3 1 (.slice (some ⟨w.heap.size, 0, none⟩) 0 0) 0 [] :=
      ⟨rfl, .inr ⟨w.heap.size, 0, #[], rfl, Nat.le_refl _, heap_alloc_self _ _, Nat.le_refl _, by simp [maxLen], rfl, rfl⟩⟩
    simp only [List.length_map] at hl
    have hnews : ∀ j u, (xs.map (Value.int .i64))[j]? = some u → (w.alloc (.cells #[] 3)).cell? (ad.add j) = some u := by
      intro j u hu
      obtain ⟨b, o, e, hlt, hc⟩ := hr (by intro e; simp [e] at hu)
      cases e
      have h1 := hc j u hu
      rw [show (⟨b, o, none⟩ : Addr).add j = ⟨b, o + j, none⟩ by unfold Addr.add; split <;> simp_all]
      exact ((below1 w (.cells #[] 3)).cell (p := ⟨b, o + j, none⟩) (World.block_lt_of_cell? w _ h1)).trans h1
    have HN := Lib.hid hnews
    clear hr hnews
    go_wp2_with (at_builtin; (refine wpList_append_own _ rfl _ _ 41 rfl w.heap.size 3 i0 (.int .i64 0) 1 8 Try.underlying41 hi hz0 hz1 hz2 rfl (by decide) _ 0 [] rfl hown ad xs.length c (xs.map (Value.int .i64)) rfl (by simp) HN.out (by simp [Value.oneCell']) (by simp only [maxLen]; omega) (by omega) (by simp) ?_); intro v' w1 hown' hg _)
    go_ret
    refine ⟨v', rfl, by simpa using hown', (below1 w (.cells #[] 3)).grown hg (by simp) (fun k hk => by cases hk; exact Nat.le_refl _)⟩

/-- The thicknesses of a state, as many as there are slopes. -/
def thicks (m : Wk) (s : St) : List Int := (List.range m.slopes.length).map s.get
end Go.Proofs.Ytnbnhcoaggpmaaa
