/- cost and step of package mend. -/
import Derived.Test.YtccplobhfokcgaaMb
namespace Go.Proofs.Ytccplobhfokcgaa
open Go Go.RowKit Go.Shelf
set_option maxRecDepth 100000

theorem price_cases (cs : List Craft) (k : Int) (h0 : -1 ≤ k) (h1 : k < cs.length) : ∃ T V f, craftAtV cs k = .iface T V ∧
    (∀ w, (method 277 T V "thatch/mend.price").run Try.prog w = .ok (f, V) w) ∧ (∀ args w, (callFunc f args).run Try.prog w = .ok (.enter f args) w) ∧ ∀ w, Calls Try.prog f #[V] w fun e w' => e = .returned (.int .i64 (priceC cs k)) ∧ Below w.heap.size w w' := by
  unfold craftAtV priceC
  by_cases hk : k < 0
  · rw [if_pos hk, if_pos hk]
    exact ⟨129, .agg #[], 116, rfl, method_none_price, enters_of Try.func116 (by kernel_rfl) rfl, nonePrice_calls⟩
  · obtain ⟨j, rfl⟩ := Int.eq_ofNat_of_zero_le (Int.not_lt.1 hk)
    have hj : j < cs.length := by omega
    have hg : cs.getD (j : Int).toNat ⟨0, 0, false⟩ = cs[j] := by simp [List.getD_eq_getElem?_getD, List.getElem?_eq_getElem hj]
    have hq : cs[(j : Int).toNat]? = some cs[j] := by simp [List.getElem?_eq_getElem hj]
    rw [if_neg hk, hg, if_neg hk, hq]
    unfold craftV
    cases hs : cs[j].strip
    · exact ⟨113, .agg #[.int .i64 cs[j].add, .int .i64 cs[j].price], 114, rfl, method_adds_price _ _, enters_of Try.func114 (by kernel_rfl) rfl, addsPrice_calls _ _⟩
    · exact ⟨111, .agg #[.int .i64 cs[j].price], 112, rfl, method_strips_price _, enters_of Try.func112 (by kernel_rfl) rfl, stripsPrice_calls _⟩

theorem priceC_bd {cs : List Craft} (h : ∀ c ∈ cs, CraftOk c) (k : Int) : 0 ≤ priceC cs k ∧ priceC cs k ≤ 10000 := by
  unfold priceC
  split
  · omega
  · split
    · rename_i c hc; exact (h c (List.mem_of_getElem? hc)).price
    · omega
theorem size_bd {m : Wk} (hm : m.Ok) (k : Nat) (hk : k < m.slopes.length) : 1 ≤ m.slopes[k].size ∧ m.slopes[k].size ≤ 1000 := (hm.slopes _ (List.getElem_mem hk)).size
theorem costTo_bd {m : Wk} (hm : m.Ok) (row : List Int) (i : Nat) (hi : i ≤ m.slopes.length) : 0 ≤ costTo m row i ∧ costTo m row i ≤ i * 10000000 := by
  induction i with
  | zero => simp [costTo]
  | succ i ih =>
    obtain ⟨h0, h1⟩ := ih (by omega)
    have hp := priceC_bd hm.craft (row.getD i (-1))
    have hs := size_bd hm i (by omega)
    have hq : m.slopes[i]? = some (m.slopes[i]'(by omega)) := List.getElem?_eq_getElem (by omega)
    simp only [costTo, hq]
    generalize priceC m.crafts (row.getD i (-1)) = p at *
    generalize (m.slopes[i]'(by omega)).size = z at *
    have a1 : 0 ≤ p * z := Int.mul_nonneg hp.1 (by omega)
    have a2 : p * z ≤ 10000 * 1000 := Int.mul_le_mul hp.2 hs.2 (by omega) (by omega)
    omega

def anyTo (row : List Int) (k : Nat) : Bool := (row.take k).any fun k => decide (0 ≤ k)
theorem anyTo_succ (row : List Int) (k : Nat) (hk : k < row.length) : anyTo row (k + 1) = (anyTo row k || decide (0 ≤ row[k])) := by
  unfold anyTo; rw [List.take_succ_eq_append_getElem hk, List.any_append]; simp
theorem costTo_succ (m : Wk) (row : List Int) (k : Nat) (hk : k < row.length) (hs : k < m.slopes.length) : costTo m row (k + 1) = costTo m row k + priceC m.crafts row[k] * m.slopes[k].size := by
  simp [costTo, List.getD_eq_getElem?_getD, List.getElem?_eq_getElem hk, List.getElem?_eq_getElem hs]

theorem cost_calls (m : Wk) (sl v1 mc : Value) (rA : Option Addr) (rc : Nat) (row : List Int) (w : World) (hm : m.Ok) (hrow : RowOk m row)
    (hsl : SlopesAt w w.heap.size sl m.slopes) (hmc : McAt w w.heap.size mc m.crafts) (hr : RowC w w.heap.size rA (row.map (Value.int .i64))) :
    Calls Try.prog 44 #[.agg #[sl, v1, .int .i64 m.years, .int .i64 m.visit, .int .i64 m.hands, mc], .slice rA row.length rc] w
      fun e w' => e = .returned (.int .i64 (costS m row)) ∧ Below w.heap.size w w' := by
  have hl := hr.1
  simp only [List.length_map] at hl
  obtain ⟨sA, sc, rfl, hsl1, hsl2⟩ := hsl
  go_enter Try.func44, Try.ntmps44
  go_wp2_with fail
  go_loopw [5, 6, 11] (fun n any i wr => ∃ k : Nat, k ≤ row.length ∧ i = .int .i64 k ∧ n = .int .i64 (costTo m row k) ∧ any = .bool (anyTo row k) ∧
    Below w.heap.size w wr ∧ wr.heap[w.heap.size]? = some (.cells #[.slice sA m.slopes.length sc, v1, .int .i64 m.years, .int .i64 m.visit, .int .i64 m.hands, mc] 74)) (fun _ _ i _ => row.length - (intOf i).toNat)
  case atStart => exact ⟨0, Nat.zero_le _, rfl, rfl, rfl, below1 _ _, heap_alloc_self _ _⟩
  case round =>
    obtain ⟨k, hk, rfl, rfl, rfl, hbe, hbox⟩ := hrel
    have hB := lt_blk hbox
    obtain ⟨m0, m1, m2, m3, m4, m5⟩ := blk6 hbox
    by_cases hlt : k < row.length
    · obtain ⟨b, o, rfl, hb, hk1⟩ := (hr.below hbe).at_ k (by simpa using hlt)
      simp only [List.getElem_map] at hk1
      obtain ⟨hx0, hx1⟩ := hrow.each _ (List.getElem_mem hlt)
      have hks : k < m.slopes.length := by rw [← hrow.len]; exact hlt
      obtain ⟨bs, os, rfl, hbs, hss⟩ := hsl2 (by intro e; simp [e] at hks)
      obtain ⟨tk, _, _, _, _, hs3, _⟩ := hss k _ (List.getElem?_eq_getElem hks)
      have hs3' : wr.cell? ⟨bs, os + k * 5 + 3, none⟩ = some (.int .i64 m.slopes[k].size) := (hbe.cell (p := ⟨bs, os + k * 5 + 3, none⟩) hbs).trans hs3
      have hcs := costTo_succ m row k hlt hks
      have has := anyTo_succ row k hlt
      have hz := size_bd hm k hks
      have hct := costTo_bd hm row k (by omega)
      have hp := priceC_bd hm.craft row[k]
      have hfew := hm.few
      have hmc' := (hmc.below hbe).mono (Nat.le_of_lt hB)
      have hcr := fun w1 h => craft_calls (.slice (some ⟨bs, os, none⟩) m.slopes.length sc) v1 mc m.years m.visit m.hands m.crafts row[k] w1 h hx0 hx1
      obtain ⟨T, V, g, hv, hme, heg, hpr⟩ := price_cases m.crafts row[k] hx0 hx1
      rw [hv] at hcr
      have HCR := Lib.hid hcr
      have HPR := Lib.hid hpr
      have hb' : b < wr.heap.size := Nat.lt_trans hb hB
      have hbs' : bs < wr.heap.size := Nat.lt_trans hbs hB
      have HB := Lib.hid hbe
      have HCS := Lib.hid hcs
      have HAS := Lib.hid has
      clear hs3 hss hr hsl1 hsl2 hb hbs hcr hpr hbe hcs has hv hrow hmc
      generalize row[k] = x at *
      generalize m.slopes[k].size = z at *
      generalize priceC m.crafts x = p at *
      generalize costTo m row k = ct at *
      have hpz0 : 0 ≤ p * z := Int.mul_nonneg hp.1 (by omega)
      have hpz1 : p * z ≤ 10000 * 1000 := Int.mul_le_mul hp.2 hz.2 (by omega) (by omega)
      have hw1 : IntKind.i64.wrap (p * z) = p * z := IntWalk.i64_in _ (by omega)
      have hw2 : IntKind.i64.wrap (ct + p * z) = ct + p * z := IntWalk.i64_in _ (by omega)
      have HW := Lib.hid (And.intro hw1 hw2)
      clear hw1 hw2 hp hz hpz0 hpz1 hct
      go_wp2_with fail
      refine wp_region_rg (Below wr.heap.size) (fun | 3 => .ex (.iface T V) | 4 => .ex (.int .i64 p) | _ => .fn) (by kernel_rfl) (by kernel_rfl) (Below.refl _) belowR (by intro i; split <;> trivial) ?_
      iterate 3 (refine rg_step fun K hK => ?_; apply rg_fn rfl; (intro w1 hw; have hc := below_cells (undrew hw); go_simp; try rfl); go_simp; refine hK _ _ ?_; clear hK K)
      refine rg_step fun K hK => ?_
      apply rg_call (.inl rfl) rfl
      · intro w1 hw; go_simp; exact ⟨rfl, rfl⟩
      · intro w1 hw
        exact calls_below hw.size (HCR.out _ ((hmc'.below (undrew hw)).mono hw.size))
      go_simp
      refine hK _ _ ?_
      clear hK K
      refine rg_step fun K hK => ?_
      apply rg_call (.inl rfl) rfl
      · intro w1 hw; go_simp; try exact ⟨rfl, rfl⟩
        try rfl
      · intro w1 hw
        exact calls_below hw.size (HPR.out _)
      go_simp
      refine hK _ _ ?_
      clear hK K
      iterate 10 (refine rg_step fun K hK => ?_; apply rg_fn rfl; (intro w1 hw; have hc := below_cells (undrew hw); go_simp; try rfl); go_simp; refine hK _ _ ?_; clear hK K)
      refine rg_nil ?_
      intro w2 hw2 _
      replace hw2 := undrew hw2
      by_cases hx : 0 ≤ x
      all_goals
        generalize hq : anyTo row k = q at *
        have HQ := Lib.hid hq; clear hq
        cases q
        all_goals
          go_wp2
          go_roundw
          case rel => exact ⟨k + 1, by omega, by go_num, by rw [HCS.out, HW.out.1, HW.out.2], by rw [HAS.out]; simp [hx], below_next HB.out (Nat.le_of_lt hB) hw2, blk_below hw2 hbox hB⟩
          case measure => simp [intOf]; omega
    · obtain rfl : k = row.length := by omega
      have hd : costS m row = costTo m row row.length + if anyTo row row.length then m.visit else 0 := by simp [costS, anyTo]
      have hct := costTo_bd hm row row.length (by rw [hrow.len]; exact Nat.le_refl _)
      have HD := Lib.hid hd; clear hd
      have hv := hm.visit
      have hv1 := hv.1
      have hv2 := hv.2
      have hf := hm.few
      have hl2 := hrow.len
      have hw1 : wrap64 (costTo m row row.length + m.visit) = costTo m row row.length + m.visit := IntWalk.wrap64_in _ (by omega)
      have HW := Lib.hid hw1
      clear hw1 hl2 hv hr hmc hsl2 hm hrow
      generalize costTo m row row.length = ct at *
      generalize anyTo row row.length = q at *
      cases q
      all_goals
        go_wp2
        go_ret
        exact ⟨ret_int (by rw [HD.out]; simp [HW.out]), hbe⟩
end Go.Proofs.Ytccplobhfokcgaa
