/- Roofs: what two edges share, an opening's box, names. -/
import Derived.Test.YtnbnhcoaggpmaaaJc
import Derived.Test.YtnbnhcoaggpmaaaJx

namespace Go.Proofs.Ytnbnhcoaggpmaaa
open Go Go.RowKit Go.Shelf
set_option maxRecDepth 100000
attribute [local go_sem] Oper.semAt_some

def AtsP (w : World) (e : Ending) (w' : World) : Prop := ∃ v ps, e = .returned v ∧ AtsAt w' w'.heap.size v ps ∧ Below w.heap.size w w'
theorem share_calls (a b c d a' b' c' d' : Int) (w : World) : Calls Try.prog 14 #[.agg #[.int .i64 a, .int .i64 b, .int .i64 c, .int .i64 d], .agg #[.int .i64 a', .int .i64 b', .int .i64 c', .int .i64 d']] w (BoolP w) := by
  obtain ⟨W, hW⟩ : ∃ W, W = (w.alloc (.cells #[.int .i64 a, .int .i64 b, .int .i64 c, .int .i64 d] 65)).alloc (.cells #[.int .i64 a', .int .i64 b', .int .i64 c', .int .i64 d'] 65) := ⟨_, rfl⟩
  have hb : Below w.heap.size w W := by rw [hW]; exact two_allocs _ _ _
  have hg0 : W.heap[w.heap.size]? = some (.cells #[.int .i64 a, .int .i64 b, .int .i64 c, .int .i64 d] 65 (0, 0)) := by
    rw [hW]
    exact blk_below (below1 _ _) (heap_alloc_self _ _) (by simp)
  have hg1 : W.heap[w.heap.size + 1]? = some (.cells #[.int .i64 a', .int .i64 b', .int .i64 c', .int .i64 d'] 65 (0, 0)) := by rw [hW]; exact heap_alloc_two _ _ _
  have hq : ∀ w4, Grows W w4 → (w4.cell? ⟨w.heap.size, 0, none⟩ = some (.int .i64 a) ∧ w4.cell? ⟨w.heap.size, 1, none⟩ = some (.int .i64 b) ∧ w4.cell? ⟨w.heap.size, 2, none⟩ = some (.int .i64 c) ∧ w4.cell? ⟨w.heap.size, 3, none⟩ = some (.int .i64 d)) ∧
      w4.cell? ⟨w.heap.size + 1, 0, none⟩ = some (.int .i64 a') ∧ w4.cell? ⟨w.heap.size + 1, 1, none⟩ = some (.int .i64 b') ∧ w4.cell? ⟨w.heap.size + 1, 2, none⟩ = some (.int .i64 c') ∧ w4.cell? ⟨w.heap.size + 1, 3, none⟩ = some (.int .i64 d') := fun w4 hw => by
    have h0 := blk_below hw hg0 (lt_blk hg0)
    have h1 := blk_below hw hg1 (lt_blk hg1)
    exact ⟨⟨by rw [cell_blk h0]; rfl, by rw [cell_blk h0]; rfl, by rw [cell_blk h0]; rfl, by rw [cell_blk h0]; rfl⟩, by rw [cell_blk h1]; rfl, by rw [cell_blk h1]; rfl, by rw [cell_blk h1]; rfl, by rw [cell_blk h1]; rfl⟩
  have HQ := Lib.hid hq
  have HB := Lib.hid hb
  have HRF := Lib.hid (Grows.refl W)
  clear hq hb hg0 hg1
  obtain ⟨⟨x0, x1, x2, x3⟩, y0, y1, y2, y3⟩ := HQ.out W (Grows.refl _)
  rw [hW] at x0 x1 x2 x3 y0 y1 y2 y3
  go_enter Try.func14, Try.ntmps14
  go_wp2_with fail
  rw [← hW]
  clear x0 x1 x2 x3 y0 y1 y2 y3 hW
  refine (of_calls _ _ _ _ _ _ W).mono ?_
  rintro e W1 ⟨⟨n1, rfl⟩, hb1⟩
  have HM1 := Lib.hid (hb1 : Below W.heap.size W W1)
  clear hb1
  go_wp2_with fail
  refine (flat_calls _ W1).mono ?_
  rintro e W2 ⟨⟨q, rfl⟩, hb2⟩
  have HM2 := Lib.hid (HM1.out.trans (hb2.mono HM1.out.size))
  clear hb2
  obtain ⟨⟨x0, x1, x2, x3⟩, y0, y1, y2, y3⟩ := HQ.out W2 HM2.out
  cases q
  · go_wp2_with fail
    go_ret
    exact ⟨⟨_, rfl⟩, HB.out.trans (HM2.out.mono HB.out.size)⟩
  · go_wp2_with fail
    clear x0 x1 x2 x3 y0 y1 y2 y3
    refine (of_calls _ _ _ _ _ _ W2).mono ?_
    rintro e W3 ⟨⟨n3, rfl⟩, hb3⟩
    have HM3 := Lib.hid (HM2.out.trans (hb3.mono HM2.out.size))
    clear hb3
    go_wp2_with fail
    refine (flat_calls _ W3).mono ?_
    rintro e W4 ⟨⟨q, rfl⟩, hb4⟩
    have HM4 := Lib.hid (HM3.out.trans (hb4.mono HM3.out.size))
    clear hb4
    cases q
    · go_wp2_with fail
      go_ret
      exact ⟨⟨_, rfl⟩, HB.out.trans (HM4.out.mono HB.out.size)⟩
    · go_wp2_with fail
      refine wp_region_rg Grows (fun | 1 => .any atV (fun _ _ _ => True) | 7 => .any atV (fun _ _ _ => True) | 8 => .any intW (fun _ _ _ => True) | 10 => .any atV (fun _ _ _ => True) | 16 => .any atV (fun _ _ _ => True) | 17 => .any intW (fun _ _ _ => True) | _ => .fn) (by kernel_rfl) (by kernel_rfl) Grows.refl growsT (by intro i; split <;> first | trivial | exact fun _ _ _ _ _ _ => trivial) ?_
      iterate 1 (refine rg_step fun K hK => ?_; apply rg_fn rfl; (intro w4 hw; obtain ⟨⟨x0, x1, x2, x3⟩, y0, y1, y2, y3⟩ := HQ.out w4 (HM4.out.trans (hw.undrew.mono HM4.out.size)); go_simp; try rfl); go_simp; (try with_reducible refine hK _ _ ?_); try clear hK K)
      refine rg_step fun K hK => ?_
      apply rg_call_any (.inl rfl) rfl
      · intro w4 hw
        go_simp
        exact ⟨rfl, rfl⟩
      · intro w4 hw
        refine (way_calls _ _ _ _ w4).mono ?_
        rintro e w5 ⟨⟨u1, v1, rfl⟩, hb⟩
        exact ⟨_, rfl, hb, ⟨u1, v1, rfl⟩, trivial⟩
      rintro v5 ⟨u1, v1, rfl⟩
      go_simp
      (try with_reducible refine hK _ _ ?_)
      try clear hK K
      iterate 5 (refine rg_step fun K hK => ?_; apply rg_fn rfl; (intro w4 hw; obtain ⟨⟨x0, x1, x2, x3⟩, y0, y1, y2, y3⟩ := HQ.out w4 (HM4.out.trans (hw.undrew.mono HM4.out.size)); go_simp; try rfl); go_simp; (try with_reducible refine hK _ _ ?_); try clear hK K)
      refine rg_step fun K hK => ?_
      apply rg_call_any (.inl rfl) rfl
      · intro w4 hw
        go_simp
        exact ⟨rfl, rfl⟩
      · intro w4 hw
        refine (way_calls _ _ _ _ w4).mono ?_
        rintro e w5 ⟨⟨u2, v2, rfl⟩, hb⟩
        exact ⟨_, rfl, hb, ⟨u2, v2, rfl⟩, trivial⟩
      rintro v5 ⟨u2, v2, rfl⟩
      go_simp
      (try with_reducible refine hK _ _ ?_)
      try clear hK K
      refine rg_step fun K hK => ?_
      apply rg_call_any (.inl rfl) rfl
      · intro w4 hw
        go_simp
        exact ⟨rfl, rfl⟩
      · intro w4 hw
        refine (dot_calls _ _ _ _ w4).mono ?_
        rintro e w5 ⟨⟨n5, rfl⟩, hb⟩
        exact ⟨_, rfl, hb, ⟨n5, rfl⟩, trivial⟩
      rintro v5 ⟨n5, rfl⟩
      go_simp
      (try with_reducible refine hK _ _ ?_)
      try clear hK K
      iterate 1 (refine rg_step fun K hK => ?_; apply rg_fn rfl; (intro w4 hw; obtain ⟨⟨x0, x1, x2, x3⟩, y0, y1, y2, y3⟩ := HQ.out w4 (HM4.out.trans (hw.undrew.mono HM4.out.size)); go_simp; try rfl); go_simp; (try with_reducible refine hK _ _ ?_); try clear hK K)
      refine rg_step fun K hK => ?_
      apply rg_call_any (.inl rfl) rfl
      · intro w4 hw
        go_simp
        exact ⟨rfl, rfl⟩
      · intro w4 hw
        refine (way_calls _ _ _ _ w4).mono ?_
        rintro e w5 ⟨⟨u3, v3, rfl⟩, hb⟩
        exact ⟨_, rfl, hb, ⟨u3, v3, rfl⟩, trivial⟩
      rintro v5 ⟨u3, v3, rfl⟩
      go_simp
      (try with_reducible refine hK _ _ ?_)
      try clear hK K
      iterate 5 (refine rg_step fun K hK => ?_; apply rg_fn rfl; (intro w4 hw; obtain ⟨⟨x0, x1, x2, x3⟩, y0, y1, y2, y3⟩ := HQ.out w4 (HM4.out.trans (hw.undrew.mono HM4.out.size)); go_simp; try rfl); go_simp; (try with_reducible refine hK _ _ ?_); try clear hK K)
      refine rg_step fun K hK => ?_
      apply rg_call_any (.inl rfl) rfl
      · intro w4 hw
        go_simp
        exact ⟨rfl, rfl⟩
      · intro w4 hw
        refine (way_calls _ _ _ _ w4).mono ?_
        rintro e w5 ⟨⟨u4, v4, rfl⟩, hb⟩
        exact ⟨_, rfl, hb, ⟨u4, v4, rfl⟩, trivial⟩
      rintro v5 ⟨u4, v4, rfl⟩
      go_simp
      (try with_reducible refine hK _ _ ?_)
      try clear hK K
      refine rg_step fun K hK => ?_
      apply rg_call_any (.inl rfl) rfl
      · intro w4 hw
        go_simp
        exact ⟨rfl, rfl⟩
      · intro w4 hw
        refine (dot_calls _ _ _ _ w4).mono ?_
        rintro e w5 ⟨⟨n6, rfl⟩, hb⟩
        exact ⟨_, rfl, hb, ⟨n6, rfl⟩, trivial⟩
      rintro v5 ⟨n6, rfl⟩
      go_simp
      (try with_reducible refine hK _ _ ?_)
      try clear hK K
      iterate 2 (refine rg_step fun K hK => ?_; apply rg_fn rfl; (intro w4 hw; go_simp; try rfl); go_simp; (try with_reducible refine hK _ _ ?_); try clear hK K)
      refine rg_nil ?_
      intro W5 hw5 _
      replace hw5 := hw5.undrew
      have HM5 := Lib.hid (HM4.out.trans (Below.mono hw5 HM4.out.size))
      clear hw5
      go_wp2_with fail
      refine wp_region_rg Grows (fun | 5 => .any atV (fun _ _ _ => True) | 7 => .any atV (fun _ _ _ => True) | 8 => .any intW (fun _ _ _ => True) | _ => .fn) (by kernel_rfl) (by kernel_rfl) Grows.refl growsT (by intro i; split <;> first | trivial | exact fun _ _ _ _ _ _ => trivial) ?_
      iterate 5 (refine rg_step fun K hK => ?_; apply rg_fn rfl; (intro w4 hw; obtain ⟨⟨x0, x1, x2, x3⟩, y0, y1, y2, y3⟩ := HQ.out w4 (HM5.out.trans (hw.undrew.mono HM5.out.size)); go_simp; try rfl); go_simp; (try with_reducible refine hK _ _ ?_); try clear hK K)
      refine rg_step fun K hK => ?_
      apply rg_call_any (.inl rfl) rfl
      · intro w4 hw
        go_simp
        exact ⟨rfl, rfl⟩
      · intro w4 hw
        refine (way_calls _ _ _ _ w4).mono ?_
        rintro e w5 ⟨⟨u1', v1', rfl⟩, hb⟩
        exact ⟨_, rfl, hb, ⟨u1', v1', rfl⟩, trivial⟩
      rintro v5 ⟨u1', v1', rfl⟩
      go_simp
      (try with_reducible refine hK _ _ ?_)
      try clear hK K
      iterate 1 (refine rg_step fun K hK => ?_; apply rg_fn rfl; (intro w4 hw; obtain ⟨⟨x0, x1, x2, x3⟩, y0, y1, y2, y3⟩ := HQ.out w4 (HM5.out.trans (hw.undrew.mono HM5.out.size)); go_simp; try rfl); go_simp; (try with_reducible refine hK _ _ ?_); try clear hK K)
      refine rg_step fun K hK => ?_
      apply rg_call_any (.inl rfl) rfl
      · intro w4 hw
        go_simp
        exact ⟨rfl, rfl⟩
      · intro w4 hw
        refine (way_calls _ _ _ _ w4).mono ?_
        rintro e w5 ⟨⟨u2', v2', rfl⟩, hb⟩
        exact ⟨_, rfl, hb, ⟨u2', v2', rfl⟩, trivial⟩
      rintro v5 ⟨u2', v2', rfl⟩
      go_simp
      (try with_reducible refine hK _ _ ?_)
      try clear hK K
      refine rg_step fun K hK => ?_
      apply rg_call_any (.inl rfl) rfl
      · intro w4 hw
        go_simp
        exact ⟨rfl, rfl⟩
      · intro w4 hw
        refine (dot_calls _ _ _ _ w4).mono ?_
        rintro e w5 ⟨⟨n7, rfl⟩, hb⟩
        exact ⟨_, rfl, hb, ⟨n7, rfl⟩, trivial⟩
      rintro v5 ⟨n7, rfl⟩
      go_simp
      (try with_reducible refine hK _ _ ?_)
      try clear hK K
      iterate 6 (refine rg_step fun K hK => ?_; apply rg_fn rfl; (intro w4 hw; go_simp; try rfl); go_simp; (try with_reducible refine hK _ _ ?_); try clear hK K)
      refine rg_nil ?_
      intro W6 hw6 _
      replace hw6 := hw6.undrew
      have HM6 := Lib.hid (HM5.out.trans (Below.mono hw6 HM5.out.size))
      clear hw6
      go_wp2_with fail
      go_ret
      exact ⟨⟨_, rfl⟩, HB.out.trans (HM6.out.mono HB.out.size)⟩
theorem box_calls (s : ByteArray) (f lx ly hx hy : Int) (w : World) : Calls Try.prog 38 #[.agg #[.string s, .int .i64 f, .int .i64 lx, .int .i64 ly, .int .i64 hx, .int .i64 hy]] w (AtsP w) := by
  go_enter Try.func38, Try.ntmps38
  go_wp2_with fail
  go_ret
  refine ⟨_, [(lx, ly), (hx, ly), (hx, hy), (lx, hy)], rfl, ⟨_, _, rfl, by simp, by simp, fun _ => ⟨w.heap.size + 1, 0, rfl, by simp, fun i p hp => ?_⟩⟩, two_allocs _ _ _⟩
  have hc := heap_alloc_two w (.cells #[.string s, .int .i64 f, .int .i64 lx, .int .i64 ly, .int .i64 hx, .int .i64 hy] 57) (.cells #[.int .i64 lx, .int .i64 ly, .int .i64 hx, .int .i64 ly, .int .i64 hx, .int .i64 hy, .int .i64 lx, .int .i64 hy] 55)
  match i, hp with
  | 0, hp => obtain rfl := Option.some.inj hp; exact ⟨by rw [cell_blk hc]; rfl, by rw [cell_blk hc]; rfl⟩
  | 1, hp => obtain rfl := Option.some.inj hp; exact ⟨by rw [cell_blk hc]; rfl, by rw [cell_blk hc]; rfl⟩
  | 2, hp => obtain rfl := Option.some.inj hp; exact ⟨by rw [cell_blk hc]; rfl, by rw [cell_blk hc]; rfl⟩
  | 3, hp => obtain rfl := Option.some.inj hp; exact ⟨by rw [cell_blk hc]; rfl, by rw [cell_blk hc]; rfl⟩
  | n + 4, hp => simp at hp
/-- No rune of a name. -/
def offName (x : Nat) : Bool := if 97 ≤ x ∧ x ≤ 122 then false else if 48 ≤ x ∧ x ≤ 57 then false else if x = 45 then false else true
theorem offName_calls (x : Nat) (w : World) : Calls Try.prog 60 #[.int .i32 (x : Int)] w fun e w' => e = .returned (.bool (offName x)) ∧ w' = w := by
  go_enter Try.func60, Try.ntmps60
  by_cases h1 : (x : Int) ≥ 97
  · by_cases h2 : (x : Int) ≤ 122
    · have he : offName x = false := by unfold offName; rw [if_pos (by omega)]
      rw [he]
      go_wp2_with fail
      go_ret
      exact ⟨rfl, rfl⟩
    · have he : offName x = true := by unfold offName; rw [if_neg (by omega), if_neg (by omega), if_neg (by omega)]
      have h4 : (x : Int) ≥ 48 := by omega
      have h5 : ¬ (x : Int) ≤ 57 := by omega
      have h6 : ((x : Int) == 45) = false := by rw [beq_eq_false_iff_ne]; omega
      rw [he]
      go_wp2_with fail
      go_ret
      exact ⟨rfl, rfl⟩
  · by_cases h4 : (x : Int) ≥ 48
    · by_cases h5 : (x : Int) ≤ 57
      · have he : offName x = false := by unfold offName; rw [if_neg (by omega), if_pos (by omega)]
        rw [he]
        go_wp2_with fail
        go_ret
        exact ⟨rfl, rfl⟩
      · have he : offName x = true := by unfold offName; rw [if_neg (by omega), if_neg (by omega), if_neg (by omega)]
        have h6 : ((x : Int) == 45) = false := by rw [beq_eq_false_iff_ne]; omega
        rw [he]
        go_wp2_with fail
        go_ret
        exact ⟨rfl, rfl⟩
    · by_cases h6 : ((x : Int) == 45) = true
      · have h7 : (x : Int) = 45 := by simpa using h6
        have he : offName x = false := by unfold offName; rw [if_neg (by omega), if_neg (by omega), if_pos (by omega)]
        rw [he]
        clear h7
        go_wp2_with fail
        go_ret
        exact ⟨rfl, rfl⟩
      · have h7 : ¬ (x : Int) = 45 := by simpa using h6
        have he : offName x = true := by unfold offName; rw [if_neg (by omega), if_neg (by omega), if_neg (by omega)]
        have h8 : ((x : Int) == 45) = false := by simpa using h6
        rw [he]
        clear h7 h6
        go_wp2_with fail
        go_ret
        exact ⟨rfl, rfl⟩
theorem isName_calls (s : ByteArray) (w : World) : Calls Try.prog 27 #[.string s] w (BoolP w) := by
  have hcf := Try.strings_ContainsFunc_grows 60 #[] (fun args w => by go_simp) offName s w (fun W x _ _ => by
    refine (offName_calls x W).mono ?_
    rintro e w' ⟨he, rfl⟩
    exact ⟨he, Below.refl _ _⟩)
  have HCF := Lib.hid hcf
  have hst := ByteArray.toList_eq s
  clear hcf
  go_enter Try.func27, Try.ntmps27
  by_cases h0 : s.size = 0
  · have he : s.data.toList.isEmpty = true := by
      rw [List.isEmpty_iff]
      apply List.eq_nil_of_length_eq_zero
      simpa using h0
    go_wp2_with fail
    go_ret
    exact ⟨⟨_, rfl⟩, Below.refl _ _⟩
  · have hz : 0 < s.size := by omega
    have he : s.data.toList.isEmpty = false := by
      rw [← Bool.not_eq_true, List.isEmpty_iff]
      intro e
      have h1 : s.data.toList.length = s.size := by simp
      rw [e] at h1
      simp at h1
      omega
    by_cases h16 : (s.size : Int) > 16
    · go_wp2_with fail
      go_ret
      exact ⟨⟨_, rfl⟩, Below.refl _ _⟩
    · by_cases h97 : (s[0].toNat : Int) < 97
      · go_wp2_with fail
        go_ret
        exact ⟨⟨_, rfl⟩, Below.refl _ _⟩
      · by_cases h122 : (s[0].toNat : Int) > 122
        · go_wp2_with fail
          go_ret
          exact ⟨⟨_, rfl⟩, Below.refl _ _⟩
        · go_wp2_with fail
          refine HCF.out.mono ?_
          rintro e w1 ⟨rfl, hb⟩
          have HB := Lib.hid hb
          clear hb
          go_wp2_with fail
          go_ret
          exact ⟨⟨_, rfl⟩, HB.out⟩
end Go.Proofs.Ytnbnhcoaggpmaaa
