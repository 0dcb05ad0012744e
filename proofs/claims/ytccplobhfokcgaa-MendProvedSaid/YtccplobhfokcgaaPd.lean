/- MendProved: the walk. -/
import Derived.Test.YtccplobhfokcgaaLc
import Derived.Test.YtccplobhfokcgaaPn
import Derived.Test.YtccplobhfokcgaaAr
namespace Go.Proofs.Ytccplobhfokcgaa
open Go Go.RowKit Go.Shelf
set_option maxRecDepth 100000

/-- The cells of a list of values. -/
theorem WorthsAt.cells {w : World} {n0 : Nat} {v : Value} {ws : List Wo} (h : WorthsAt w n0 v ws) (hne : ws ≠ []) : ∃ b o c us, v = .slice (some ⟨b, o, none⟩) ws.length c ∧ us.length = ws.length ∧ b < n0 ∧
    (∀ j u, (cellsW ws us)[j]? = some u → w.cell? ⟨b, o + j, none⟩ = some u) ∧ (∀ u ∈ cellsW ws us, u.oneCell' = true) ∧ ∀ (i : Nat) (x : Wo) (u : Value), ws[i]? = some x → us[i]? = some u → IntsAt w n0 u x.th := by
  obtain ⟨A, c, rfl, _, hr⟩ := h
  obtain ⟨b, o, rfl, hb, hc⟩ := hr hne
  obtain ⟨us, hul, hus⟩ := list_choose (P := fun i (u : Value) => ∃ x, ws[i]? = some x ∧ w.cell? ⟨b, o + i * 3, none⟩ = some (.int .i64 x.y) ∧ w.cell? ⟨b, o + i * 3 + 1, none⟩ = some u ∧ w.cell? ⟨b, o + i * 3 + 2, none⟩ = some (.int .i64 x.c) ∧ IntsAt w n0 u x.th) ws.length (fun i hi => by
    obtain ⟨u, h1, h2, h3, h4⟩ := hc i _ (List.getElem?_eq_getElem hi)
    exact ⟨u, _, List.getElem?_eq_getElem hi, h1, h2, h3, h4⟩)
  have hcl := cellsW_length ws us hul
  have hat : ∀ j u, (cellsW ws us)[j]? = some u → w.cell? ⟨b, o + j, none⟩ = some u ∧ u.oneCell' = true := by
    intro j u hj
    have hjl := (List.getElem?_eq_some_iff.1 hj).1
    have hi : j / 3 < us.length := by omega
    obtain ⟨x, hx, h1, h2, h3, h4⟩ := hus (j / 3) _ (List.getElem?_eq_getElem hi)
    obtain ⟨c0, c1, c2⟩ := cellsW_at ws us (j / 3) hx (List.getElem?_eq_getElem hi)
    have hm : j = j / 3 * 3 + j % 3 := by omega
    have hm3 : j % 3 < 3 := Nat.mod_lt _ (by omega)
    obtain ⟨A4, k4, e4, _⟩ := h4
    rcases (by omega : j % 3 = 0 ∨ j % 3 = 1 ∨ j % 3 = 2) with e | e | e
    · have e2 : j = j / 3 * 3 := by omega
      rw [e2] at hj ⊢
      rw [c0] at hj
      cases hj
      exact ⟨h1, rfl⟩
    · have e2 : j = j / 3 * 3 + 1 := by omega
      rw [e2] at hj ⊢
      rw [c1] at hj
      cases hj
      exact ⟨h2, by rw [e4]; rfl⟩
    · have e2 : j = j / 3 * 3 + 2 := by omega
      rw [e2] at hj ⊢
      rw [c2] at hj
      cases hj
      exact ⟨h3, rfl⟩
  refine ⟨b, o, c, us, rfl, hul, hb, fun j u hj => (hat j u hj).1, fun u hu => ?_, fun i x u hx hu => ?_⟩
  · obtain ⟨j, hj⟩ := List.getElem?_of_mem hu
    exact (hat j u hj).2
  · obtain ⟨x', hx', _, _, _, h4⟩ := hus i u hu
    rw [hx] at hx'
    cases hx'
    exact h4
/-- One cost stored. -/
theorem worths_set {W : World} {B g cap : Nat} {ws : List Wo} {us : List Value} (h0 : us.length = ws.length) (hl : ws.length ≤ 1000000) (hown : W.ownsRow B 64 3 (.slice (some ⟨g, 0, none⟩) ws.length cap) ws.length (cellsW ws us))
    (hu : ∀ (i : Nat) (x : Wo) (u : Value), ws[i]? = some x → us[i]? = some u → IntsAt W B u x.th) {i : Nat} {x : Wo} (hi : ws[i]? = some x) (c' : Int) :
    W.cell? ⟨g, i * 3 + 2, none⟩ = some (.int .i64 x.c) ∧ W.frozen? ⟨g, i * 3 + 2, none⟩ = false ∧ B ≤ g ∧ WorthsAt (W.setCell ⟨g, i * 3 + 2, none⟩ (.int .i64 c')) (W.setCell ⟨g, i * 3 + 2, none⟩ (.int .i64 c')).heap.size (.slice (some ⟨g, 0, none⟩) ws.length cap) (ws.set i ⟨x.y, x.th, c'⟩) := by
  have hil := (List.getElem?_eq_some_iff.1 hi).1
  rcases hown.2 with ⟨h1, _⟩ | ⟨g', cap', cur, hv, hB, hh, hc, hm, hsz, ht⟩
  · cases h1
  · cases hv
    have hcell : ∀ j, j < ws.length * 3 → cur[j]? = (cellsW ws us)[j]? := fun j hj => by rw [← ht, List.getElem?_take, if_pos hj, Array.getElem?_toList]
    obtain ⟨ui, hui⟩ : ∃ u, us[i]? = some u := ⟨us[i]'(by omega), List.getElem?_eq_getElem _⟩
    obtain ⟨c0, c1, c2⟩ := cellsW_at ws us i hi hui
    have hcs : i * 3 + 2 < cur.size := by
      have := hcell (i * 3 + 2) (by omega)
      rw [c2] at this
      exact (Array.getElem?_eq_some_iff.1 this).1
    refine ⟨by rw [cell_blk hh, hcell _ (by omega)]; exact c2, frozen_blk hh _, hB, some ⟨g, 0, none⟩, cap, by rw [List.length_set], by rw [List.length_set]; omega, fun _ => ⟨g, 0, rfl, by rw [show (W.setCell ⟨g, i * 3 + 2, none⟩ (.int .i64 c')).heap.size = W.heap.size by simp [World.setCell]]; exact lt_blk hh, fun j y hj => ?_⟩⟩
    have hjl : j < ws.length := by have := (List.getElem?_eq_some_iff.1 hj).1; simpa using this
    obtain ⟨uj, huj⟩ : ∃ u, us[j]? = some u := ⟨us[j]'(by omega), List.getElem?_eq_getElem _⟩
    obtain ⟨d0, d1, d2⟩ := cellsW_at ws us j (List.getElem?_eq_getElem hjl) huj
    have hb := heap_set hh (i * 3 + 2) (.int .i64 c')
    have hbe : Below B W (W.setCell ⟨g, i * 3 + 2, none⟩ (.int .i64 c')) := (Below.refl _ _).setCell (p := ⟨g, i * 3 + 2, none⟩) hB _
    have hsz2 : B ≤ (W.setCell ⟨g, i * 3 + 2, none⟩ (.int .i64 c')).heap.size := by
      rw [show (W.setCell ⟨g, i * 3 + 2, none⟩ (.int .i64 c')).heap.size = W.heap.size by simp [World.setCell]]
      have := lt_blk hh
      omega
    have key : ∀ k, k < 3 → (W.setCell ⟨g, i * 3 + 2, none⟩ (.int .i64 c')).cell? ⟨g, 0 + j * 3 + k, none⟩ = if i * 3 + 2 = j * 3 + k then some (.int .i64 c') else (cellsW ws us)[j * 3 + k]? := fun k hk => by
      rw [cell_blk hb, Nat.zero_add, Array.getElem?_setIfInBounds, hcell _ (by omega)]
      by_cases h : i * 3 + 2 = j * 3 + k
      · rw [if_pos h, if_pos h, if_pos (by omega)]
      · rw [if_neg h, if_neg h]
    have k0 := key 0 (by omega)
    have k1 := key 1 (by omega)
    have k2 := key 2 (by omega)
    rw [if_neg (by omega)] at k0
    rw [if_neg (by omega)] at k1
    rw [List.getElem?_set] at hj
    by_cases hij : i = j
    · subst hij
      rw [if_pos rfl, if_pos hil] at hj
      cases hj
      rw [if_pos rfl] at k2
      rw [List.getElem?_eq_getElem hil] at hi
      cases hi
      refine ⟨uj, k0.trans d0, k1.trans d1, k2, ((hu i _ uj (List.getElem?_eq_getElem hil) huj).below hbe).mono hsz2⟩
    · rw [if_neg hij] at hj
      rw [if_neg (by omega)] at k2
      rw [List.getElem?_eq_getElem hjl] at hj
      cases hj
      refine ⟨uj, k0.trans d0, k1.trans d1, k2.trans d2, ((hu j _ uj (List.getElem?_eq_getElem hjl) huj).below hbe).mono hsz2⟩

theorem live_length (m : Wk) : (liveS m).length ≤ (allS m (firstS m)).length := by
  unfold liveS
  refine Nat.le_trans (List.length_filter_le _ _) ?_
  rw [sortL_length]
  exact Nat.le_refl _
/-- What a list of values of all states proves. -/
structure AllW (m : Wk) (V : Int) (ws : List Wo) : Prop where
  len : ws.length ≤ 2000
  val : 0 ≤ V ∧ V ≤ 2000000000
  each : ∀ (i : Nat) (x : Wo), ws[i]? = some x → 0 ≤ x.c ∧ x.c ≤ 2000000000
  yes : ∀ least, provesS m least ws = (decide (least ≤ V), 0)
  no : ∀ (i : Nat) (x : Wo) (c : Int), ws[i]? = some x → x.c < 2000000000 → x.c < c → provesS m 0 (ws.set i ⟨x.y, x.th, c⟩) = (false, 0)
theorem allW {m : Wk} (hc : checkS m = 0) (hl : ¬ 2000 < (allS m (firstS m)).length) : valuesS m = ((liveS m).map (worthOf m), 0) ∧ AllW m (valS m (firstS m)) ((liveS m).map (worthOf m)) := by
  have hm := checkS_ok hc
  have hlen := live_length m
  refine ⟨by unfold valuesS; rw [if_pos hc, if_neg hl]; rfl, by rw [List.length_map]; omega, valS_bd hm _, fun i x hx => ?_, fun least => ?_, fun i x c hx h1 h2 => ?_⟩
  · have := List.mem_of_getElem? hx
    obtain ⟨s, _, rfl⟩ := List.mem_map.1 this
    exact valS_bd hm s
  · unfold provesS
    rw [if_pos hc, if_neg (by rw [List.length_map]; omega), provesB_worths hm]
  · unfold provesS
    rw [if_pos hc, if_neg (by rw [List.length_set, List.length_map]; omega)]
    rw [List.getElem?_map] at hx
    cases hs : (liveS m)[i]? with
    | none => rw [hs] at hx; cases hx
    | some s =>
      rw [hs] at hx
      cases hx
      rw [show (⟨(worthOf m s).y, (worthOf m s).th, c⟩ : Wo) = ⟨s.y, thicks m s, c⟩ from rfl, provesB_more hm 0 hs h1 h2]
theorem values_bad {m : Wk} (h : checkS m ≠ 0 ∨ 2000 < (allS m (firstS m)).length) : (valuesS m).1 = [] ∧ (valuesS m).2 ≠ 0 ∧ (cheapS m).2.2.2 = (valuesS m).2 := by
  unfold valuesS cheapS
  by_cases hc : checkS m = 0
  · have hl : 2000 < (allS m (firstS m)).length := h.resolve_left (fun h => h hc)
    rw [if_pos hc, if_pos hl, if_pos hc, if_pos hl]
    exact ⟨rfl, by decide, rfl⟩
  · rw [if_neg hc, if_neg hc]
    exact ⟨rfl, hc, rfl⟩

set_option maxHeartbeats 8000000 in
theorem mendProved_calls (m : Wk) (sl cr : Value) (which more : Int) (w : World) (hsl : SlopesAt w w.heap.size sl m.slopes) (hcr : CraftsAt w w.heap.size cr m.crafts) (hmore : 0 ≤ more ∧ more ≤ 255) :
    Calls Try.prog 10 #[.agg #[sl, cr, .int .i64 m.years, .int .i64 m.visit, .int .i64 m.hands], .int .i64 which, .int .u8 more] w (LawPost w) := by
  obtain ⟨sA, sc, rfl, _, _⟩ := id hsl
  obtain ⟨cA, cc, rfl, _, _⟩ := id hcr
  obtain ⟨w0, hw0⟩ : ∃ w0, w0 = w.alloc (.cells #[.slice sA m.slopes.length sc, .slice cA m.crafts.length cc, .int .i64 m.years, .int .i64 m.visit, .int .i64 m.hands] 25) := ⟨_, rfl⟩
  have h0 := LawInv.start hsl hcr
  rw [← hw0] at h0
  have x5 := blk5 h0.box
  rw [hw0] at x5
  obtain ⟨x0, x1, x2, x3, x4⟩ := x5
  have H0 := Lib.hid h0
  have HW0 := Lib.hid hw0
  clear h0 hw0 hsl hcr
  go_enter Try.func10, Try.ntmps10
  go_wp2_with fail
  rw [← HW0.out]
  refine (great_calls m _ _ w0 H0.out.slopes H0.out.crafts).mono ?_
  rintro e w1 ⟨⟨g, rfl⟩, hb1⟩
  have H1 := Lib.hid (H0.out.later hb1)
  clear hb1 x0 x1 x2 x3 x4 H0 HW0
  cases g
  · obtain ⟨x0, x1, x2, x3, x4⟩ := blk5 H1.out.box
    go_wp2_with fail
    refine (cheap_calls m _ _ w1 H1.out.slopes H1.out.crafts).mono ?_
    rintro e w2 ⟨v2, rfl, _, hb2⟩
    have H2 := Lib.hid (H1.out.later hb2)
    clear hb2 H1 x0 x1 x2 x3 x4
    obtain ⟨x0, x1, x2, x3, x4⟩ := blk5 H2.out.box
    go_wp2_with fail
    refine (values_of m _ _ w2 H2.out.slopes H2.out.crafts).mono ?_
    rintro e w3 ⟨v3, rfl, hv3, hb3⟩
    have H3 := Lib.hid (H2.out.later hb3)
    clear hb3 H2 x0 x1 x2 x3 x4
    by_cases hbad : checkS m ≠ 0 ∨ 2000 < (allS m (firstS m)).length
    · obtain ⟨hv1, hv2, hv4⟩ := values_bad hbad
      rw [hv1] at hv3
      rw [hv4]
      obtain ⟨A3, c3, rfl, _, _⟩ := hv3
      generalize (valuesS m).2 = ve at *
      have hn1 : (ve != 0) = true := by simpa using hv2
      have hn2 : (!(ve == 0)) = true := by simpa using hv2
      clear hbad hv1 hv2 hv4
      go_wp2_with (go_at_call 16; refine (runs_law H3.out).mono ?_; rintro e wr ⟨rfl, hr⟩; have HR := Lib.hid hr; clear hr)
      go_ret
      exact HR.out
    · have hck : checkS m = 0 := Decidable.not_not.1 fun h => hbad (.inl h)
      have hfew : ¬ 2000 < (allS m (firstS m)).length := fun h => hbad (.inr h)
      obtain ⟨hvs, hall⟩ := allW hck hfew
      rw [hvs] at hv3
      rw [hvs]
      simp only [] at hv3 ⊢
      generalize (liveS m).map (worthOf m) = ws at *
      have hch : cheapS m = if 2000000000 ≤ valS m (firstS m) then ([], 0, false, 0) else (planS m, valS m (firstS m), true, 0) := by unfold cheapS; rw [if_pos hck, if_neg hfew]
      generalize valS m (firstS m) = V at *
      have hV := hall.val
      have hVadd : IntKind.i64.wrap (V + 1) = V + 1 := IntWalk.i64_in _ (by omega)
      have hy1 := hall.yes V
      have hy2 := hall.yes (V + 1)
      rw [show decide (V ≤ V) = true by simp] at hy1
      rw [show decide (V + 1 ≤ V) = false by simp; omega] at hy2
      have HALL := Lib.hid hall
      have HY1 := Lib.hid hy1
      have HY2 := Lib.hid hy2
      have HV3 := Lib.hid hv3
      obtain ⟨A3, c3, rfl, _, _⟩ := id hv3
      have hwl := hall.len
      clear hbad hck hfew hvs hall hy1 hy2 hv3
      have hsplit : (2000000000 ≤ V ∧ V = 2000000000 ∧ cheapS m = ([], 0, false, 0)) ∨ (¬ 2000000000 ≤ V ∧ True ∧ cheapS m = (planS m, V, true, 0)) := by
        by_cases h : 2000000000 ≤ V
        · exact .inl ⟨h, by omega, by rw [hch, if_pos h]⟩
        · exact .inr ⟨h, trivial, by rw [hch, if_neg h]⟩
      clear hch
      rcases hsplit with ⟨_, hVe, hch⟩ | ⟨_, hVe, hch⟩
      all_goals
        rw [hch]
        clear hch
        simp only []
        (try subst hVe)
        obtain ⟨x0, x1, x2, x3, x4⟩ := blk5 H3.out.box
        go_wp2_with fail
        refine (proves_calls m _ _ _ _ ws w3 H3.out.slopes H3.out.crafts HV3.out).mono ?_
        rintro e w4 ⟨rfl, hb4⟩
        rw [HY1.out]
        have H4 := Lib.hid (H3.out.later hb4)
        have HV4 := Lib.hid ((HV3.out.below hb4).mono hb4.size)
        clear hb4 x0 x1 x2 x3 x4
        obtain ⟨x0, x1, x2, x3, x4⟩ := blk5 H4.out.box
        simp only []
        go_wp2_with fail
        refine (proves_calls m _ _ _ _ ws w4 H4.out.slopes H4.out.crafts HV4.out).mono ?_
        rintro e w5 ⟨rfl, hb5⟩
        first
          | rw [HY2.out]
          | rw [show provesS m 2000000001 ws = (false, 0) from HY2.out]
        have H5 := Lib.hid (H4.out.later hb5)
        have HV5 := Lib.hid ((HV4.out.below hb5).mono hb5.size)
        clear hb5 x0 x1 x2 x3 x4
        simp only []
        by_cases hw0 : which < 0
        · go_wp2_with (go_at_call 16; refine (runs_law H5.out).mono ?_; rintro e wr ⟨rfl, hr⟩; have HR := Lib.hid hr; clear hr)
          go_ret
          exact HR.out
        · obtain ⟨i, rfl⟩ := Int.eq_ofNat_of_zero_le (Int.not_lt.1 hw0)
          by_cases hil : (i : Int) ≥ (ws.length : Int)
          · go_wp2_with (go_at_call 16; refine (runs_law H5.out).mono ?_; rintro e wr ⟨rfl, hr⟩; have HR := Lib.hid hr; clear hr)
            go_ret
            exact HR.out
          · have hlt : i < ws.length := by omega
            have hi0 : (0 : Int) ≤ (i : Int) := by omega
            have hili : (i : Int) < (ws.length : Int) := by omega
            have hne : ws ≠ [] := by intro e; rw [e] at hlt; simp at hlt
            obtain ⟨b, o, c9, us, he9, hul, hb9, hcells, hone, hints⟩ := HV5.out.cells hne
            cases he9
            have hgi : ws[i]? = some ws[i] := List.getElem?_eq_getElem hlt
            have hc2 := (cellsW_at ws us i hgi (List.getElem?_eq_getElem (by omega))).2.2
            have hcc := hcells _ _ hc2
            have hcc' : w5.cell? ⟨b, o + i * 3 + 2, none⟩ = some (.int .i64 ws[i].c) := by rw [Nat.add_assoc]; exact hcc
            have hxb := HALL.out.each i _ hgi
            by_cases hbig : ws[i].c ≥ 2000000000
            · clear hcells hone hints hgi hc2
              generalize ws[i].c = xc at *
              go_wp2_with (go_at_call 16; refine (runs_law H5.out).mono ?_; rintro e wr ⟨rfl, hr⟩; have HR := Lib.hid hr; clear hr)
              go_ret
              exact HR.out
            · have hadd1 : IntKind.i64.wrap (ws[i].c + 1) = ws[i].c + 1 := IntWalk.i64_in _ (by omega)
              have hconv : IntKind.i64.wrap more = more := IntWalk.i64_in _ (by omega)
              have hadd2 : IntKind.i64.wrap (ws[i].c + 1 + more) = ws[i].c + 1 + more := IntWalk.i64_in _ (by omega)
              have hno := HALL.out.no i _ (ws[i].c + 1 + more) hgi (by omega) (by omega)
              have HNO := Lib.hid hno
              obtain ⟨i0, hi, hz0, hz1, hz2⟩ := info_parts infoWorth
              have hnil : w5.ownsRow w5.heap.size 64 3 (.slice none 0 0) 0 [] := ⟨rfl, .inl ⟨rfl, rfl⟩⟩
              have hnews : ∀ j u, (cellsW ws us)[j]? = some u → w5.cell? ((⟨b, o, none⟩ : Addr).add j) = some u := fun j u hu => by rw [add_plain]; exact hcells j u hu
              have HN := Lib.hid (And.intro hnews (And.intro hone (And.intro hints (And.intro hgi (And.intro hul hnil)))))
              have hcw := cellsW_length ws us hul
              have HCW := Lib.hid hcw
              clear hcells hone hints hgi hnil hnews hno hc2 hcc hul hcw
              have hap : ∀ v' w', w'.ownsRow w5.heap.size 64 3 v' (0 + ws.length) ([] ++ cellsW ws us) → w5.grownBy w' (Value.ownBlock (.slice none 0 0)) → ∃ g cap, v' = .slice (some ⟨g, 0, none⟩) ws.length cap ∧ Hid (Below w5.heap.size w5 w') ∧
                  (w'.cell? ⟨g, i * 3 + 2, none⟩ = some (.int .i64 ws[i].c) ∧ w'.frozen? ⟨g, i * 3 + 2, none⟩ = false) ∧ Hid (w5.heap.size ≤ g ∧ WorthsAt (w'.setCell ⟨g, i * 3 + 2, none⟩ (.int .i64 (ws[i].c + 1 + more))) (w'.setCell ⟨g, i * 3 + 2, none⟩ (.int .i64 (ws[i].c + 1 + more))).heap.size (.slice (some ⟨g, 0, none⟩) ws.length cap) (ws.set i ⟨ws[i].y, ws[i].th, ws[i].c + 1 + more⟩)) := by
                intro v' w' hown hg
                rw [Nat.zero_add, List.nil_append] at hown
                obtain ⟨_, hone, hints, hgi, hul, _⟩ := HN.out
                have hbe : Below w5.heap.size w5 w' := (Below.refl _ _).grown hg (Nat.le_refl _) (fun k hk => by cases hk)
                rcases id hown.2 with ⟨_, h3⟩ | ⟨g, cap, cur, rfl, _⟩
                · omega
                · obtain ⟨q1, q2, q3, q4⟩ := worths_set hul (by omega) hown (fun j x u hx hu => (hints j x u hx hu).below hbe) hgi (ws[i].c + 1 + more)
                  exact ⟨g, cap, rfl, Lib.hid hbe, ⟨q1, q2⟩, Lib.hid ⟨q3, q4⟩⟩
              have HAP := Lib.hid hap
              clear hap
              generalize hxc : ws[i].c = xc at *
              have HXC := Lib.hid hxc
              clear hxc
              go_wp2_with (at_builtin; go_loud (refine wpList_append_own _ rfl _ _ 42 rfl w5.heap.size 64 i0 (.agg #[.int .i64 0, .slice none 0 0, .int .i64 0]) 3 40 Try.underlying42 hi hz0 hz1 hz2 rfl (by decide) _ 0 [] rfl HN.out.2.2.2.2.2 ⟨b, o, none⟩ ws.length c3 (cellsW ws us) rfl HCW.out HN.out.1 HN.out.2.1 (by simp only [maxLen]; omega) (by omega) (Nat.le_refl _) ?_); intro v6 w6 hown6 hg6 _; obtain ⟨g, cap, rfl, HB6, ⟨hq1, hq2⟩, HQ⟩ := HAP.out v6 w6 hown6 hg6; have H6 := Lib.hid (H5.out.later HB6.out); clear hown6 hg6; obtain ⟨w7, hw7⟩ : ∃ w7, w7 = w6.setCell ⟨g, i * 3 + 2, none⟩ (.int .i64 (xc + 1 + more)) := ⟨_, rfl⟩; have H7 := Lib.hid (show LawInv m w (.slice sA m.slopes.length sc) (.slice cA m.crafts.length cc) w.heap.size w7 by rw [hw7]; exact H5.out.later (HB6.out.setCell (p := ⟨g, i * 3 + 2, none⟩) HQ.out.1 _)); have hx5 := blk5 H7.out.box; rw [hw7] at hx5; obtain ⟨x0, x1, x2, x3, x4⟩ := hx5; have HW7 := Lib.hid hw7; clear hw7)
              rw [← HW7.out]
              refine (proves_calls m _ _ _ _ (ws.set i ⟨ws[i].y, ws[i].th, xc + 1 + more⟩) w7 H7.out.slopes H7.out.crafts (by rw [HW7.out]; exact HQ.out.2)).mono ?_
              rintro e w8 ⟨rfl, hb8⟩
              rw [HNO.out]
              have H8 := Lib.hid (H7.out.later hb8)
              clear hb8 x0 x1 x2 x3 x4 hq1 hq2
              simp only []
              go_wp2_with (go_at_call 16; refine (runs_law H8.out).mono ?_; rintro e wr ⟨rfl, hr⟩; have HR := Lib.hid hr; clear hr)
              go_ret
              exact HR.out
  · go_wp2_with (go_at_call 16; refine (runs_law H1.out).mono ?_; rintro e wr ⟨rfl, hr⟩; have HR := Lib.hid hr; clear hr)
    go_ret
    exact HR.out
end Go.Proofs.Ytccplobhfokcgaa
