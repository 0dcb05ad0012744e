/- Great roofs; the law's own example. -/
import Derived.Test.YtnbnhcoaggpmaaaJo
import Derived.Test.YtnbnhcoaggpmaaaLs

namespace Go.Proofs.Ytnbnhcoaggpmaaa
open Go Go.RowKit Go.Shelf
set_option maxRecDepth 100000
attribute [local go_sem] Oper.semAt_some

theorem ints1 {W : World} {b : Nat} {x : Int} (h : W.heap[b]? = some (.cells #[.int .i64 x] 3 (0, 0))) : IntsAt W W.heap.size (.slice (some ⟨b, 0, none⟩) 1 1) [x] :=
  ⟨_, _, rfl, by simp, fun _ => ⟨b, 0, rfl, lt_blk h, fun j u hu => by
    rw [cell_blk h]
    simpa using hu⟩⟩
theorem slopes1 {W : World} {b : Nat} {now need full size : Int} {t : Value} {takes : List Int} (h : W.heap[b]? = some (.cells #[.int .i64 now, .int .i64 need, .int .i64 full, .int .i64 size, t] 43 (0, 0))) (ht : IntsAt W W.heap.size t takes) :
    SlopesAt W W.heap.size (.slice (some ⟨b, 0, none⟩) 1 1) [⟨now, need, full, size, takes⟩] :=
  ⟨_, _, rfl, by simp, fun _ => ⟨b, 0, rfl, lt_blk h, fun i s hs => by
    match i, hs with
    | 0, hs =>
      obtain rfl := Option.some.inj hs
      exact ⟨t, ht, (cell_blk h 0).trans rfl, (cell_blk h 1).trans rfl, (cell_blk h 2).trans rfl, (cell_blk h 3).trans rfl, (cell_blk h 4).trans rfl⟩
    | n + 1, hs => simp at hs⟩⟩
theorem crafts1 {W : World} {b : Nat} {x y : Int} {q : Bool} (h : W.heap[b]? = some (.cells #[.int .i64 x, .int .i64 y, .bool q] 46 (0, 0))) : CraftsAt W W.heap.size (.slice (some ⟨b, 0, none⟩) 1 1) [⟨x, y, q⟩] :=
  ⟨_, _, rfl, by simp, fun _ => ⟨b, 0, rfl, lt_blk h, fun i s hs => by
    match i, hs with
    | 0, hs =>
      obtain rfl := Option.some.inj hs
      exact ⟨(cell_blk h 0).trans rfl, (cell_blk h 1).trans rfl, (cell_blk h 2).trans rfl⟩
    | n + 1, hs => simp at hs⟩⟩
theorem crafts2 {W : World} {b : Nat} {x y x' y' : Int} {q q' : Bool} (h : W.heap[b]? = some (.cells #[.int .i64 x, .int .i64 y, .bool q, .int .i64 x', .int .i64 y', .bool q'] 46 (0, 0))) : CraftsAt W W.heap.size (.slice (some ⟨b, 0, none⟩) 2 2) [⟨x, y, q⟩, ⟨x', y', q'⟩] :=
  ⟨_, _, rfl, by simp, fun _ => ⟨b, 0, rfl, lt_blk h, fun i s hs => by
    match i, hs with
    | 0, hs =>
      obtain rfl := Option.some.inj hs
      exact ⟨(cell_blk h 0).trans rfl, (cell_blk h 1).trans rfl, (cell_blk h 2).trans rfl⟩
    | 1, hs =>
      obtain rfl := Option.some.inj hs
      exact ⟨(cell_blk h 3).trans rfl, (cell_blk h 4).trans rfl, (cell_blk h 5).trans rfl⟩
    | n + 2, hs => simp at hs⟩⟩
set_option maxHeartbeats 4000000 in
theorem great01_calls (fv ov : Value) (fs : List FaceS) (os : List OpenS) (w : World) (hf : FacesAt w w.heap.size fv fs) (ho : OpensAt w w.heap.size ov os) : Calls Try.prog 4 #[.agg #[fv, ov]] w (BoolP w) := by
  obtain ⟨F, fc, rfl, hfmax, hfcap, _⟩ := id hf
  obtain ⟨O, oc, rfl, homax, hocap, hone⟩ := id ho
  obtain ⟨W, hW⟩ : ∃ W, W = w.alloc (.cells #[.slice F fs.length fc, .slice O os.length oc] 25) := ⟨_, rfl⟩
  have hb : Below w.heap.size w W := by rw [hW]; exact below1 _ _
  have hg : W.heap[w.heap.size]? = some (.cells #[.slice F fs.length fc, .slice O os.length oc] 25 (0, 0)) := by rw [hW]; exact heap_alloc_self _ _
  have a0 : W.cell? ⟨w.heap.size, 0, none⟩ = some (.slice F fs.length fc) := (cell_blk hg 0).trans rfl
  have a1 : W.cell? ⟨w.heap.size, 1, none⟩ = some (.slice O os.length oc) := (cell_blk hg 1).trans rfl
  have HA := Lib.hid (And.intro hf (And.intro hb hone))
  clear hf ho hb hg hone
  go_enter Try.func4, Try.ntmps4
  by_cases h30 : (fs.length : Int) > 30
  · rw [hW] at a0 a1
    go_wp2_with fail
    go_ret
    rw [← hW]
    exact ⟨⟨true, rfl⟩, HA.out.2.1⟩
  · by_cases h40 : (os.length : Int) > 40
    · rw [hW] at a0 a1
      go_wp2_with fail
      go_ret
      rw [← hW]
      exact ⟨⟨true, rfl⟩, HA.out.2.1⟩
    · have b0 := a0
      have b1 := a1
      rw [hW] at a0 a1
      go_wp2_with fail
      rw [← hW]
      clear a0 a1 hW
      go_loopw [3, 4] (fun sv iv wr => ∃ (i : Nat) (s : Int), i ≤ fs.length ∧ iv = .int .i64 (i : Int) ∧ sv = .int .i64 s ∧ wr = W) (fun _ iv _ => fs.length - (intOf iv).toNat)
      case atStart => exact ⟨0, 0, Nat.zero_le _, rfl, rfl, rfl⟩
      case round =>
        obtain ⟨i, s, hi, rfl, rfl, rfl⟩ := hrel
        by_cases hil : i < fs.length
        · have hii : (i : Int) < (fs.length : Int) := by omega
          have hi0 : (0 : Int) ≤ (i : Int) := by omega
          have hiadd : IntKind.i64.wrap ((i : Int) + 1) = (i : Int) + 1 := IntWalk.i64_in _ (by omega)
          obtain ⟨fb, fo, cA, cc, rfl, hfb, ⟨k0, k1, k2, k3, k4, k5, k6⟩, hcv⟩ := face_at HA.out.1 HA.out.2.1 hil
          generalize fs[i] = p at *
          by_cases hc30 : (p.corners.length : Int) > 30
          · go_wp2_with fail
            go_ret
            exact ⟨⟨true, rfl⟩, HA.out.2.1⟩
          · go_wp2_with fail
            go_round
            case rel => exact ⟨i + 1, _, by omega, by go_num, rfl, by trivial⟩
            case measure => simp [intOf]; omega
        · have hii : ¬ (i : Int) < (fs.length : Int) := by omega
          go_wp2_with fail
          go_loopw [3, 5] (fun sv iv wr2 => ∃ (j : Nat) (s : Int), j ≤ os.length ∧ iv = .int .i64 (j : Int) ∧ sv = .int .i64 s ∧ wr2 = wr) (fun _ iv _ => os.length - (intOf iv).toNat)
          case atStart => exact ⟨0, s, Nat.zero_le _, rfl, rfl, rfl⟩
          case round =>
            obtain ⟨j, s2, hj, rfl, rfl, rfl⟩ := hrel
            by_cases hjl : j < os.length
            · have hji : (j : Int) < (os.length : Int) := by omega
              have hj0 : (0 : Int) ≤ (j : Int) := by omega
              have hjadd : IntKind.i64.wrap ((j : Int) + 1) = (j : Int) + 1 := IntWalk.i64_in _ (by omega)
              obtain ⟨ob, oo, rfl, hob, hoc⟩ := HA.out.2.2 (fun e => by rw [e] at hjl; simp at hjl)
              obtain ⟨k0, _⟩ := hoc j os[j] (List.getElem?_eq_getElem hjl)
              have k0' := (HA.out.2.1.cell (p := ⟨ob, oo + j * 6, none⟩) hob).trans k0
              generalize os[j] = p at *
              clear k0 hoc
              go_wp2_with fail
              go_round
              case rel => exact ⟨j + 1, _, by omega, by go_num, rfl, by trivial⟩
              case measure => simp [intOf]; omega
            · have hji : ¬ (j : Int) < (os.length : Int) := by omega
              go_wp2_with fail
              go_ret
              exact ⟨⟨_, rfl⟩, HA.out.2.1⟩
def mS : Wk := ⟨[⟨50, 30, 60, 2, [15]⟩], [⟨20, 7, false⟩], 3, 10, 1⟩
theorem spent_least : leastS mS 1 [45] = (24, true, 0) := by decide +kernel
theorem spent_rate : rateS 100 200 1 2 10 50 = (165, 495, 0) := by decide +kernel
theorem spent_boxes (W : World) : SlopesAt ((((W.alloc (.cells #[.int .i64 15] 3)).alloc (.cells #[.int .i64 50, .int .i64 30, .int .i64 60, .int .i64 2, .slice (some ⟨W.heap.size, 0, none⟩) 1 1] 43)).alloc (.cells #[.int .i64 20, .int .i64 7, .bool false] 46)).alloc (.cells #[.int .i64 45] 3)) (W.heap.size + 4) (.slice (some ⟨W.heap.size + 1, 0, none⟩) 1 1) mS.slopes ∧
    CraftsAt ((((W.alloc (.cells #[.int .i64 15] 3)).alloc (.cells #[.int .i64 50, .int .i64 30, .int .i64 60, .int .i64 2, .slice (some ⟨W.heap.size, 0, none⟩) 1 1] 43)).alloc (.cells #[.int .i64 20, .int .i64 7, .bool false] 46)).alloc (.cells #[.int .i64 45] 3)) (W.heap.size + 4) (.slice (some ⟨W.heap.size + 2, 0, none⟩) 1 1) mS.crafts ∧
    IntsAt ((((W.alloc (.cells #[.int .i64 15] 3)).alloc (.cells #[.int .i64 50, .int .i64 30, .int .i64 60, .int .i64 2, .slice (some ⟨W.heap.size, 0, none⟩) 1 1] 43)).alloc (.cells #[.int .i64 20, .int .i64 7, .bool false] 46)).alloc (.cells #[.int .i64 45] 3)) (W.heap.size + 4) (.slice (some ⟨W.heap.size + 3, 0, none⟩) 1 1) [45] ∧
    Below W.heap.size W ((((W.alloc (.cells #[.int .i64 15] 3)).alloc (.cells #[.int .i64 50, .int .i64 30, .int .i64 60, .int .i64 2, .slice (some ⟨W.heap.size, 0, none⟩) 1 1] 43)).alloc (.cells #[.int .i64 20, .int .i64 7, .bool false] 46)).alloc (.cells #[.int .i64 45] 3)) ∧
    ((((W.alloc (.cells #[.int .i64 15] 3)).alloc (.cells #[.int .i64 50, .int .i64 30, .int .i64 60, .int .i64 2, .slice (some ⟨W.heap.size, 0, none⟩) 1 1] 43)).alloc (.cells #[.int .i64 20, .int .i64 7, .bool false] 46)).alloc (.cells #[.int .i64 45] 3)).heap.size = W.heap.size + 4 := by
  obtain ⟨w1, h1⟩ : ∃ w1, w1 = W.alloc (.cells #[.int .i64 15] 3) := ⟨_, rfl⟩
  rw [← h1]
  obtain ⟨w2, h2⟩ : ∃ w2, w2 = w1.alloc (.cells #[.int .i64 50, .int .i64 30, .int .i64 60, .int .i64 2, .slice (some ⟨W.heap.size, 0, none⟩) 1 1] 43) := ⟨_, rfl⟩
  rw [← h2]
  obtain ⟨w3, h3⟩ : ∃ w3, w3 = w2.alloc (.cells #[.int .i64 20, .int .i64 7, .bool false] 46) := ⟨_, rfl⟩
  rw [← h3]
  obtain ⟨w4, h4⟩ : ∃ w4, w4 = w3.alloc (.cells #[.int .i64 45] 3) := ⟨_, rfl⟩
  rw [← h4]
  have z1 : w1.heap.size = W.heap.size + 1 := by rw [h1]; simp
  have z2 : w2.heap.size = W.heap.size + 2 := by rw [h2]; simp [z1]
  have z3 : w3.heap.size = W.heap.size + 3 := by rw [h3]; simp [z2]
  have z4 : w4.heap.size = W.heap.size + 4 := by rw [h4]; simp [z3]
  have b1 : Below W.heap.size W w1 := by rw [h1]; exact below1 _ _
  have b2 : Below w1.heap.size w1 w2 := by rw [h2]; exact below1 _ _
  have b3 : Below w2.heap.size w2 w3 := by rw [h3]; exact below1 _ _
  have b4 : Below w3.heap.size w3 w4 := by rw [h4]; exact below1 _ _
  have g1 : w1.heap[W.heap.size]? = some (.cells #[.int .i64 15] 3 (0, 0)) := by rw [h1]; exact heap_alloc_self _ _
  have g2 : w2.heap[W.heap.size + 1]? = some (.cells #[.int .i64 50, .int .i64 30, .int .i64 60, .int .i64 2, .slice (some ⟨W.heap.size, 0, none⟩) 1 1] 43 (0, 0)) := by rw [h2, ← z1]; exact heap_alloc_self _ _
  have g3 : w3.heap[W.heap.size + 2]? = some (.cells #[.int .i64 20, .int .i64 7, .bool false] 46 (0, 0)) := by rw [h3, ← z2]; exact heap_alloc_self _ _
  have g4 : w4.heap[W.heap.size + 3]? = some (.cells #[.int .i64 45] 3 (0, 0)) := by rw [h4, ← z3]; exact heap_alloc_self _ _
  have g1' := blk_below b4 (blk_below b3 (blk_below b2 g1 (by omega)) (by omega)) (by omega)
  have g2' := blk_below b4 (blk_below b3 g2 (by omega)) (by omega)
  have g3' := blk_below b4 g3 (by omega)
  rw [← z4]
  exact ⟨slopes1 g2' (ints1 g1'), crafts1 g3', ints1 g4, b1.trans ((b2.mono (by omega)).trans ((b3.mono (by omega)).trans (b4.mono (by omega)))), rfl⟩
set_option maxHeartbeats 4000000 in
theorem spent_calls (w : World) : Calls Try.prog 6 #[] w fun e w' => e = .returned (.bool true) ∧ Below w.heap.size w w' := by
  have hr := rate_calls 100 200 1 2 10 50 w
  rw [spent_rate] at hr
  have HR := Lib.hid hr
  clear hr
  go_enter Try.func6, Try.ntmps6
  go_wp2_with fail
  refine HR.out.mono ?_
  rintro e w1 ⟨rfl, hb1⟩
  simp only []
  have HB1 := Lib.hid hb1
  clear hb1 HR
  go_wp2_with fail
  obtain ⟨w2, hw2⟩ : ∃ w2, w2 = w1.alloc (.cells #[.int .i64 165, .int .i64 495] 27) := ⟨_, rfl⟩
  have hz2 : w1.heap.size + 1 = w2.heap.size := by rw [hw2]; simp
  have hg2 : w2.heap[w1.heap.size]? = some (.cells #[.int .i64 165, .int .i64 495] 27 (0, 0)) := by rw [hw2]; exact heap_alloc_self _ _
  have hb2 : Below w1.heap.size w1 w2 := by rw [hw2]; exact below1 _ _
  rw [← hw2, hz2]
  simp only [Nat.add_assoc, Nat.reduceAdd]
  obtain ⟨q1, q2, q3, q4, q5⟩ := spent_boxes w2
  obtain ⟨w6, hw6⟩ : ∃ w6, w6 = (((w2.alloc (.cells #[.int .i64 15] 3)).alloc (.cells #[.int .i64 50, .int .i64 30, .int .i64 60, .int .i64 2, .slice (some ⟨w2.heap.size, 0, none⟩) 1 1] 43)).alloc (.cells #[.int .i64 20, .int .i64 7, .bool false] 46)).alloc (.cells #[.int .i64 45] 3) := ⟨_, rfl⟩
  rw [← hw6] at q1 q2 q3 q4 q5 ⊢
  rw [← q5] at q1 q2 q3
  have hl := least_calls mS _ _ _ 1 [45] w6 q1 q2 q3
  unfold LeastPost at hl
  rw [spent_least] at hl
  have HL := Lib.hid hl
  have HB6 := Lib.hid (HB1.out.trans ((hb2.trans (q4.mono (by omega))).mono HB1.out.size))
  have hg6 := blk_below q4 hg2 (by omega)
  have HG6 := Lib.hid hg6
  clear hw2 hz2 hg2 hb2 q1 q2 q3 q4 q5 hw6 hl hg6
  refine HL.out.mono ?_
  rintro e w7 ⟨rfl, hb7⟩
  have hg7 := blk_below hb7 HG6.out (lt_blk HG6.out)
  have c0 : w7.cell? ⟨w1.heap.size, 0, none⟩ = some (.int .i64 165) := (cell_blk hg7 0).trans rfl
  have c1 : w7.cell? ⟨w1.heap.size, 1, none⟩ = some (.int .i64 495) := (cell_blk hg7 1).trans rfl
  have HB7 := Lib.hid (HB6.out.trans (hb7.mono HB6.out.size))
  clear hb7 hg7
  simp only []
  go_wp2_with fail
  go_ret
  exact ⟨rfl, HB7.out⟩
end Go.Proofs.Ytnbnhcoaggpmaaa
