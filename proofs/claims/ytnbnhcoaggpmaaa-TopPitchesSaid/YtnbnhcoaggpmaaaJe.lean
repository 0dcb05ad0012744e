/- Roofs: slices.Index, IndexFunc, Contains, ContainsFunc: some answer. -/
import Derived.Test.YtnbnhcoaggpmaaaJd

namespace Go.Proofs.Ytnbnhcoaggpmaaa
open Go Go.RowKit Go.Shelf
set_option maxRecDepth 100000
attribute [local go_sem] Oper.semAt_some
theorem indexFuncAt_calls (g : Nat) (lb : Array Value) (eg : ∀ args w, (callFunc g args).run Try.prog w = .ok (.enter g args) w) (v : Value) (ps : List (Int × Int)) (w : World) (h : AtsAt w w.heap.size v ps)
    (hp : ∀ (W : World) (p : Int × Int), Below w.heap.size w W → Calls Try.prog g (#[.agg #[.int .i64 p.1, .int .i64 p.2]] ++ lb) W (BoolP W)) :
    Calls Try.prog 62 #[v, .func (.func g) #[] lb] w (IntP w) := by
  obtain ⟨A, c, rfl, hmax, hcap, hcells⟩ := h
  have HC := Lib.hid hcells
  have HP := Lib.hid hp
  clear hcells hp
  go_enter Try.func62, Try.ntmps62
  go_wp2_with fail
  go_loopw [8] (fun iv wr => ∃ i : Nat, i ≤ ps.length ∧ iv = .int .i64 (i : Int) ∧ Hid (Below w.heap.size w wr)) (fun iv _ => ps.length - (intOf iv).toNat)
  case atStart => exact ⟨0, Nat.zero_le _, rfl, Lib.hid (Below.refl _ _)⟩
  case round =>
    obtain ⟨i, hi, rfl, HB⟩ := hrel
    by_cases hil : i < ps.length
    · have hii : (i : Int) < (ps.length : Int) := by omega
      have hi0 : (0 : Int) ≤ (i : Int) := by omega
      have hiadd : IntKind.i64.wrap ((i : Int) + 1) = (i : Int) + 1 := IntWalk.i64_in _ (by omega)
      obtain ⟨b, o, rfl, hlt, hc⟩ := HC.out (fun e => by rw [e] at hil; simp at hil)
      obtain ⟨c0, c1⟩ := hc i ps[i] (List.getElem?_eq_getElem hil)
      have k0 := (HB.out.cell (p := ⟨b, o + i * 2, none⟩) hlt).trans c0
      have k1 := (HB.out.cell (p := ⟨b, o + i * 2 + 1, none⟩) hlt).trans c1
      have HPX := Lib.hid (fun W (hW : Below w.heap.size w W) => HP.out W ps[i] hW)
      clear hc c0 c1
      generalize ps[i] = x at *
      go_wp2_with fail
      refine (HPX.out _ HB.out).mono ?_
      rintro e W' ⟨⟨q, rfl⟩, hb'⟩
      have HB2 := Lib.hid (HB.out.trans (hb'.mono HB.out.size))
      clear hb'
      cases q
      · go_wp2_with fail
        go_round
        case rel => exact ⟨i + 1, by omega, by go_num, HB2⟩
        case measure => simp [intOf]; omega
      · go_wp2_with fail
        go_ret
        exact ⟨⟨(i : Int), rfl⟩, HB2.out⟩
    · have hii : ¬ (i : Int) < (ps.length : Int) := by omega
      go_wp2_with fail
      go_ret
      exact ⟨⟨-1, rfl⟩, HB.out⟩
theorem containsFuncAt_calls (g : Nat) (lb : Array Value) (eg : ∀ args w, (callFunc g args).run Try.prog w = .ok (.enter g args) w) (v : Value) (ps : List (Int × Int)) (w : World) (h : AtsAt w w.heap.size v ps)
    (hp : ∀ (W : World) (p : Int × Int), Below w.heap.size w W → Calls Try.prog g (#[.agg #[.int .i64 p.1, .int .i64 p.2]] ++ lb) W (BoolP W)) :
    Calls Try.prog 31 #[v, .func (.func g) #[] lb] w (BoolP w) := by
  have HI := Lib.hid (indexFuncAt_calls g lb eg v ps w h hp)
  clear h hp
  go_enter Try.func31, Try.ntmps31
  go_wp2_with fail
  refine HI.out.mono ?_
  rintro e w1 ⟨⟨n, rfl⟩, hb⟩
  have HB := Lib.hid hb
  clear hb
  go_wp2_with fail
  go_ret
  exact ⟨⟨_, rfl⟩, HB.out⟩
theorem indexFuncFace_calls (g : Nat) (lb : Array Value) (eg : ∀ args w, (callFunc g args).run Try.prog w = .ok (.enter g args) w) (v : Value) (ps : List FaceS) (w : World) (h : FacesAt w w.heap.size v ps)
    (hp : ∀ (W : World) (p : FaceS) (cv : Value), Below w.heap.size w W → Calls Try.prog g (#[.agg #[.string p.name, .int .i64 p.side, .int .i64 p.foot, .int .i64 p.base, .int .i64 p.rise, .int .i64 p.run, cv]] ++ lb) W (BoolP W)) :
    Calls Try.prog 61 #[v, .func (.func g) #[] lb] w (IntP w) := by
  obtain ⟨A, c, rfl, hmax, hcap, hcells⟩ := h
  have HC := Lib.hid hcells
  have HP := Lib.hid hp
  clear hcells hp
  go_enter Try.func61, Try.ntmps61
  go_wp2_with fail
  go_loopw [8] (fun iv wr => ∃ i : Nat, i ≤ ps.length ∧ iv = .int .i64 (i : Int) ∧ Hid (Below w.heap.size w wr)) (fun iv _ => ps.length - (intOf iv).toNat)
  case atStart => exact ⟨0, Nat.zero_le _, rfl, Lib.hid (Below.refl _ _)⟩
  case round =>
    obtain ⟨i, hi, rfl, HB⟩ := hrel
    by_cases hil : i < ps.length
    · have hii : (i : Int) < (ps.length : Int) := by omega
      have hi0 : (0 : Int) ≤ (i : Int) := by omega
      have hiadd : IntKind.i64.wrap ((i : Int) + 1) = (i : Int) + 1 := IntWalk.i64_in _ (by omega)
      obtain ⟨b, o, rfl, hlt, hc⟩ := HC.out (fun e => by rw [e] at hil; simp at hil)
      obtain ⟨c0, c1, c2, c3, c4, c5, cv, c6, _⟩ := hc i ps[i] (List.getElem?_eq_getElem hil)
      have k0 := (HB.out.cell (p := ⟨b, o + i * 7, none⟩) hlt).trans c0
      have k1 := (HB.out.cell (p := ⟨b, o + i * 7 + 1, none⟩) hlt).trans c1
      have k2 := (HB.out.cell (p := ⟨b, o + i * 7 + 2, none⟩) hlt).trans c2
      have k3 := (HB.out.cell (p := ⟨b, o + i * 7 + 3, none⟩) hlt).trans c3
      have k4 := (HB.out.cell (p := ⟨b, o + i * 7 + 4, none⟩) hlt).trans c4
      have k5 := (HB.out.cell (p := ⟨b, o + i * 7 + 5, none⟩) hlt).trans c5
      have k6 := (HB.out.cell (p := ⟨b, o + i * 7 + 6, none⟩) hlt).trans c6
      have HPX := Lib.hid (fun W (hW : Below w.heap.size w W) => HP.out W ps[i] cv hW)
      clear hc c0 c1 c2 c3 c4 c5 c6
      generalize ps[i] = x at *
      go_wp2_with fail
      refine (HPX.out _ HB.out).mono ?_
      rintro e W' ⟨⟨q, rfl⟩, hb'⟩
      have HB2 := Lib.hid (HB.out.trans (hb'.mono HB.out.size))
      clear hb'
      cases q
      · go_wp2_with fail
        go_round
        case rel => exact ⟨i + 1, by omega, by go_num, HB2⟩
        case measure => simp [intOf]; omega
      · go_wp2_with fail
        go_ret
        exact ⟨⟨(i : Int), rfl⟩, HB2.out⟩
    · have hii : ¬ (i : Int) < (ps.length : Int) := by omega
      go_wp2_with fail
      go_ret
      exact ⟨⟨-1, rfl⟩, HB.out⟩
theorem containsFuncFace_calls (g : Nat) (lb : Array Value) (eg : ∀ args w, (callFunc g args).run Try.prog w = .ok (.enter g args) w) (v : Value) (ps : List FaceS) (w : World) (h : FacesAt w w.heap.size v ps)
    (hp : ∀ (W : World) (p : FaceS) (cv : Value), Below w.heap.size w W → Calls Try.prog g (#[.agg #[.string p.name, .int .i64 p.side, .int .i64 p.foot, .int .i64 p.base, .int .i64 p.rise, .int .i64 p.run, cv]] ++ lb) W (BoolP W)) :
    Calls Try.prog 28 #[v, .func (.func g) #[] lb] w (BoolP w) := by
  have HI := Lib.hid (indexFuncFace_calls g lb eg v ps w h hp)
  clear h hp
  go_enter Try.func28, Try.ntmps28
  go_wp2_with fail
  refine HI.out.mono ?_
  rintro e w1 ⟨⟨n, rfl⟩, hb⟩
  have HB := Lib.hid hb
  clear hb
  go_wp2_with fail
  go_ret
  exact ⟨⟨_, rfl⟩, HB.out⟩
theorem indexFuncOpen_calls (g : Nat) (lb : Array Value) (eg : ∀ args w, (callFunc g args).run Try.prog w = .ok (.enter g args) w) (v : Value) (ps : List OpenS) (w : World) (h : OpensAt w w.heap.size v ps)
    (hp : ∀ (W : World) (p : OpenS), Below w.heap.size w W → Calls Try.prog g (#[.agg #[.string p.name, .int .i64 p.face, .int .i64 p.lx, .int .i64 p.ly, .int .i64 p.hx, .int .i64 p.hy]] ++ lb) W (BoolP W)) :
    Calls Try.prog 67 #[v, .func (.func g) #[] lb] w (IntP w) := by
  obtain ⟨A, c, rfl, hmax, hcap, hcells⟩ := h
  have HC := Lib.hid hcells
  have HP := Lib.hid hp
  clear hcells hp
  go_enter Try.func67, Try.ntmps67
  go_wp2_with fail
  go_loopw [8] (fun iv wr => ∃ i : Nat, i ≤ ps.length ∧ iv = .int .i64 (i : Int) ∧ Hid (Below w.heap.size w wr)) (fun iv _ => ps.length - (intOf iv).toNat)
  case atStart => exact ⟨0, Nat.zero_le _, rfl, Lib.hid (Below.refl _ _)⟩
  case round =>
    obtain ⟨i, hi, rfl, HB⟩ := hrel
    by_cases hil : i < ps.length
    · have hii : (i : Int) < (ps.length : Int) := by omega
      have hi0 : (0 : Int) ≤ (i : Int) := by omega
      have hiadd : IntKind.i64.wrap ((i : Int) + 1) = (i : Int) + 1 := IntWalk.i64_in _ (by omega)
      obtain ⟨b, o, rfl, hlt, hc⟩ := HC.out (fun e => by rw [e] at hil; simp at hil)
      obtain ⟨c0, c1, c2, c3, c4, c5⟩ := hc i ps[i] (List.getElem?_eq_getElem hil)
      have k0 := (HB.out.cell (p := ⟨b, o + i * 6, none⟩) hlt).trans c0
      have k1 := (HB.out.cell (p := ⟨b, o + i * 6 + 1, none⟩) hlt).trans c1
      have k2 := (HB.out.cell (p := ⟨b, o + i * 6 + 2, none⟩) hlt).trans c2
      have k3 := (HB.out.cell (p := ⟨b, o + i * 6 + 3, none⟩) hlt).trans c3
      have k4 := (HB.out.cell (p := ⟨b, o + i * 6 + 4, none⟩) hlt).trans c4
      have k5 := (HB.out.cell (p := ⟨b, o + i * 6 + 5, none⟩) hlt).trans c5
      have HPX := Lib.hid (fun W (hW : Below w.heap.size w W) => HP.out W ps[i] hW)
      clear hc c0 c1 c2 c3 c4 c5
      generalize ps[i] = x at *
      go_wp2_with fail
      refine (HPX.out _ HB.out).mono ?_
      rintro e W' ⟨⟨q, rfl⟩, hb'⟩
      have HB2 := Lib.hid (HB.out.trans (hb'.mono HB.out.size))
      clear hb'
      cases q
      · go_wp2_with fail
        go_round
        case rel => exact ⟨i + 1, by omega, by go_num, HB2⟩
        case measure => simp [intOf]; omega
      · go_wp2_with fail
        go_ret
        exact ⟨⟨(i : Int), rfl⟩, HB2.out⟩
    · have hii : ¬ (i : Int) < (ps.length : Int) := by omega
      go_wp2_with fail
      go_ret
      exact ⟨⟨-1, rfl⟩, HB.out⟩
theorem containsFuncOpen_calls (g : Nat) (lb : Array Value) (eg : ∀ args w, (callFunc g args).run Try.prog w = .ok (.enter g args) w) (v : Value) (ps : List OpenS) (w : World) (h : OpensAt w w.heap.size v ps)
    (hp : ∀ (W : World) (p : OpenS), Below w.heap.size w W → Calls Try.prog g (#[.agg #[.string p.name, .int .i64 p.face, .int .i64 p.lx, .int .i64 p.ly, .int .i64 p.hx, .int .i64 p.hy]] ++ lb) W (BoolP W)) :
    Calls Try.prog 36 #[v, .func (.func g) #[] lb] w (BoolP w) := by
  have HI := Lib.hid (indexFuncOpen_calls g lb eg v ps w h hp)
  clear h hp
  go_enter Try.func36, Try.ntmps36
  go_wp2_with fail
  refine HI.out.mono ?_
  rintro e w1 ⟨⟨n, rfl⟩, hb⟩
  have HB := Lib.hid hb
  clear hb
  go_wp2_with fail
  go_ret
  exact ⟨⟨_, rfl⟩, HB.out⟩
theorem indexAts_calls (v : Value) (ps : List (Int × Int)) (x y : Int) (w : World) (h : AtsAt w w.heap.size v ps) :
    Calls Try.prog 63 #[v, .agg #[.int .i64 x, .int .i64 y]] w (IntP w) := by
  obtain ⟨A, c, rfl, hmax, hcap, hcells⟩ := h
  obtain ⟨W, hW⟩ : ∃ W, W = w.alloc (.cells #[.int .i64 x, .int .i64 y] 55) := ⟨_, rfl⟩
  have hb : Below w.heap.size w W := by rw [hW]; exact below1 _ _
  have hg : W.heap[w.heap.size]? = some (.cells #[.int .i64 x, .int .i64 y] 55 (0, 0)) := by rw [hW]; exact heap_alloc_self _ _
  have hz : W.heap.size = w.heap.size + 1 := by rw [hW]; simp
  have HC := Lib.hid hcells
  have HW := Lib.hid (And.intro hb (And.intro hg hz))
  clear hcells hb hg hz
  go_enter Try.func63, Try.ntmps63
  go_wp2_with fail
  rw [← hW]
  clear hW
  go_loopw [8] (fun iv wr => ∃ i : Nat, i ≤ ps.length ∧ iv = .int .i64 (i : Int) ∧ Hid (Below W.heap.size W wr)) (fun iv _ => ps.length - (intOf iv).toNat)
  case atStart => exact ⟨0, Nat.zero_le _, rfl, Lib.hid (Below.refl _ _)⟩
  case round =>
    obtain ⟨i, hi, rfl, HB⟩ := hrel
    by_cases hil : i < ps.length
    · have hii : (i : Int) < (ps.length : Int) := by omega
      have hi0 : (0 : Int) ≤ (i : Int) := by omega
      have hiadd : IntKind.i64.wrap ((i : Int) + 1) = (i : Int) + 1 := IntWalk.i64_in _ (by omega)
      obtain ⟨b, o, rfl, hlt, hc⟩ := HC.out (fun e => by rw [e] at hil; simp at hil)
      obtain ⟨c0, c1⟩ := hc i ps[i] (List.getElem?_eq_getElem hil)
      have k0 := fun w4 (h4 : Below wr.heap.size wr w4) => (((HW.out.1.trans (HB.out.mono HW.out.1.size)).trans (h4.mono (HW.out.1.trans (HB.out.mono HW.out.1.size)).size)).cell (p := ⟨b, o + i * 2, none⟩) hlt).trans c0
      have k1 := fun w4 (h4 : Below wr.heap.size wr w4) => (((HW.out.1.trans (HB.out.mono HW.out.1.size)).trans (h4.mono (HW.out.1.trans (HB.out.mono HW.out.1.size)).size)).cell (p := ⟨b, o + i * 2 + 1, none⟩) hlt).trans c1
      have kx := fun w4 (h4 : Below wr.heap.size wr w4) => blk_below h4 (blk_below HB.out HW.out.2.1 (by have := HW.out.2.2; omega)) (by have := HB.out.size; have := HW.out.2.2; omega)
      have HK := Lib.hid (And.intro k0 (And.intro k1 kx))
      clear hc c0 c1 k0 k1 kx
      generalize ps[i] = z at *
      by_cases hx : z.1 = x
      · by_cases hy : z.2 = y
        · skip
          go_wp2_with fail
          refine wp_region_rg Grows (fun _ => .fn) (by kernel_rfl) (by kernel_rfl) Grows.refl growsT (by intro i; trivial) ?_
          iterate 6 (refine rg_step fun K hK => ?_; apply rg_fn rfl; (intro w4 hw; have q0 := HK.out.1 w4 hw.undrew; have q1 := HK.out.2.1 w4 hw.undrew; have q2 := HK.out.2.2 w4 hw.undrew; have r0 : w4.cell? ⟨w.heap.size, 0, none⟩ = some (.int .i64 x) := (cell_blk q2 0).trans rfl; have r1 : w4.cell? ⟨w.heap.size, 1, none⟩ = some (.int .i64 y) := (cell_blk q2 1).trans rfl; clear q2; go_simp; try rfl); go_simp; (try with_reducible refine hK _ _ ?_); try clear hK K)
          refine rg_nil ?_
          intro W6 hw6 _
          replace hw6 := hw6.undrew
          have HB2 := Lib.hid (HB.out.trans (Below.mono hw6 HB.out.size))
          clear hw6
          go_wp2_with fail
          go_ret
          exact ⟨⟨(i : Int), rfl⟩, HW.out.1.trans (HB2.out.mono HW.out.1.size)⟩
        · have hy' : ¬ y = z.2 := fun e => hy e.symm
          go_wp2_with fail
          refine wp_region_rg Grows (fun _ => .fn) (by kernel_rfl) (by kernel_rfl) Grows.refl growsT (by intro i; trivial) ?_
          iterate 6 (refine rg_step fun K hK => ?_; apply rg_fn rfl; (intro w4 hw; have q0 := HK.out.1 w4 hw.undrew; have q1 := HK.out.2.1 w4 hw.undrew; have q2 := HK.out.2.2 w4 hw.undrew; have r0 : w4.cell? ⟨w.heap.size, 0, none⟩ = some (.int .i64 x) := (cell_blk q2 0).trans rfl; have r1 : w4.cell? ⟨w.heap.size, 1, none⟩ = some (.int .i64 y) := (cell_blk q2 1).trans rfl; clear q2; go_simp; try rfl); go_simp; (try with_reducible refine hK _ _ ?_); try clear hK K)
          refine rg_nil ?_
          intro W6 hw6 _
          replace hw6 := hw6.undrew
          have HB2 := Lib.hid (HB.out.trans (Below.mono hw6 HB.out.size))
          clear hw6
          go_wp2_with fail
          go_round
          case rel => exact ⟨i + 1, by omega, by go_num, HB2⟩
          case measure => simp [intOf]; omega
      · have hx' : ¬ x = z.1 := fun e => hx e.symm
        go_wp2_with fail
        refine wp_region_rg Grows (fun _ => .fn) (by kernel_rfl) (by kernel_rfl) Grows.refl growsT (by intro i; trivial) ?_
        iterate 6 (refine rg_step fun K hK => ?_; apply rg_fn rfl; (intro w4 hw; have q0 := HK.out.1 w4 hw.undrew; have q1 := HK.out.2.1 w4 hw.undrew; have q2 := HK.out.2.2 w4 hw.undrew; have r0 : w4.cell? ⟨w.heap.size, 0, none⟩ = some (.int .i64 x) := (cell_blk q2 0).trans rfl; have r1 : w4.cell? ⟨w.heap.size, 1, none⟩ = some (.int .i64 y) := (cell_blk q2 1).trans rfl; clear q2; go_simp; try rfl); go_simp; (try with_reducible refine hK _ _ ?_); try clear hK K)
        refine rg_nil ?_
        intro W6 hw6 _
        replace hw6 := hw6.undrew
        have HB2 := Lib.hid (HB.out.trans (Below.mono hw6 HB.out.size))
        clear hw6
        go_wp2_with fail
        go_round
        case rel => exact ⟨i + 1, by omega, by go_num, HB2⟩
        case measure => simp [intOf]; omega
    · have hii : ¬ (i : Int) < (ps.length : Int) := by omega
      go_wp2_with fail
      go_ret
      exact ⟨⟨-1, rfl⟩, HW.out.1.trans (HB.out.mono HW.out.1.size)⟩
theorem containsAts_calls (v : Value) (ps : List (Int × Int)) (x y : Int) (w : World) (h : AtsAt w w.heap.size v ps) :
    Calls Try.prog 34 #[v, .agg #[.int .i64 x, .int .i64 y]] w (BoolP w) := by
  obtain ⟨W, hW⟩ : ∃ W, W = w.alloc (.cells #[.int .i64 x, .int .i64 y] 55) := ⟨_, rfl⟩
  have hb : Below w.heap.size w W := by rw [hW]; exact below1 _ _
  have HI := Lib.hid (indexAts_calls v ps x y W ((h.below hb).mono hb.size))
  have HB := Lib.hid hb
  clear h hb
  go_enter Try.func34, Try.ntmps34
  go_wp2_with fail
  rw [← hW]
  refine HI.out.mono ?_
  rintro e w1 ⟨⟨n, rfl⟩, hb1⟩
  have HB1 := Lib.hid (HB.out.trans (hb1.mono HB.out.size))
  clear hb1 hW
  go_wp2_with fail
  go_ret
  exact ⟨⟨_, rfl⟩, HB1.out⟩
end Go.Proofs.Ytnbnhcoaggpmaaa
