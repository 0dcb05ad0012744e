/- TopPitches: the row. -/
import Derived.Test.YtnbnhcoaggpmaaaRows
import Derived.Test.YtnbnhcoaggpmaaaJt
import Derived.Test.YtnbnhcoaggpmaaaJu
import Derived.WalkKit
import Derived.OpenShut
import Derived.ShutString
import Derived.ChangeOld
import Derived.Below

namespace Go.Proofs.Ytnbnhcoaggpmaaa.TopPitches
open Go Go.ChangeShapes Go.WideShapes Go.ChangeAt Go.RowKit
set_option linter.unusedVariables false

theorem own : ownKnob Try.prog.godebug = none := by kernel_rfl
theorem laidOut : laidOutB Try.prog = true := by kernel_rfl

set_option maxRecDepth 100000 in
theorem lifted (os : Os) (started : os.Started) (H : Type) (enc : TypeId × Value → H) :
    ReturnsInHanded {} Try.checked os 3 .any (Rows.topPitchesSpec.pre6 enc Try.prog Try.f3 Rows.topPitchesRow.domain false) (Rows.topPitchesSpec.post enc Try.prog Try.f3 false true false false) := by
  refine returnsInHanded_of_change (C := Try.checked) own started (by kernel_rfl) Try.func3
    (ChangeSpec.witness6 (enc := enc) (C := Try.checked) false ⟨#[], #[.agg #[.slice none 0 0, .slice none 0 0], .int .u8 0, .int .u8 0, .agg #[.int .i64 0, .int .i64 0], .int .u16 0, .int .u16 0, .int .u8 0], []⟩ 8 (by kernel_rfl) (by kernel_rfl) (by kernel_rfl) (by kernel_rfl)) ?_
  intro W base args ds gs before hval0 hW hcnd _
  have hval : ∀ (j : Nat) t v, Try.f3.params[j]? = some t → args[j]? = some v → Value.okWide Try.prog W .any base t v := hval0
  have hW' := hW
  obtain ⟨p, q, hA0, hV, rfl, hfz, hnd⟩ := hW
  have hA : DataW.TrodAll enc Try.prog W 0 (fun _ => true) true Try.f3.params.toList args.toList ds p := hA0
  rw [Try.params3] at hA hval
  obtain ⟨v0, vs0, d0, ds0, p0, q0, hargs, rfl, rfl, h0, r0⟩ := trodAll_cons hA
  obtain ⟨v1, vs1, d1, ds1, p1, q1, rfl, rfl, rfl, h1, r1⟩ := trodAll_cons r0
  obtain ⟨v2, vs2, d2, ds2, p2, q2, rfl, rfl, rfl, h2, r2⟩ := trodAll_cons r1
  obtain ⟨v3, vs3, d3, ds3, p3, q3, rfl, rfl, rfl, h3, r3⟩ := trodAll_cons r2
  obtain ⟨v4, vs4, d4, ds4, p4, q4, rfl, rfl, rfl, h4, r4⟩ := trodAll_cons r3
  obtain ⟨v5, vs5, d5, ds5, p5, q5, rfl, rfl, rfl, h5, r5⟩ := trodAll_cons r4
  obtain ⟨v6, vs6, d6, ds6, p6, q6, rfl, rfl, rfl, h6, r6⟩ := trodAll_cons r5
  obtain ⟨rfl, rfl, rfl⟩ := trodAll_nil r6
  obtain rfl : args = #[v0, v1, v2, v3, v4, v5, v6] := by cases args; simp_all
  obtain ⟨rfl, rfl⟩ := trodVars_none hV
  have k0 := h0
  have k1 := h1
  have k2 := h2
  have k3 := h3
  have k4 := h4
  have k5 := h5
  have k6 := h6
  have lt0 : ∀ x ∈ p0, x.block < W.heap.size := by obtain ⟨m, hm⟩ := k0; exact DataW.trod_lt m _ _ _ hm
  have lt1 : ∀ x ∈ p1, x.block < W.heap.size := by obtain ⟨m, hm⟩ := k1; exact DataW.trod_lt m _ _ _ hm
  have lt2 : ∀ x ∈ p2, x.block < W.heap.size := by obtain ⟨m, hm⟩ := k2; exact DataW.trod_lt m _ _ _ hm
  have lt3 : ∀ x ∈ p3, x.block < W.heap.size := by obtain ⟨m, hm⟩ := k3; exact DataW.trod_lt m _ _ _ hm
  have lt4 : ∀ x ∈ p4, x.block < W.heap.size := by obtain ⟨m, hm⟩ := k4; exact DataW.trod_lt m _ _ _ hm
  have lt5 : ∀ x ∈ p5, x.block < W.heap.size := by obtain ⟨m, hm⟩ := k5; exact DataW.trod_lt m _ _ _ hm
  have lt6 : ∀ x ∈ p6, x.block < W.heap.size := by obtain ⟨m, hm⟩ := k6; exact DataW.trod_lt m _ _ _ hm
  obtain ⟨fv, ov, fs, os2, rfl, hf, ho⟩ : ∃ fv ov fs os2, v0 = .agg #[fv, ov] ∧ FacesAt W W.heap.size fv fs ∧ OpensAt W W.heap.size ov os2 := by
    obtain ⟨fuel, hf⟩ := h0
    exact open_roof (hval 0 25 v0 rfl rfl) hf
  obtain ⟨n1, rfl⟩ := okWide_int Try.underlying5 (hval 1 5 v1 rfl rfl)
  have hn1 : 0 ≤ n1 ∧ n1 ≤ 255 := by
    obtain ⟨fuel, hf⟩ := h1
    simp only [Value.cells] at hf
    obtain ⟨n, e, _, hwf⟩ := DataW.trod_int Try.underlying5 hf
    simp at e
    subst e
    exact bounds_u8 hwf
  obtain ⟨m1, rfl⟩ : ∃ m : Nat, n1 = (m : Int) := ⟨n1.toNat, by omega⟩
  obtain ⟨n2, rfl⟩ := okWide_int Try.underlying5 (hval 2 5 v2 rfl rfl)
  have hn2 : 0 ≤ n2 ∧ n2 ≤ 255 := by
    obtain ⟨fuel, hf⟩ := h2
    simp only [Value.cells] at hf
    obtain ⟨n, e, _, hwf⟩ := DataW.trod_int Try.underlying5 hf
    simp at e
    subst e
    exact bounds_u8 hwf
  obtain ⟨m2, rfl⟩ : ∃ m : Nat, n2 = (m : Int) := ⟨n2.toNat, by omega⟩
  obtain ⟨lo, hi, rfl⟩ : ∃ lo hi, v3 = .agg #[.int .i64 lo, .int .i64 hi] := by
    obtain ⟨fuel, hf⟩ := h3
    exact open_clim (hval 3 29 v3 rfl rfl) hf
  obtain ⟨n4, rfl⟩ := okWide_int Try.underlying30 (hval 4 30 v4 rfl rfl)
  have hn4 : 0 ≤ n4 ∧ n4 ≤ 65535 := by
    obtain ⟨fuel, hf⟩ := h4
    simp only [Value.cells] at hf
    obtain ⟨n, e, _, hwf⟩ := DataW.trod_int Try.underlying30 hf
    simp at e
    subst e
    exact bounds_u16 hwf
  obtain ⟨m4, rfl⟩ : ∃ m : Nat, n4 = (m : Int) := ⟨n4.toNat, by omega⟩
  obtain ⟨n5, rfl⟩ := okWide_int Try.underlying30 (hval 5 30 v5 rfl rfl)
  have hn5 : 0 ≤ n5 ∧ n5 ≤ 65535 := by
    obtain ⟨fuel, hf⟩ := h5
    simp only [Value.cells] at hf
    obtain ⟨n, e, _, hwf⟩ := DataW.trod_int Try.underlying30 hf
    simp at e
    subst e
    exact bounds_u16 hwf
  obtain ⟨m5, rfl⟩ : ∃ m : Nat, n5 = (m : Int) := ⟨n5.toNat, by omega⟩
  obtain ⟨n6, rfl⟩ := okWide_int Try.underlying5 (hval 6 5 v6 rfl rfl)
  have hn6 : 0 ≤ n6 ∧ n6 ≤ 255 := by
    obtain ⟨fuel, hf⟩ := h6
    simp only [Value.cells] at hf
    obtain ⟨n, e, _, hwf⟩ := DataW.trod_int Try.underlying5 hf
    simp at e
    subst e
    exact bounds_u8 hwf
  obtain ⟨m6, rfl⟩ : ∃ m : Nat, n6 = (m : Int) := ⟨n6.toNat, by omega⟩
  clear hA0 hval0
  refine (topPitches_calls fv ov fs os2 m1 m2 lo hi m4 m5 m6 W hf ho (by omega) (by omega) (by omega) (by omega) (by omega)).mono fun e W' ⟨he, bel⟩ => ?_
  subst he
  exact ⟨_, rfl, _, _, _, [], _, [], hW', trodAll_mk1 (shut_bool Try.underlying4 _), (trodAll_cons_mk (Below.trod laidOut (by kernel_rfl) (of_decide_eq_true (by kernel_rfl)) k0 bel lt0) (trodAll_cons_mk (Below.trod laidOut (by kernel_rfl) (of_decide_eq_true (by kernel_rfl)) k1 bel lt1) (trodAll_cons_mk (Below.trod laidOut (by kernel_rfl) (of_decide_eq_true (by kernel_rfl)) k2 bel lt2) (trodAll_cons_mk (Below.trod laidOut (by kernel_rfl) (of_decide_eq_true (by kernel_rfl)) k3 bel lt3) (trodAll_cons_mk (Below.trod laidOut (by kernel_rfl) (of_decide_eq_true (by kernel_rfl)) k4 bel lt4) (trodAll_cons_mk (Below.trod laidOut (by kernel_rfl) (of_decide_eq_true (by kernel_rfl)) k5 bel lt5) (trodAll_cons_mk (Below.trod laidOut (by kernel_rfl) (of_decide_eq_true (by kernel_rfl)) k6 bel lt6) trodAll_mk0))))))), rfl, bel.frame _, fun h => by cases h⟩

theorem over : Rows.topPitchesRow.holds Try.pinned (OpenSpec.ofChange Rows.topPitchesSpec) :=
  OpenClaim.holds_of_wide 3 Try.f3 rfl rfl rfl rfl rfl rfl rfl ⟨rfl, rfl, rfl, rfl, rfl⟩ rfl rfl rfl rfl rfl (by kernel_rfl) Try.func3 (by kernel_rfl)
    (of_decide_eq_true (by kernel_rfl)) (by unfold Func.isWrapper; first | (rw [if_pos (by decide +kernel)]; kernel_rfl) | (rw [if_neg (by decide +kernel)]; exact ⟨rfl, rfl⟩))
    (fun os started H enc _ => lifted os started H enc)

theorem proved : Rows.TopPitchesSaid := over
#print axioms proved
end Go.Proofs.Ytnbnhcoaggpmaaa.TopPitches
