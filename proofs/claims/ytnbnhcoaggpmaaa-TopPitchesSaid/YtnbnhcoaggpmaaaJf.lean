/- Roofs: the iterator over an outline's edges. -/
import Derived.Test.YtnbnhcoaggpmaaaJe
import Derived.Test.YtnbnhcoaggpmaaaY4

namespace Go.Proofs.Ytnbnhcoaggpmaaa
open Go Go.RowKit Go.Shelf
set_option maxRecDepth 100000
attribute [local go_sem] Oper.semAt_some

theorem sides_calls (A : Option Addr) (n c : Nat) (w : World) : Calls Try.prog 12 #[.slice A n c] w fun e w' => e = .returned (.func (.func 44) #[] #[.pointer (some ⟨w.heap.size, 0, none⟩)]) ∧ w' = w.alloc (.cells #[.slice A n c] 36) := by
  go_enter Try.func12, Try.ntmps12
  go_wp2_with fail
  go_ret
  exact ⟨rfl, rfl⟩
set_option maxHeartbeats 4000000 in
theorem sides_in (bx l n0 : Nat) (v : Value) (ps : List (Int × Int)) (W : World) (J Jx : World → Prop)
    (hJa : ∀ W1, J W1 → W1.heap[bx]? = some (.cells #[v] 36 (0, 0)) ∧ AtsAt W1 n0 v ps ∧ n0 ≤ W1.heap.size)
    (hJ : ∀ W1 W2, J W1 → Below W1.heap.size W1 W2 → J W2) (h0 : J W)
    (hY : ∀ (i a b c d : Int) (W1 : World), J W1 → YieldAt Fence.wide 8 Try.prog l #[.int .i64 i, .agg #[.int .i64 a, .int .i64 b, .int .i64 c, .int .i64 d]] W1 fun e W' => (e = .returned (.bool true) ∧ J W') ∨ (e = .returned (.bool false) ∧ Jx W')) :
    CallsIn Fence.wide 9 Try.prog 44 #[.func (.yield l) #[] #[], .pointer (some ⟨bx, 0, none⟩)] W fun e W' => (∃ v, e = .returned v) ∧ (J W' ∨ Jx W') := by
  obtain ⟨hbx0, ⟨A, c, rfl, hmax, hcap, hne⟩, hn0⟩ := hJa W h0
  have HY := Lib.hid hY; clear hY
  have HJ := Lib.hid hJ; clear hJ
  have HJa := Lib.hid hJa; clear hJa
  have H0 := Lib.hid h0; clear h0
  have hcs : ∀ W1, J W1 → ∀ (i : Nat) (hi : i < ps.length), ∃ b o, A = some ⟨b, o, none⟩ ∧ b < W1.heap.size ∧ W1.cell? ⟨b, o + i * 2, none⟩ = some (.int .i64 ps[i].1) ∧ W1.cell? ⟨b, o + i * 2 + 1, none⟩ = some (.int .i64 ps[i].2) := fun W1 h i hi => by
    obtain ⟨_, ⟨A', c', e, _, _, h3⟩, h4⟩ := HJa.out W1 h
    simp only [Value.slice.injEq] at e
    obtain ⟨rfl, _, _⟩ := e
    obtain ⟨b, o, e1, hlt, hc⟩ := h3 (fun e => by rw [e] at hi; simp at hi)
    exact ⟨b, o, e1, by omega, hc i ps[i] (List.getElem?_eq_getElem hi)⟩
  have HCS := Lib.hid hcs
  clear hcs hne hbx0 hn0
  have hFw : ∀ f, Fence.wide.fn f := fun _ => trivial
  refine callsIn_of_wp Try.func44 rfl trivial ?_ rfl
  simp only [Try.ntmps44, List.size_toArray, List.length_cons, List.length_nil, Nat.reduceAdd, Nat.reduceSub, Array.replicate_succ, Array.replicate_zero, List.push_toArray, List.append_toArray, List.nil_append, List.cons_append]
  have hb0 : W.cell? ⟨bx, 0, none⟩ = some (.slice A ps.length c) := by rw [cell_blk (HJa.out W H0.out).1]; rfl
  gi_wp2_with fail
  gi_loopw [7] (fun iv wr => ∃ i : Nat, i ≤ ps.length ∧ iv = .int .i64 (i : Int) ∧ Hid (J wr)) (fun iv _ => ps.length - (intOf iv).toNat)
  case atStart => exact ⟨0, Nat.zero_le _, rfl, H0⟩
  case round =>
    obtain ⟨i, hi, rfl, HJr⟩ := hrel
    by_cases hil : i < ps.length
    · have hii : (i : Int) < (ps.length : Int) := by omega
      have hi0 : (0 : Int) ≤ (i : Int) := by omega
      have hiadd : IntKind.i64.wrap ((i : Int) + 1) = (i : Int) + 1 := IntWalk.i64_in _ (by omega)
      obtain ⟨b, o, rfl, hlt, c0, c1⟩ := HCS.out wr HJr.out i hil
      gi_wp2_with fail
      obtain ⟨W2, hW2⟩ : ∃ W2, W2 = wr.alloc (.cells #[.int .i64 ps[i].1, .int .i64 ps[i].2] 55) := ⟨_, rfl⟩
      rw [← hW2]
      have hj2 : J W2 := by rw [hW2]; exact HJ.out _ _ HJr.out (below1 _ _)
      have hg4 : W2.heap[wr.heap.size]? = some (.cells #[.int .i64 ps[i].1, .int .i64 ps[i].2] 55 (0, 0)) := by rw [hW2]; exact heap_alloc_self _ _
      obtain ⟨k, hk⟩ : ∃ k, k = (i + 1) % ps.length := ⟨_, rfl⟩
      have hkl : k < ps.length := by rw [hk]; exact Nat.mod_lt _ (by omega)
      have hrem : Int.tmod ((i : Int) + 1) (ps.length : Int) = (k : Int) := by
        rw [hk, show ((i : Int) + 1) = ((i + 1 : Nat) : Int) by omega, ← Int.ofNat_tmod]
      have hq : ∀ w4, Below W2.heap.size W2 w4 → w4.cell? ⟨wr.heap.size, 0, none⟩ = some (.int .i64 ps[i].1) ∧ w4.cell? ⟨wr.heap.size, 1, none⟩ = some (.int .i64 ps[i].2) ∧ w4.cell? ⟨bx, 0, none⟩ = some (.slice (some ⟨b, o, none⟩) ps.length c) ∧ w4.cell? ⟨b, o + k * 2, none⟩ = some (.int .i64 ps[k].1) ∧ w4.cell? ⟨b, o + k * 2 + 1, none⟩ = some (.int .i64 ps[k].2) := fun w4 h4 => by
        have hj4 := HJ.out _ _ hj2 h4
        obtain ⟨b', o', e, _, k0, k1⟩ := HCS.out w4 hj4 k hkl
        simp only [Option.some.injEq, Addr.mk.injEq] at e
        obtain ⟨rfl, rfl, _⟩ := e
        have h5 := blk_below h4 hg4 (lt_blk hg4)
        exact ⟨(cell_blk h5 0).trans rfl, (cell_blk h5 1).trans rfl, (cell_blk (HJa.out _ hj4).1 0).trans rfl, k0, k1⟩
      have HQ := Lib.hid hq
      have HJ2 := Lib.hid hj2
      have hki : (k : Int) < (ps.length : Int) := by omega
      have hk0 : (0 : Int) ≤ (k : Int) := by omega
      have hnz : ¬ ps = [] := fun e => by rw [e] at hil; simp at hil
      clear hq hj2 hg4 hW2 hk c0 c1
      refine wpIn_region_rg_tail 12 Grows (fun _ => .fn) (by kernel_rfl) (fun _ => trivial) (by kernel_rfl) Grows.refl growsT (by intro i; trivial) ?_
      iterate 12 (refine rg_step fun K hK => ?_; apply rg_fn rfl; (intro w4 hw; obtain ⟨q0, q1, q2, q3, q4⟩ := HQ.out w4 hw.undrew; go_simp; try rfl); go_simp; (try with_reducible refine hK _ _ ?_); try clear hK K)
      refine rg_nil ?_
      intro w12 hw12 _
      replace hw12 := hw12.undrew
      have hj12 : J w12 := HJ.out _ _ HJ2.out hw12
      obtain ⟨fn, tmps, assign, body, hy, hR⟩ := HY.out (i : Int) ps[i].1 ps[i].2 ps[k].1 ps[k].2 w12 hj12
      clear hw12 hj12
      simp only [List.drop_succ_cons, List.drop_zero]
      gi_wp2_with fail
      refine hR.mono ?_
      rintro e w4 (⟨rfl, hjn⟩ | ⟨rfl, hjx⟩)
      · have HJ4 := Lib.hid hjn
        clear hR hy hjn
        gi_wp2_with fail
        go_round
        case rel => exact ⟨i + 1, by omega, by go_num, HJ4⟩
        case measure => simp [intOf]; omega
      · have HX := Lib.hid hjx
        clear hR hy hjx
        gi_wp2_with fail
        exact bodyPost_ret (results_none rfl _ _ _) rfl ⟨⟨_, rfl⟩, .inr HX.out⟩
    · have hii : ¬ (i : Int) < (ps.length : Int) := by omega
      gi_wp2_with fail
      go_end0
      exact ⟨⟨_, rfl⟩, .inl HJr.out⟩
end Go.Proofs.Ytnbnhcoaggpmaaa
