/- The small functions of package mend. -/
import Derived.Test.YtccplobhfokcgaaMw
namespace Go.Proofs.Ytccplobhfokcgaa
open Go Go.RowKit Go.Shelf
set_option maxRecDepth 100000

theorem in_calls (n lo hi : Int) (w : World) :
    Calls Try.prog 48 #[.int .i64 n, .int .i64 lo, .int .i64 hi] w fun e w' => e = .returned (.bool (decide (lo ≤ n) && decide (n ≤ hi))) ∧ w' = w := by
  by_cases h : lo ≤ n
  all_goals
    go_enter Try.func48, Try.ntmps48
    go_wp2
    go_ret
    first | (simp; done) | (simp; omega)

theorem addsMend_calls (a p t f : Int) (w : World) (ht : 0 ≤ t ∧ t ≤ 1000) (ha : 0 ≤ a ∧ a ≤ 1000) :
    Calls Try.prog 113 #[.agg #[.int .i64 a, .int .i64 p], .int .i64 t, .int .i64 f] w fun e w' => e = .returned (.int .i64 (min f (t + a))) ∧ Below w.heap.size w w' := by
  obtain ⟨ht0, ht1⟩ := ht
  obtain ⟨ha0, ha1⟩ := ha
  go_enter Try.func113, Try.ntmps113
  go_wp2
  all_goals
    go_ret
    exact ⟨ret_int (by show _ = min f (t + a); omega), below1 _ _⟩
theorem stripsMend_calls (p t f : Int) (w : World) :
    Calls Try.prog 111 #[.agg #[.int .i64 p], .int .i64 t, .int .i64 f] w fun e w' => e = .returned (.int .i64 f) ∧ Below w.heap.size w w' := by
  go_enter Try.func111, Try.ntmps111
  go_wp2
  go_ret
  exact ⟨rfl, (Below.refl _ _).alloc (Nat.le_refl _) _⟩
theorem noneMend_calls (t f : Int) (w : World) :
    Calls Try.prog 115 #[.agg #[], .int .i64 t, .int .i64 f] w fun e w' => e = .returned (.int .i64 t) ∧ Below w.heap.size w w' := by
  go_enter Try.func115, Try.ntmps115
  go_wp2
  go_ret
  exact ⟨rfl, (Below.refl _ _).alloc (Nat.le_refl _) _⟩
theorem addsPrice_calls (a p : Int) (w : World) :
    Calls Try.prog 114 #[.agg #[.int .i64 a, .int .i64 p]] w fun e w' => e = .returned (.int .i64 p) ∧ Below w.heap.size w w' := by
  go_enter Try.func114, Try.ntmps114
  go_wp2
  go_ret
  exact ⟨rfl, (Below.refl _ _).alloc (Nat.le_refl _) _⟩
theorem stripsPrice_calls (p : Int) (w : World) :
    Calls Try.prog 112 #[.agg #[.int .i64 p]] w fun e w' => e = .returned (.int .i64 p) ∧ Below w.heap.size w w' := by
  go_enter Try.func112, Try.ntmps112
  go_wp2
  go_ret
  exact ⟨rfl, (Below.refl _ _).alloc (Nat.le_refl _) _⟩
theorem nonePrice_calls (w : World) :
    Calls Try.prog 116 #[.agg #[]] w fun e w' => e = .returned (.int .i64 0) ∧ Below w.heap.size w w' := by
  go_enter Try.func116, Try.ntmps116
  go_wp2
  go_ret
  exact ⟨rfl, (Below.refl _ _).alloc (Nat.le_refl _) _⟩

theorem method_adds_price (a p : Int) (w : World) : (method 277 113 (.agg #[.int .i64 a, .int .i64 p]) "thatch/mend.price").run Try.prog w = .ok (114, .agg #[.int .i64 a, .int .i64 p]) w := by kernel_rfl
theorem method_adds_mend (a p : Int) (w : World) : (method 277 113 (.agg #[.int .i64 a, .int .i64 p]) "thatch/mend.mend").run Try.prog w = .ok (113, .agg #[.int .i64 a, .int .i64 p]) w := by kernel_rfl
theorem method_strips_price (p : Int) (w : World) : (method 277 111 (.agg #[.int .i64 p]) "thatch/mend.price").run Try.prog w = .ok (112, .agg #[.int .i64 p]) w := by kernel_rfl
theorem method_strips_mend (p : Int) (w : World) : (method 277 111 (.agg #[.int .i64 p]) "thatch/mend.mend").run Try.prog w = .ok (111, .agg #[.int .i64 p]) w := by kernel_rfl
theorem method_none_price (w : World) : (method 277 129 (.agg #[]) "thatch/mend.price").run Try.prog w = .ok (116, .agg #[]) w := by kernel_rfl
theorem method_none_mend (w : World) : (method 277 129 (.agg #[]) "thatch/mend.mend").run Try.prog w = .ok (115, .agg #[]) w := by kernel_rfl
/-- The craft of a number, as the interface's value. -/
def craftAtV (cs : List Craft) (k : Int) : Value := if k < 0 then .iface 129 (.agg #[]) else craftV (cs.getD k.toNat ⟨0, 0, false⟩)
theorem craft_calls (v0 v1 mc : Value) (y v h : Int) (cs : List Craft) (k : Int) (w : World) (hmc : McAt w w.heap.size mc cs) (h0 : -1 ≤ k) (h1 : k < cs.length) :
    Calls Try.prog 64 #[.agg #[v0, v1, .int .i64 y, .int .i64 v, .int .i64 h, mc], .int .i64 k] w fun e w' => e = .returned (craftAtV cs k) ∧ Below w.heap.size w w' := by
  by_cases hk : k < 0
  · go_enter Try.func64, Try.ntmps64
    go_wp2
    go_ret
    exact ⟨by simp [craftAtV, hk], below1 _ _⟩
  · obtain ⟨j, rfl⟩ := Int.eq_ofNat_of_zero_le (Int.not_lt.1 hk)
    have hj : j < cs.length := by omega
    obtain ⟨A, c, rfl, hr⟩ := hmc
    obtain ⟨b, o, rfl, hb, hc⟩ := hr.at_ j (by simpa using hj)
    have hj2 : j < 9223372036854775807 := by have := hr.1; simp at this; omega
    have hfin : craftAtV cs (j : Int) = craftV (cs[j]'hj) := by simp [craftAtV, hk, List.getD_eq_getElem?_getD, List.getElem?_eq_getElem hj]
    have HF := Lib.hid hfin
    simp only [List.getElem_map] at hc
    clear hr hfin h0
    generalize (cs[j]'hj) = x at *
    generalize hv : craftV x = v at *
    have HV := Lib.hid hv
    have h1c : v.oneCell' = true := by subst hv; unfold craftV; split <;> rfl
    clear hv
    go_enter Try.func64, Try.ntmps64
    go_wp2
    go_ret
    exact ⟨by rw [HF.out]; rfl, below1 _ _⟩
end Go.Proofs.Ytccplobhfokcgaa
