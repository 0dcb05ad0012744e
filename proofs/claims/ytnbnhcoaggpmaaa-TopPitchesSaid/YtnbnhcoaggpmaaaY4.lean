/- 'for row := range m.rows': the law. -/
import Derived.Test.YtnbnhcoaggpmaaaY3
import Derived.Deep.OwnRows
import Derived.Deep.RegionLaw
import Derived.RangeFuncNested
import Derived.RangeFuncBound
import Derived.RangeFuncCalls
import Derived.RangeFuncLeaves
import Derived.Shelf.Abstract
import Derived.Shelf.RegionOpen
import Derived.OwnWalkIn
import Derived.TacticsInMore
import Derived.LoopNIn
import Derived.LoopIn
import Derived.RangeFuncFrom

/- slices.Repeat at one number, few times. -/
namespace Go.Proofs.Ytnbnhcoaggpmaaa
open Go Go.RowKit Go.Shelf Go.Deep
set_option maxRecDepth 100000

theorem mul_calls (n : Nat) (w : World) (h1 : 1 ≤ n) (h4 : n ≤ 4) :
    Calls Try.prog 72 #[.int .u64 1, .int .u64 n] w fun e w' => e = .returned (.tuple #[.int .u64 0, .int .u64 n]) ∧ w = w' := by
  match n, h1, h4 with
  | 1, _, _ | 2, _, _ | 3, _, _ | 4, _, _ =>
    go_enter Try.func72, Try.ntmps72
    go_wp2
    go_ret2
    exact ⟨by kernel_rfl, rfl⟩
/-- k times -1, then 0, n numbers in all. -/
def zrow (k n : Nat) : List Value := List.replicate k (Value.int .i64 (-1)) ++ List.replicate (n - k) (Value.int .i64 0)
theorem zrow_length {k n : Nat} (h : k ≤ n) : (zrow k n).length = n := by simp [zrow]; omega
def ones (k : Nat) : List Value := List.replicate k (Value.int .i64 (-1))
theorem ones_length (k : Nat) : (ones k).length = k := by simp [ones]
theorem ones_one (k : Nat) : ∀ v ∈ ones k, v.oneCell' = true := by
  intro v hv
  rw [(List.mem_replicate.1 hv).2]; rfl
theorem ones_at {k j : Nat} {u : Value} (h : (ones k)[j]? = some u) : j < k ∧ u = .int .i64 (-1) := by
  unfold ones at h
  rw [List.getElem?_replicate] at h
  split at h
  · exact ⟨by assumption, (Option.some.inj h).symm⟩
  · cases h
theorem zrow_at {k n j : Nat} (h : j < k) : (zrow k n)[j]? = some (.int .i64 (-1)) := by
  unfold zrow
  rw [List.getElem?_append_left (by simpa using h), List.getElem?_replicate, if_pos h]
theorem splice_zrow (k n : Nat) (hk : k ≤ n) (j : Nat) (hj : k + j ≤ n) : splice (zrow k n) k (ones j) = zrow (k + j) n := by
  unfold splice zrow ones
  rw [List.take_append_of_le_length (by simp), List.take_of_length_le (by simp), List.drop_append]
  simp only [List.length_replicate, List.drop_replicate]
  rw [← List.append_assoc, List.replicate_append_replicate, show k - (k + j) = 0 by omega, show n - k - (k + j - k) = n - (k + j) by omega]
  simp only [List.replicate_zero, List.nil_append]
/-- A row of n cells whose first k ones are -1. -/
def Ones (w : World) (g n k : Nat) : Prop := ∃ cur : List Value, w.heap[g]? = some (.cells cur.toArray 3 (0, 0)) ∧ cur.length = n ∧ ∀ i, i < k → cur[i]? = some (.int .i64 (-1))
/-- Nothing but that row is written, and what is -1 there stays so. -/
def OnesR (g n : Nat) (w w' : World) : Prop := Bel (· = g) w w' ∧ ∀ k, Ones w g n k → Ones w' g n k
theorem onesR_refl (g n : Nat) (w : World) : OnesR g n w w := ⟨Bel.refl _ _, fun _ h => h⟩
theorem onesR_trans (g n : Nat) (a b c : World) (h : OnesR g n a b) (k : OnesR g n b c) : OnesR g n a c := ⟨h.1.trans k.1, fun j hj => k.2 j (h.2 j hj)⟩
theorem heap_setRow {w : World} {g : Nat} {cur : Array Value} {t : TypeId} {fr : Nat × Nat} (h : w.heap[g]? = some (.cells cur t fr)) (cs : Array Value) : (w.setRow g cs).heap[g]? = some (.cells cs t fr) := by
  simp [World.setRow, Array.getElem?_modify, h]
theorem heap_setRow_ne (w : World) (g i : Nat) (cs : Array Value) (h : i ≠ g) : (w.setRow g cs).heap[i]? = w.heap[i]? := by
  simp [World.setRow, Array.getElem?_modify, Ne.symm h]
/-- copy(xs[k:], xs[:k]) within such a row. -/
theorem ones_copy (w : World) (g n k : Nat) (hk : k ≤ n) (h : Ones w g n k) (hk1 : 1 ≤ k) : ∃ w', (Builtin.copy_ #[41, 41] 3 #[.slice (some ⟨g, k, none⟩) (n - k) (n - k), .slice (some ⟨g, 0, none⟩) k n]).run Try.prog w = .ok (.int .i64 (min k (n - k) : Nat)) w' ∧
    OnesR g n w w' ∧ Ones w' g n (k + min k (n - k)) := by
  obtain ⟨cur, hh, hl, ho⟩ := h
  have hsrc : ∀ j u, (ones (min k (n - k)))[j]? = some u → w.cell? ((⟨g, 0, none⟩ : Addr).add j) = some u := by
    intro j u hu
    obtain ⟨hj, rfl⟩ := ones_at hu
    rw [show (⟨g, 0, none⟩ : Addr).add j = ⟨g, j, none⟩ by unfold Addr.add; split <;> simp_all, cell_blk hh]
    simpa using ho j (by omega)
  have hrun := run_copy_row (P := Try.prog) w 41 41 3 3 g k (n - k) (n - k) ⟨g, 0, none⟩ k n cur.toArray 3 (ones (min k (n - k))) Try.underlying41 (by kernel_rfl) hh (by rw [ones_length]) hsrc (by rw [ones_length]; simp; omega) (ones_one _)
  rw [ones_length] at hrun
  have hlen : (cur.take k ++ ones (min k (n - k)) ++ cur.drop (k + min k (n - k))).length = n := by simp [ones_length]; omega
  have hnew : ∀ i, (i < k + min k (n - k) → (cur.take k ++ ones (min k (n - k)) ++ cur.drop (k + min k (n - k)))[i]? = some (.int .i64 (-1))) ∧
      (k + min k (n - k) ≤ i → (cur.take k ++ ones (min k (n - k)) ++ cur.drop (k + min k (n - k)))[i]? = cur[i]?) := by
    intro i
    have hl1 : (cur.take k).length = k := by simp; omega
    constructor
    · intro hi
      rw [List.getElem?_append_left (by rw [List.length_append, hl1, ones_length]; exact hi)]
      rcases Nat.lt_or_ge i k with h1 | h1
      · rw [List.getElem?_append_left (by rw [hl1]; exact h1), List.getElem?_take, if_pos h1]; exact ho i h1
      · rw [List.getElem?_append_right (by rw [hl1]; exact h1), hl1]
        unfold ones
        rw [List.getElem?_replicate, if_pos (by omega)]
    · intro hi
      rw [List.getElem?_append_right (by rw [List.length_append, hl1, ones_length]; exact hi), List.length_append, hl1, ones_length, List.getElem?_drop]
      congr 1
      omega
  refine ⟨_, hrun, ⟨⟨rfl, rfl, rfl, by simp, fun i _ hne => heap_setRow_ne _ _ _ _ hne⟩, ?_⟩, _, heap_setRow hh _, hlen, fun i hi => (hnew i).1 hi⟩
  rintro j ⟨cur2, hh2, hl2, ho2⟩
  have e : cur2 = cur := by
    rw [hh] at hh2
    injection hh2 with hh2
    injection hh2 with hh2
    have := congrArg Array.toList hh2
    simpa using this.symm
  subst e
  refine ⟨_, heap_setRow hh _, hlen, fun i hi => ?_⟩
  rcases Nat.lt_or_ge i (k + min k (n - k)) with h1 | h1
  · exact (hnew i).1 h1
  · exact ((hnew i).2 h1).trans (ho2 i hi)

set_option maxHeartbeats 2000000 in
theorem repeat_calls (b : Nat) (n : Nat) (w : World) (hb : w.heap[b]? = some (.cells #[.int .i64 (-1)] 3)) (h1 : 1 ≤ n) (h4 : n ≤ 4) :
    Calls Try.prog 56 #[.slice (some ⟨b, 0, none⟩) 1 1, .int .i64 n] w fun e w' => ∃ g, e = .returned (.slice (some ⟨g, 0, none⟩) n n) ∧ w.heap.size ≤ g ∧ w'.heap[g]? = some (.cells (List.replicate n (.int .i64 (-1))).toArray 3) ∧ Below w.heap.size w w' := by
  have hcn : IntKind.u64.wrap (n : Int) = (n : Int) := IntWalk.u64_in _ (by omega)
  have hci : IntKind.i64.wrap (n : Int) = (n : Int) := IntWalk.i64_in _ (by omega)
  have hmk : ∀ W : World, (Instr.makeSlice 41 (.int .i64 (n : Int)) (.int .i64 (n : Int))).run Try.prog W = .ok (.slice (some ⟨W.heap.size, 0, none⟩) n n) (W.alloc (.cells (madeCells #[.int .i64 0] n) 3)) :=
    fun W => run_make_row' 41 3 (.int .i64 0) 8 Try.underlying41 infoInt rfl .i64 .i64 n (by omega) (by omega) W
  have hmc : (madeCells #[Value.int .i64 0] n) = (zrow 0 n).toArray := by
    simp only [madeCells, zrow, List.replicate_zero, List.nil_append, Nat.sub_zero]
    apply Array.ext
    · simp
    · intro i h1 h2
      simp [Nat.mod_one]
  rw [hmc] at hmk
  clear hmc
  have hn1 : (1 : Int) ≤ (n : Int) := by omega
  have hn0 : ¬ (n : Int) < 0 := by omega
  have hbig : decide ((9223372036854775807 : Int) < (n : Int)) = false := by simp; omega
  go_enter Try.func56, Try.ntmps56
  have HF : Hid (∀ (e : Ending) (w' : World), (e = .returned (.slice (some ⟨w.heap.size, 0, none⟩) n n) ∧ Ones w' w.heap.size n n ∧ Below w.heap.size w w') → ∃ g, e = .returned (.slice (some ⟨g, 0, none⟩) n n) ∧ w.heap.size ≤ g ∧ w'.heap[g]? = some (.cells (List.replicate n (.int .i64 (-1))).toArray 3) ∧ Below w.heap.size w w') := by
    rintro e w' ⟨he, hh, hb⟩
    obtain ⟨cur, h1, h2, h3⟩ := hh
    have e : cur = List.replicate n (.int .i64 (-1)) := by
      apply List.ext_getElem?
      intro i
      rcases Nat.lt_or_ge i n with h | h
      · rw [h3 i h, List.getElem?_replicate, if_pos h]
      · rw [List.getElem?_eq_none (by omega), List.getElem?_eq_none (by simpa using h)]
    subst e
    exact ⟨w.heap.size, he, Nat.le_refl _, h1, hb⟩
  have hsrc : ∀ j u, (ones 1)[j]? = some u → (w.alloc (.cells (zrow 0 n).toArray 3)).cell? ((⟨b, 0, none⟩ : Addr).add j) = some u := by
    intro j u hu
    obtain ⟨hj, rfl⟩ := ones_at hu
    obtain rfl : j = 0 := by omega
    rw [show (⟨b, 0, none⟩ : Addr).add 0 = ⟨b, 0, none⟩ by unfold Addr.add; split <;> simp_all]
    exact ((below1 w _).cell (p := ⟨b, 0, none⟩) (lt_blk hb)).trans (cell_blk hb 0)
  have HSRC := Lib.hid hsrc; clear hsrc
  go_wp2_with (first | (go_at_call 72; refine (mul_calls n _ h1 h4).mono ?_; rintro e w' ⟨rfl, rfl⟩) | (with_reducible refine wpList_copy_splice rfl _ _ 41 41 rfl 3 Try.underlying41 (by kernel_rfl) (some ⟨w.heap.size, 0, none⟩) (some ⟨b, 0, none⟩) n n 1 1 rfl rfl w.heap.size 0 (zrow 0 n) 3 (heap_alloc_self _ _) (ones 1) (by rw [ones_length]; simp [Nat.min_def]; omega) (fun _ => ⟨rfl, _, rfl, HSRC.out⟩) (by rw [ones_length, zrow_length (by omega)]; omega) (ones_one 1) w.heap.size w (below1 _ _) (Nat.le_refl _) ?_; intro w1 g1 hb1))
  rw [splice_zrow 0 n (by omega) 1 (by omega)] at g1
  have G1 : Ones w1 w.heap.size n 1 := ⟨_, g1.out, zrow_length (by omega), fun i hi => zrow_at (by omega)⟩
  clear g1
  rw [ones_length]
  go_loopw [8] (fun c wr => ∃ k : Nat, 1 ≤ k ∧ k ≤ n ∧ c = .int .i64 k ∧ Ones wr w.heap.size n k ∧ Below w.heap.size w wr) (fun c _ => n - (intOf c).toNat)
  case atStart => exact ⟨1, Nat.le_refl _, h1, rfl, G1, hb1⟩
  case round =>
    obtain ⟨k, hk1, hk, rfl, hh, hbe⟩ := hrel
    by_cases hlt : k < n
    · have hkn : (k : Int) < (n : Int) := by omega
      have hk0 : (0 : Int) ≤ (k : Int) := by omega
      have hkl : (k : Int) ≤ (n : Int) := by omega
      have hne : ¬ n = k := by omega
      have hmin : 1 ≤ min k (n - k) ∧ k + min k (n - k) ≤ n := by omega
      have HH := Lib.hid (show Ones wr.drew w.heap.size n k from hh)
      clear hh
      generalize hq : min k (n - k) = q at *
      have HQ := Lib.hid hq; clear hq
      have hm1 := hmin.1
      have hm2 := hmin.2
      clear hmin
      have hwq : IntKind.i64.wrap ((k : Int) + (q : Int)) = (k : Int) + (q : Int) := IntWalk.i64_in _ (by omega)
      go_wp2_with fail
      refine wp_region_rg (OnesR w.heap.size n) (fun | 7 => .exw (.int .i64 q) (fun w' => Ones w' w.heap.size n (k + q)) | _ => .fn) (by kernel_rfl) (by kernel_rfl) (onesR_refl _ _) (onesR_trans _ _) (by intro i; split <;> first | trivial | exact fun a b hr hd => hr.2 _ hd) ?_
      iterate 7 (refine rg_step fun K hK => ?_; apply rg_fn rfl; (intro w1 hw; go_simp; try rfl); go_simp; refine hK _ _ ?_; clear hK K)
      refine rg_step fun K hK => ?_
      apply rg_exw rfl
      · intro w1 hw
        obtain ⟨w2, h1, h2, h3⟩ := ones_copy w1 w.heap.size n k hk (hw.2 _ HH.out) hk1
        rw [HQ.out] at h1 h3
        refine ⟨w2, ?_, h2, h3⟩
        clear h2 h3 hw
        go_simp
      go_simp
      refine hK _ _ ?_
      clear hK K
      iterate 2 (refine rg_step fun K hK => ?_; apply rg_fn rfl; (intro w1 hw; go_simp; try rfl); go_simp; refine hK _ _ ?_; clear hK K)
      refine rg_nil ?_
      intro w3 hw3 hp
      have h3 : Ones w3 w.heap.size n (k + q) := by first | exact hp | exact hp.2
      have hb3 : Below w.heap.size w w3 := hbe.trans ((show Bel _ wr w3 from ⟨hw3.1.os, hw3.1.tape, hw3.1.output, hw3.1.size, hw3.1.block⟩).below hbe.size (fun j hj => by omega))
      clear hp hw3
      go_wp2_with fail
      go_roundw
      case rel => (repeat apply Exists.intro); exact ⟨⟨k + q, by omega, by omega, by go_num, h3, hb3⟩, rfl⟩
      case measure => simp [intOf]; omega
    · obtain rfl : k = n := by omega
      go_wp2_with fail
      go_ret
      exact HF.out _ _ ⟨rfl, hh, hbe⟩
end Go.Proofs.Ytnbnhcoaggpmaaa

/- rows of package mend: the iterator. -/
namespace Go.Proofs.Ytnbnhcoaggpmaaa
open Go Go.RowKit Go.Shelf
set_option maxRecDepth 100000

/-! ### The odometer -/
/-- The row at k, the last t digits of which have been carried. -/
def carry (c n k t : Nat) : List Int := unval c (n - t) (k / (c + 1) ^ t) ++ List.replicate t (-1)
theorem carry_zero (c n k : Nat) : carry c n k 0 = unval c n k := by simp [carry]
theorem carry_length (c n k t : Nat) (h : t ≤ n) : (carry c n k t).length = n := by simp [carry, unval_length]; omega
theorem carry_cons (c n k t : Nat) (h : t < n) : carry c n k t = unval c (n - t - 1) (k / (c + 1) ^ (t + 1)) ++ (((k / (c + 1) ^ t % (c + 1) : Nat) : Int) - 1) :: List.replicate t (-1) := by
  unfold carry
  rw [show n - t = (n - t - 1) + 1 by omega, unval, Nat.div_div_eq_div_mul, Nat.pow_succ, List.append_assoc]
  simp
theorem carry_at (c n k t : Nat) (h : t < n) : (carry c n k t)[n - t - 1]? = some (((k / (c + 1) ^ t % (c + 1) : Nat) : Int) - 1) := by
  rw [carry_cons c n k t h, List.getElem?_append_right (by rw [unval_length]; exact Nat.le_refl _), unval_length]; simp
theorem carry_set (c n k t : Nat) (h : t < n) (x : Int) : (carry c n k t).set (n - t - 1) x = unval c (n - t - 1) (k / (c + 1) ^ (t + 1)) ++ x :: List.replicate t (-1) := by
  rw [carry_cons c n k t h, List.set_append_right _ _ (by rw [unval_length]; exact Nat.le_refl _), unval_length]; simp
theorem carry_next (c n k t : Nat) (h : t < n) : (carry c n k t).set (n - t - 1) (-1) = carry c n k (t + 1) := by
  rw [carry_set c n k t h]; unfold carry
  rw [show n - (t + 1) = n - t - 1 by omega, List.replicate_succ]
theorem carry_full {c k t : Nat} (h : k % (c + 1) ^ t = (c + 1) ^ t - 1) (hd : k / (c + 1) ^ t % (c + 1) = c) : k % (c + 1) ^ (t + 1) = (c + 1) ^ (t + 1) - 1 := by
  rw [Nat.pow_succ, Nat.mod_mul, h, hd]
  have : 0 < (c + 1) ^ t := Nat.pow_pos (by omega)
  rw [Nat.mul_add, Nat.mul_one]
  omega
theorem carry_done {c n k t : Nat} (ht : t < n) (h : k % (c + 1) ^ t = (c + 1) ^ t - 1) (hd : k / (c + 1) ^ t % (c + 1) < c) :
    (carry c n k t).set (n - t - 1) (((k / (c + 1) ^ t % (c + 1) : Nat) : Int) - 1 + 1) = unval c n (k + 1) := by
  have hp : 0 < (c + 1) ^ t := Nat.pow_pos (by omega)
  have hk : k + 1 = (k / (c + 1) ^ t + 1) * (c + 1) ^ t := by
    have := Nat.div_add_mod k ((c + 1) ^ t)
    rw [h] at this
    rw [Nat.add_mul, Nat.one_mul, Nat.mul_comm]
    omega
  rw [carry_set c n k t ht]
  obtain ⟨j, rfl⟩ : ∃ j, n = (j + 1) + t := ⟨n - t - 1, by omega⟩
  rw [hk, unval_mul, unval_succ_last c j _ hd, show j + 1 + t - t - 1 = j by omega, Nat.div_div_eq_div_mul, ← Nat.pow_succ, List.append_assoc]
  simp
theorem carry_end {c n k : Nat} (hk : k < (c + 1) ^ n) (h : k % (c + 1) ^ n = (c + 1) ^ n - 1) : k + 1 = (c + 1) ^ n := by
  rw [Nat.mod_eq_of_lt hk] at h
  omega

theorem carry_more {c n k t : Nat} (ht : t < n) (hk : k < (c + 1) ^ n) (hd : k / (c + 1) ^ t % (c + 1) < c) : k + 1 < (c + 1) ^ n := by
  have hp : 0 < (c + 1) ^ t := Nat.pow_pos (by omega)
  obtain ⟨j, rfl⟩ : ∃ j, n = (j + 1) + t := ⟨n - t - 1, by omega⟩
  have he : (c + 1) ^ (j + 1 + t) = ((c + 1) ^ j * (c + 1)) * (c + 1) ^ t := by rw [Nat.pow_add, Nat.pow_succ]
  rw [he] at hk ⊢
  have hq : k / (c + 1) ^ t < (c + 1) ^ j * (c + 1) := (Nat.div_lt_iff_lt_mul hp).2 hk
  have hq2 : k / (c + 1) ^ t + 1 < (c + 1) ^ j * (c + 1) := by
    rcases Nat.lt_or_ge (k / (c + 1) ^ t + 1) ((c + 1) ^ j * (c + 1)) with h | h
    · exact h
    · have e : k / (c + 1) ^ t + 1 = (c + 1) ^ j * (c + 1) := by omega
      have e2 : (k / (c + 1) ^ t + 1) % (c + 1) = 0 := by rw [e]; exact Nat.mul_mod_left _ _
      have e3 : (k / (c + 1) ^ t + 1) % (c + 1) = k / (c + 1) ^ t % (c + 1) + 1 := by
        have h1 : 1 % (c + 1) = 1 := Nat.mod_eq_of_lt (by omega)
        rw [Nat.add_mod, h1, Nat.mod_eq_of_lt (by omega)]
      omega
  have h1 : k < (k / (c + 1) ^ t + 1) * (c + 1) ^ t := by
    have := Nat.div_add_mod k ((c + 1) ^ t)
    have := Nat.mod_lt k hp
    rw [Nat.add_mul, Nat.one_mul, Nat.mul_comm]; omega
  exact Nat.lt_of_le_of_lt h1 (Nat.mul_lt_mul_of_pos_right hq2 hp)

/-- The number of a row, read off its cells. -/
def valL (c : Nat) (l : List Int) : Nat := l.foldl (fun a x => a * (c + 1) + (x + 1).toNat) 0
theorem valL_unval (c : Nat) : ∀ n k, valL c (unval c n k) = k % (c + 1) ^ n
  | 0, k => by simp [unval, valL, Nat.mod_one]
  | n + 1, k => by
    have ih := valL_unval c n (k / (c + 1))
    unfold valL at *
    rw [unval, List.foldl_append, ih]
    simp only [List.foldl_cons, List.foldl_nil]
    rw [Nat.pow_succ, Nat.mul_comm ((c + 1) ^ n), Nat.mod_mul, show ((((k % (c + 1) : Nat) : Int) - 1 + 1).toNat) = k % (c + 1) by omega, Nat.mul_comm (c + 1), Nat.add_comm]
def rowLeft (m : Wk) (g : Nat) (w : World) : Nat := rowsN m - match w.heap[g]? with
  | some (.cells cs _ _) => valL m.crafts.length (cs.toList.map intOf)
  | _ => 0
theorem rowLeft_eq (m : Wk) (g k : Nat) (w : World) (hk : k < rowsN m) (h : w.heap[g]? = some (.cells ((rowK m k).map (Value.int .i64)).toArray 3 (0, 0))) : rowLeft m g w = rowsN m - k := by
  unfold rowLeft
  rw [h]
  have : List.map (intOf ∘ Value.int IntKind.i64) (rowK m k) = rowK m k := by
    conv => rhs; rw [← List.map_id (rowK m k)]
    rfl
  simp only [List.map_map, this]
  rw [show valL m.crafts.length (rowK m k) = k from (valL_unval _ _ _).trans (Nat.mod_eq_of_lt hk)]
theorem map_set_int (l : List Int) (i : Nat) (x : Int) : ((l.map (Value.int .i64)).toArray).setIfInBounds i (.int .i64 x) = ((l.set i x).map (Value.int .i64)).toArray := by
  simp [List.map_set]
/-- What lies from the head of the loop's call to the iterator's own blocks. -/
def Mid (lo hi : Nat) (j : Nat) : Prop := lo ≤ j ∧ j < hi

set_option maxHeartbeats 4000000 in
/-- **rows**: each row that may be is handed over, in order, until a round says 'no more'. -/
theorem rows_in (m : Wk) (hm : 1 ≤ m.slopes.length ∧ m.slopes.length ≤ 4) (hc : m.crafts.length ≤ 4) (sA cA mA : Option Addr) (sc cn cc mc : Nat) (l : Nat) (W : World)
    (J Jx : Nat → Nat → World → Prop)
    (hJ : ∀ B k W1 W2, W.heap.size ≤ B → J B k W1 → Bel (Mid W.heap.size B) W1 W2 → J B k W2)
    (h0 : ∀ B W1, W.heap.size ≤ B → B ≤ W1.heap.size → Below W.heap.size W W1 → J B 0 W1)
    (hY : ∀ B k W1 rv row, W.heap.size ≤ B → B ≤ W1.heap.size → (rowsS m)[k]? = some row → J B k W1 → IntsAt W1 B rv row → YieldAt Fence.wide 8 Try.prog l #[rv] W1 fun e W' =>
      (e = .returned (.bool true) ∧ J B (k + 1) W' ∧ W1.heap.size ≤ W'.heap.size ∧ ∀ j, Mid W.heap.size B j → W'.heap[j]? = W1.heap[j]?) ∨ (e = .returned (.bool false) ∧ Jx B (k + 1) W')) :
    CallsIn Fence.wide 9 Try.prog 23 #[.agg #[.slice sA m.slopes.length sc, .slice cA cn cc, .int .i64 m.years, .int .i64 m.visit, .int .i64 m.hands, .slice mA m.crafts.length mc], .func (.yield l) #[] #[]] W
      fun e W' => (∃ v, e = .returned v) ∧ ∃ B, W.heap.size ≤ B ∧ (J B (rowsS m).length W' ∨ ∃ k, 1 ≤ k ∧ k ≤ (rowsS m).length ∧ Jx B k W') := by
  have HY := Lib.hid hY; clear hY
  have HJ := Lib.hid hJ; clear hJ
  have H0 := Lib.hid h0; clear h0
  obtain ⟨hm1, hm4⟩ := hm
  have hFw : ∀ f, Fence.wide.fn f := fun _ => trivial
  refine callsIn_of_wp Try.func23 rfl trivial ?_ rfl
  simp only [Try.ntmps23, List.size_toArray, List.length_cons, List.length_nil, Nat.reduceAdd, Nat.reduceSub, Array.replicate_succ, Array.replicate_zero, List.push_toArray, List.append_toArray, List.nil_append, List.cons_append]
  gi_wp2_with (gi_at_call 56; refine (callsIn_wide.2 (repeat_calls (W.heap.size + 1) m.slopes.length _ (by simpa using heap_alloc_self (W.alloc _) _) hm1 hm4)).mono ?_; rintro e w1 ⟨g, rfl, hg, hgb, hb1⟩)
  have hg' : W.heap.size + 2 ≤ g := by simpa using hg
  have hbox : w1.heap[W.heap.size]? = some (.cells #[.slice sA m.slopes.length sc, .slice cA cn cc, .int .i64 m.years, .int .i64 m.visit, .int .i64 m.hands, .slice mA m.crafts.length mc] 75) :=
    blk_below hb1 ((Below.heap_alloc _ _ _ (by simp)).trans (heap_alloc_self _ _)) (by simp; omega)
  have hW1 : Below W.heap.size W w1 := ((below1 _ _).alloc (by simp) _).trans (hb1.mono (by simp; omega))
  have hrow0 : w1.heap[g]? = some (.cells ((rowK m 0).map (Value.int .i64)).toArray 3 (0, 0)) := by
    rw [hgb, rowK, unval_zero]; simp
  have hgs := lt_blk hgb
  have hj0 := H0.out w1.heap.size w1 hW1.size (Nat.le_refl _) hW1
  have HR0 := Lib.hid hrow0
  have HB0 := Lib.hid hbox
  have HJ0 := Lib.hid hj0
  clear hgb hbox hW1 hj0 hb1 hrow0 hg
  generalize hB : w1.heap.size = B at *
  have hWB : W.heap.size + 2 ≤ B := by omega
  gi_loopw [5] (fun _ wr => ∃ k : Nat, k < rowsN m ∧ B ≤ wr.heap.size ∧ Hid (wr.heap[g]? = some (.cells ((rowK m k).map (Value.int .i64)).toArray 3 (0, 0))) ∧
    Hid (wr.heap[W.heap.size]? = some (.cells #[.slice sA m.slopes.length sc, .slice cA cn cc, .int .i64 m.years, .int .i64 m.visit, .int .i64 m.hands, .slice mA m.crafts.length mc] 75)) ∧ Hid (J B (rowsTo m k).length wr)) (fun _ wr => rowLeft m g wr)
  case atStart => exact ⟨0, Nat.pow_pos (by omega), by omega, HR0, HB0, HJ0⟩
  case round =>
    obtain ⟨k, hk, hBs, hrw, hbx, hjk⟩ := hrel
    have hb0 := hbx.out
    obtain ⟨m0, m1, m2, m3, m4, m5⟩ := blk6 hb0
    have hrc : RowC wr wr.heap.size (some ⟨g, 0, none⟩) ((rowK m k).map (Value.int .i64)) := ⟨by simp [rowK, unval_length]; omega, fun _ => ⟨g, 0, rfl, lt_blk hrw.out, fun j u hu => by rw [cell_blk hrw.out]; simpa using hu⟩⟩
    have hmay := may_calls m sA cA mA (some ⟨g, 0, none⟩) sc cn cc mc m.slopes.length (rowK m k) wr hrc (by omega) (by omega)
    rw [show (rowK m k).length = m.slopes.length from unval_length _ _ _] at hmay
    have HMAY := Lib.hid hmay
    clear hb0 hrc hmay
    have hsuc := rowsTo_succ m k
    have hpre := rowsTo_prefix m (show k + 1 ≤ rowsN m by omega)
    have HSUC := Lib.hid hsuc
    have HPRE := Lib.hid hpre
    clear hsuc hpre
    cases hmy : mayS m (rowK m k)
    · rw [hmy] at HMAY HSUC
      have HMY := Lib.hid hmy; clear hmy
      gi_wp2_with (gi_at_call 57; refine (callsIn_wide.2 HMAY.out).mono ?_; rintro e w2 ⟨rfl, hb2⟩)
      have hjn : J B (rowsTo m (k + 1)).length w2 := by
        rw [HSUC.out]; simp only [Bool.false_eq_true, if_false, List.append_nil]
        exact HJ.out _ _ _ _ (by omega) hjk.out (Bel.of_below hb2)
      have hBs2 : B ≤ w2.heap.size := Nat.le_trans hBs hb2.size
      have hrw2 := blk_below hb2 hrw.out (lt_blk hrw.out)
      have hbx2 := blk_below hb2 hbx.out (lt_blk hbx.out)

      have hn0 : (m.slopes.length : Int) - ((0 : Nat) : Int) - 1 = (m.slopes.length : Int) - 1 := by omega
      have hlk : (rowK m k).length = m.slopes.length := unval_length _ _ _
      have HRW2 := Lib.hid hrw2
      have HBX2 := Lib.hid hbx2
      have HJN := Lib.hid hjn
      clear hrw2 hbx2 hjn hb2
      obtain ⟨wo, rfl⟩ : ∃ wo : World, wo = wr := ⟨_, rfl⟩
      gi_loopw [5] (fun i wi => ∃ t : Nat, t ≤ m.slopes.length ∧ i = .int .i64 ((m.slopes.length : Int) - (t : Int) - 1) ∧ k % (m.crafts.length + 1) ^ t = (m.crafts.length + 1) ^ t - 1 ∧ B ≤ wi.heap.size ∧
        Hid (wi.heap[g]? = some (.cells ((carry m.crafts.length m.slopes.length k t).map (Value.int .i64)).toArray 3 (0, 0))) ∧
        Hid (wi.heap[W.heap.size]? = some (.cells #[.slice sA m.slopes.length sc, .slice cA cn cc, .int .i64 m.years, .int .i64 m.visit, .int .i64 m.hands, .slice mA m.crafts.length mc] 75)) ∧ Hid (J B (rowsTo m (k + 1)).length wi)) (fun i _ => (intOf i + 1).toNat)
      case atStart => exact ⟨0, Nat.zero_le _, by rw [hn0], by simp [Nat.mod_one], hBs2, by rw [carry_zero]; exact HRW2, HBX2, HJN⟩
      case round =>
        obtain ⟨t, ht, rfl, hmod, hBi, hri, hbi, hji⟩ := hrel
        have hbi0 := hbi.out
        obtain ⟨b0, b1, b2, b3, b4, b5⟩ := blk6 hbi0
        have hWi : W.heap.size < wr.heap.size := by omega
        clear hbi0
        by_cases htn : t = m.slopes.length
        · subst htn
          have hi1 : (m.slopes.length : Int) - (m.slopes.length : Int) - 1 = -1 := by omega
          have hfin : k + 1 = rowsN m := carry_end hk hmod
          rw [hi1]
          have HFIN := Lib.hid hfin; clear hfin hi1
          gi_wp2_with fail
          refine wpIn_region_rg (Below wr.heap.size) (fun _ => .fn) (by kernel_rfl) (fun _ => trivial) (by kernel_rfl) (Below.refl _) belowR (fun _ => trivial) ?_
          iterate 3 (refine rg_step fun K hK => ?_; apply rg_fn rfl; (intro w4 hw; have hc := below_cells (undrew hw); go_simp; try rfl); go_simp; (try with_reducible refine hK _ _ ?_); try clear hK K)
          iterate 9 (refine rg_step fun K hK => rg_skip rfl ?_; go_simp; (try with_reducible refine hK _ _ ?_); try clear hK K)
          iterate 1 (refine rg_step fun K hK => ?_; apply rg_fn rfl; (intro w4 hw; have hc := below_cells (undrew hw); go_simp; try rfl); go_simp; (try with_reducible refine hK _ _ ?_); try clear hK K)
          refine rg_nil ?_
          intro w5 hw5 _
          replace hw5 := undrew hw5
          have hj5 := HJ.out _ _ _ _ (by omega) hji.out (Bel.of_below hw5)
          rw [HFIN.out] at hj5
          have HJ5 := Lib.hid hj5
          clear hw5 hj5
          gi_wp2_with fail
          exact bodyPost_ret (results_none rfl _ _ _) rfl ⟨⟨_, rfl⟩, B, by omega, .inl HJ5.out⟩
        · obtain ⟨i, hi⟩ : ∃ i, i + t + 1 = m.slopes.length := ⟨m.slopes.length - t - 1, by omega⟩
          have hiv : (m.slopes.length : Int) - (t : Int) - 1 = (i : Int) := by omega
          have hca := carry_at m.crafts.length m.slopes.length k t (by omega)
          rw [show m.slopes.length - t - 1 = i by omega] at hca
          have hcell : wr.cell? ⟨g, i, none⟩ = some (.int .i64 (((k / (m.crafts.length + 1) ^ t % (m.crafts.length + 1) : Nat) : Int) - 1)) := by
            rw [cell_blk hri.out]; simp [hca]
          have hdlt : k / (m.crafts.length + 1) ^ t % (m.crafts.length + 1) < m.crafts.length + 1 := Nat.mod_lt _ (by omega)
          have HCA := Lib.hid hca
          have hin : (i : Int) < (m.slopes.length : Int) := by omega
          have hi0 : (0 : Int) ≤ (i : Int) := by omega
          rw [hiv]
          generalize hd : k / (m.crafts.length + 1) ^ t % (m.crafts.length + 1) = d at *
          have HD := Lib.hid hd
          clear hca hd hiv
          have hgi : g < wr.heap.size := by omega
          have hsb : IntKind.i64.wrap ((m.crafts.length : Int) - 1) = (m.crafts.length : Int) - 1 := IntWalk.i64_in _ (by omega)
          have hcc : (0 : Int) ≤ (m.crafts.length : Int) := by omega
          gi_wp2_with fail
          refine wpIn_region_rg (Below wr.heap.size) (fun _ => .fn) (by kernel_rfl) (fun _ => trivial) (by kernel_rfl) (Below.refl _) belowR (fun _ => trivial) ?_
          iterate 13 (refine rg_step fun K hK => ?_; apply rg_fn rfl; (intro w4 hw; have hc := below_cells (undrew hw); go_simp; try rfl); go_simp; (try with_reducible refine hK _ _ ?_); try clear hK K)
          refine rg_nil ?_
          intro w5 hw5 _
          replace hw5 := undrew hw5
          have hj5 := HJ.out _ _ _ _ (by omega) hji.out (Bel.of_below hw5)
          have hr5 := blk_below hw5 hri.out hgi
          have hb5 := blk_below hw5 hbi.out hWi
          have hc5 : w5.cell? ⟨g, i, none⟩ = some (.int .i64 ((d : Int) - 1)) := (hw5.cell (p := ⟨g, i, none⟩) hgi).trans hcell
          have hf5 : w5.frozen? ⟨g, i, none⟩ = false := frozen_blk hr5 i
          have hs5 : B ≤ w5.heap.size := Nat.le_trans hBi hw5.size
          have HJ5 := Lib.hid hj5
          have HR5 := Lib.hid hr5
          have HB5 := Lib.hid hb5
          clear hw5 hj5 hr5 hb5
          by_cases hdc : d = m.crafts.length
          · subst hdc
            gi_wp2_with fail
            refine ⟨⟨t + 1, by omega, by rw [show (m.slopes.length : Int) - ((t + 1 : Nat) : Int) - 1 = (i : Int) - 1 by omega], carry_full hmod HD.out, by simpa [World.setCell] using hs5, ?_, ?_, ?_⟩, ?_⟩
            · refine Lib.hid ?_
              rw [heap_set HR5.out, map_set_int, ← carry_next _ _ _ _ (by omega : t < m.slopes.length), show m.slopes.length - t - 1 = i by omega]
            · exact Lib.hid ((Below.heap_setCell _ _ _ _ (by simp; omega)).trans HB5.out)
            · exact Lib.hid (HJ.out _ _ _ _ (by omega) HJ5.out ((Bel.refl _ _).setCell (fun _ => ⟨by simp; omega, hgs⟩) _))
            · simp [intOf]
          · have hdc' : d < m.crafts.length := by omega
            have hne : ((d : Int) - 1 == (m.crafts.length : Int) - 1) = false := by rw [beq_eq_false_iff_ne]; omega
            gi_wp2_with fail
            have hmore : k + 1 < rowsN m := carry_more (by omega : t < m.slopes.length) hk (by rw [HD.out]; exact hdc')
            have hrow' : (w5.setCell ⟨g, i, none⟩ (.int .i64 (d : Int))).heap[g]? = some (.cells ((rowK m (k + 1)).map (Value.int .i64)).toArray 3 (0, 0)) := by
              rw [heap_set HR5.out, map_set_int]
              have := carry_done (c := m.crafts.length) (n := m.slopes.length) (k := k) (t := t) (by omega) hmod (by rw [HD.out]; exact hdc')
              rw [HD.out, show m.slopes.length - t - 1 = i by omega, show (d : Int) - 1 + 1 = d by omega] at this
              rw [this]; rfl
            refine ⟨⟨k + 1, hmore, by simpa [World.setCell] using hs5, Lib.hid hrow', ?_, ?_⟩, ?_⟩
            · exact Lib.hid ((Below.heap_setCell _ _ _ _ (by simp; omega)).trans HB5.out)
            · exact Lib.hid (HJ.out _ _ _ _ (by omega) HJ5.out ((Bel.refl _ _).setCell (fun _ => ⟨by simp; omega, hgs⟩) _))
            · rw [rowLeft_eq m g (k + 1) _ hmore hrow', rowLeft_eq m g k _ hk hrw.out]; omega
    · rw [hmy] at HMAY HSUC
      have hget : (rowsS m)[(rowsTo m k).length]? = some (rowK m k) := by
        obtain ⟨tl, htl⟩ := HPRE.out
        unfold rowsS; rw [htl, HSUC.out]; simp
      have hle : (rowsTo m k).length + 1 ≤ (rowsS m).length := by
        obtain ⟨tl, htl⟩ := HPRE.out
        unfold rowsS; rw [htl, HSUC.out]; simp
      have HGET := Lib.hid hget
      have HLE := Lib.hid hle
      clear hget hle
      have HMY := Lib.hid hmy; clear hmy
      gi_wp2_with (gi_at_call 57; refine (callsIn_wide.2 HMAY.out).mono ?_; rintro e w9 ⟨rfl, hb9⟩)
      have hj9 := HJ.out _ _ _ _ (by omega) hjk.out (Bel.of_below hb9)
      have hs9 : B ≤ w9.heap.size := Nat.le_trans hBs hb9.size
      have hr9 := blk_below hb9 hrw.out (lt_blk hrw.out)
      have hx9 := blk_below hb9 hbx.out (lt_blk hbx.out)
      have hia : IntsAt w9 B (.slice (some ⟨g, 0, none⟩) m.slopes.length m.slopes.length) (rowK m k) :=
        ⟨_, _, by rw [show (rowK m k).length = m.slopes.length from unval_length _ _ _], by simp [rowK, unval_length]; omega, fun _ => ⟨g, 0, rfl, hgs, fun j u hu => by rw [cell_blk hr9]; simpa using hu⟩⟩
      obtain ⟨fn, tmps, assign, body, hy, hR⟩ := HY.out B (rowsTo m k).length w9 _ (rowK m k) (by omega) hs9 HGET.out hj9 hia
      clear hj9 hia hb9
      gi_wp2_with fail
      rw [hy]
      gi_wp2_with fail
      refine hR.mono ?_
      rintro e w2 (⟨rfl, hjn, hs2, hk2⟩ | ⟨rfl, hjx⟩)
      · clear hR hy
        have hjn : J B (rowsTo m (k + 1)).length w2 := by
          rw [HSUC.out]; simpa using hjn
        have hBs2 : B ≤ w2.heap.size := Nat.le_trans hs9 hs2
        have hrw2 := (hk2 g ⟨by omega, hgs⟩).trans hr9
        have hbx2 := (hk2 W.heap.size ⟨by omega, by omega⟩).trans hx9
        clear hk2 hs2 hr9 hx9 hs9
        gi_wp2_with fail
        have hn0 : (m.slopes.length : Int) - ((0 : Nat) : Int) - 1 = (m.slopes.length : Int) - 1 := by omega
        have hlk : (rowK m k).length = m.slopes.length := unval_length _ _ _
        have HRW2 := Lib.hid hrw2
        have HBX2 := Lib.hid hbx2
        have HJN := Lib.hid hjn
        clear hrw2 hbx2 hjn
        obtain ⟨wo, rfl⟩ : ∃ wo : World, wo = wr := ⟨_, rfl⟩
        gi_loopw [5] (fun i wi => ∃ t : Nat, t ≤ m.slopes.length ∧ i = .int .i64 ((m.slopes.length : Int) - (t : Int) - 1) ∧ k % (m.crafts.length + 1) ^ t = (m.crafts.length + 1) ^ t - 1 ∧ B ≤ wi.heap.size ∧
          Hid (wi.heap[g]? = some (.cells ((carry m.crafts.length m.slopes.length k t).map (Value.int .i64)).toArray 3 (0, 0))) ∧
          Hid (wi.heap[W.heap.size]? = some (.cells #[.slice sA m.slopes.length sc, .slice cA cn cc, .int .i64 m.years, .int .i64 m.visit, .int .i64 m.hands, .slice mA m.crafts.length mc] 75)) ∧ Hid (J B (rowsTo m (k + 1)).length wi)) (fun i _ => (intOf i + 1).toNat)
        case atStart => exact ⟨0, Nat.zero_le _, by rw [hn0], by simp [Nat.mod_one], hBs2, by rw [carry_zero]; exact HRW2, HBX2, HJN⟩
        case round =>
          obtain ⟨t, ht, rfl, hmod, hBi, hri, hbi, hji⟩ := hrel
          have hbi0 := hbi.out
          obtain ⟨b0, b1, b2, b3, b4, b5⟩ := blk6 hbi0
          have hWi : W.heap.size < wr.heap.size := by omega
          clear hbi0
          by_cases htn : t = m.slopes.length
          · subst htn
            have hi1 : (m.slopes.length : Int) - (m.slopes.length : Int) - 1 = -1 := by omega
            have hfin : k + 1 = rowsN m := carry_end hk hmod
            rw [hi1]
            have HFIN := Lib.hid hfin; clear hfin hi1
            gi_wp2_with fail
            refine wpIn_region_rg (Below wr.heap.size) (fun _ => .fn) (by kernel_rfl) (fun _ => trivial) (by kernel_rfl) (Below.refl _) belowR (fun _ => trivial) ?_
            iterate 3 (refine rg_step fun K hK => ?_; apply rg_fn rfl; (intro w4 hw; have hc := below_cells (undrew hw); go_simp; try rfl); go_simp; (try with_reducible refine hK _ _ ?_); try clear hK K)
            iterate 9 (refine rg_step fun K hK => rg_skip rfl ?_; go_simp; (try with_reducible refine hK _ _ ?_); try clear hK K)
            iterate 1 (refine rg_step fun K hK => ?_; apply rg_fn rfl; (intro w4 hw; have hc := below_cells (undrew hw); go_simp; try rfl); go_simp; (try with_reducible refine hK _ _ ?_); try clear hK K)
            refine rg_nil ?_
            intro w5 hw5 _
            replace hw5 := undrew hw5
            have hj5 := HJ.out _ _ _ _ (by omega) hji.out (Bel.of_below hw5)
            rw [HFIN.out] at hj5
            have HJ5 := Lib.hid hj5
            clear hw5 hj5
            gi_wp2_with fail
            exact bodyPost_ret (results_none rfl _ _ _) rfl ⟨⟨_, rfl⟩, B, by omega, .inl HJ5.out⟩
          · obtain ⟨i, hi⟩ : ∃ i, i + t + 1 = m.slopes.length := ⟨m.slopes.length - t - 1, by omega⟩
            have hiv : (m.slopes.length : Int) - (t : Int) - 1 = (i : Int) := by omega
            have hca := carry_at m.crafts.length m.slopes.length k t (by omega)
            rw [show m.slopes.length - t - 1 = i by omega] at hca
            have hcell : wr.cell? ⟨g, i, none⟩ = some (.int .i64 (((k / (m.crafts.length + 1) ^ t % (m.crafts.length + 1) : Nat) : Int) - 1)) := by
              rw [cell_blk hri.out]; simp [hca]
            have hdlt : k / (m.crafts.length + 1) ^ t % (m.crafts.length + 1) < m.crafts.length + 1 := Nat.mod_lt _ (by omega)
            have HCA := Lib.hid hca
            have hin : (i : Int) < (m.slopes.length : Int) := by omega
            have hi0 : (0 : Int) ≤ (i : Int) := by omega
            rw [hiv]
            generalize hd : k / (m.crafts.length + 1) ^ t % (m.crafts.length + 1) = d at *
            have HD := Lib.hid hd
            clear hca hd hiv
            have hgi : g < wr.heap.size := by omega
            have hsb : IntKind.i64.wrap ((m.crafts.length : Int) - 1) = (m.crafts.length : Int) - 1 := IntWalk.i64_in _ (by omega)
            have hcc : (0 : Int) ≤ (m.crafts.length : Int) := by omega
            gi_wp2_with fail
            refine wpIn_region_rg (Below wr.heap.size) (fun _ => .fn) (by kernel_rfl) (fun _ => trivial) (by kernel_rfl) (Below.refl _) belowR (fun _ => trivial) ?_
            iterate 13 (refine rg_step fun K hK => ?_; apply rg_fn rfl; (intro w4 hw; have hc := below_cells (undrew hw); go_simp; try rfl); go_simp; (try with_reducible refine hK _ _ ?_); try clear hK K)
            refine rg_nil ?_
            intro w5 hw5 _
            replace hw5 := undrew hw5
            have hj5 := HJ.out _ _ _ _ (by omega) hji.out (Bel.of_below hw5)
            have hr5 := blk_below hw5 hri.out hgi
            have hb5 := blk_below hw5 hbi.out hWi
            have hc5 : w5.cell? ⟨g, i, none⟩ = some (.int .i64 ((d : Int) - 1)) := (hw5.cell (p := ⟨g, i, none⟩) hgi).trans hcell
            have hf5 : w5.frozen? ⟨g, i, none⟩ = false := frozen_blk hr5 i
            have hs5 : B ≤ w5.heap.size := Nat.le_trans hBi hw5.size
            have HJ5 := Lib.hid hj5
            have HR5 := Lib.hid hr5
            have HB5 := Lib.hid hb5
            clear hw5 hj5 hr5 hb5
            by_cases hdc : d = m.crafts.length
            · subst hdc
              gi_wp2_with fail
              refine ⟨⟨t + 1, by omega, by rw [show (m.slopes.length : Int) - ((t + 1 : Nat) : Int) - 1 = (i : Int) - 1 by omega], carry_full hmod HD.out, by simpa [World.setCell] using hs5, ?_, ?_, ?_⟩, ?_⟩
              · refine Lib.hid ?_
                rw [heap_set HR5.out, map_set_int, ← carry_next _ _ _ _ (by omega : t < m.slopes.length), show m.slopes.length - t - 1 = i by omega]
              · exact Lib.hid ((Below.heap_setCell _ _ _ _ (by simp; omega)).trans HB5.out)
              · exact Lib.hid (HJ.out _ _ _ _ (by omega) HJ5.out ((Bel.refl _ _).setCell (fun _ => ⟨by simp; omega, hgs⟩) _))
              · simp [intOf]
            · have hdc' : d < m.crafts.length := by omega
              have hne : ((d : Int) - 1 == (m.crafts.length : Int) - 1) = false := by rw [beq_eq_false_iff_ne]; omega
              gi_wp2_with fail
              have hmore : k + 1 < rowsN m := carry_more (by omega : t < m.slopes.length) hk (by rw [HD.out]; exact hdc')
              have hrow' : (w5.setCell ⟨g, i, none⟩ (.int .i64 (d : Int))).heap[g]? = some (.cells ((rowK m (k + 1)).map (Value.int .i64)).toArray 3 (0, 0)) := by
                rw [heap_set HR5.out, map_set_int]
                have := carry_done (c := m.crafts.length) (n := m.slopes.length) (k := k) (t := t) (by omega) hmod (by rw [HD.out]; exact hdc')
                rw [HD.out, show m.slopes.length - t - 1 = i by omega, show (d : Int) - 1 + 1 = d by omega] at this
                rw [this]; rfl
              refine ⟨⟨k + 1, hmore, by simpa [World.setCell] using hs5, Lib.hid hrow', ?_, ?_⟩, ?_⟩
              · exact Lib.hid ((Below.heap_setCell _ _ _ _ (by simp; omega)).trans HB5.out)
              · exact Lib.hid (HJ.out _ _ _ _ (by omega) HJ5.out ((Bel.refl _ _).setCell (fun _ => ⟨by simp; omega, hgs⟩) _))
              · rw [rowLeft_eq m g (k + 1) _ hmore hrow', rowLeft_eq m g k _ hk hrw.out]; omega
      · clear hR hy
        gi_wp2_with fail
        exact bodyPost_ret (results_none rfl _ _ _) rfl ⟨⟨_, rfl⟩, B, by omega, .inr ⟨_, by omega, HLE.out, hjx⟩⟩
end Go.Proofs.Ytnbnhcoaggpmaaa

namespace Go.Proofs.Ytnbnhcoaggpmaaa
open Go Go.RowKit Go.Shelf
set_option maxRecDepth 100000

/-- What a round keeps: the iterator's own blocks lie as they lay. -/
def KeptMid (lo hi : Nat) (W W' : World) : Prop := W.heap.size ≤ W'.heap.size ∧ ∀ j, Mid lo hi j → W'.heap[j]? = W.heap[j]?
theorem KeptMid.refl (lo hi : Nat) (W : World) : KeptMid lo hi W W := ⟨Nat.le_refl _, fun _ _ => rfl⟩
theorem KeptMid.trans {lo hi : Nat} {A B C : World} (h : KeptMid lo hi A B) (k : KeptMid lo hi B C) : KeptMid lo hi A C := ⟨Nat.le_trans h.1 k.1, fun j hj => (k.2 j hj).trans (h.2 j hj)⟩
theorem KeptMid.of_bel {lo hi : Nat} {S : Nat → Prop} {A B : World} (h : Bel S A B) (hh : hi ≤ A.heap.size) (hs : ∀ j, S j → ¬ Mid lo hi j) : KeptMid lo hi A B :=
  ⟨h.size, fun j hj => h.block j (Nat.lt_of_lt_of_le hj.2 hh) (fun hS => hs j hS hj)⟩
def rowPost (lo B : Nat) (I : Nat → Nat → World → Prop) (Ix : Nat → Code → Nat → World → Prop) (k : Nat) (W : World) : Exit → Act → World → Prop
  | .normal, _, W' => KeptMid lo B W W' ∧ I B k W'
  | .ret, _, W' => KeptMid lo B W W' ∧ Ix B .ret k W'
  | .exit id, _, W' => KeptMid lo B W W' ∧ Ix B (.exit id) k W'
  | _, _, _ => False

/-- **'for row := range m.rows { .. }'**, outside a round. -/
theorem wpIn_rangeRows (m : Wk) (hm : 1 ≤ m.slopes.length ∧ m.slopes.length ≤ 4) (hc : m.crafts.length ≤ 4) (sA cA mA : Option Addr) (sc cn cc mc : Nat)
    {g : Operand} {p : Tmp} {assign body : Code} {Q : Exit → Act → World → Prop} {a : Act} {w : World}
    (hg : a.eval g = .func (.func 23) #[.agg #[.slice sA m.slopes.length sc, .slice cA cn cc, .int .i64 m.years, .int .i64 m.visit, .int .i64 m.hands, .slice mA m.crafts.length mc]] #[])
    (I : Nat → Nat → World → Prop) (Ix : Nat → Code → Nat → World → Prop)
    (hI : ∀ B k W1 W2, w.heap.size ≤ B → I B k W1 → Bel (Mid w.heap.size B) W1 W2 → I B k W2)
    (hIx : ∀ B c k W1 W2, w.heap.size ≤ B → Ix B c k W1 → Bel (Mid w.heap.size B) W1 W2 → Ix B c k W2)
    (h0 : ∀ B W1, w.heap.size ≤ B → B ≤ W1.heap.size → Below w.heap.size w W1 → I B 0 W1)
    (d : Tmp)
    (hassign : ∀ (l : Nat) (rv : Value) (W : World) (K : Act → World → Prop), K { tmps := (a.tmps.setIfInBounds p rv).setIfInBounds d rv, defers := [] } W →
      assign.wpIn (Fence.wide.inRound l) 8 Try.prog (Exit.then K (fun _ _ _ => False)) { tmps := a.tmps.setIfInBounds p rv, defers := [] } W)
    (hbody : ∀ (l B k : Nat) (W : World) (rv : Value) (row : List Int), w.heap.size + 2 ≤ B → B ≤ W.heap.size → (rowsS m)[k]? = some row → I B k W → IntsAt W B rv row →
      body.wpIn (Fence.wide.inRound l) 8 Try.prog (rowPost w.heap.size B I Ix (k + 1) W) { tmps := (a.tmps.setIfInBounds p rv).setIfInBounds d rv, defers := [] } W)
    (hdone : ∀ (B : Nat) (W : World), w.heap.size + 2 ≤ B → I B (rowsS m).length W → W.heap[w.heap.size]? = some (.deferred (some [])) →
      Q .normal { a with defers := { target := .collected w.heap.size, args := #[] } :: a.defers } W)
    (hstop : ∀ (B : Nat) (c : Code) (k : Nat) (W : World), w.heap.size + 2 ≤ B → 1 ≤ k → k ≤ (rowsS m).length → Ix B c k W → W.heap[w.heap.size]? = some (.deferred (some [])) →
      c.wpIn Fence.wide 10 Try.prog Q { a with defers := { target := .collected w.heap.size, args := #[] } :: a.defers } W) :
    (Code.rangeFunc g #[p] assign body).wpIn Fence.wide 10 Try.prog Q a w := by
  refine wpIn_rangeFunc ?_
  intro fn hfn
  obtain ⟨rec, hrec⟩ : ∃ rec : LoopState → Option Code → Loop, rec = fun st pe => { state := st, pending := pe, fn, tmps := a.tmps, params := #[p], assign, body, defers := w.heap.size } := ⟨_, rfl⟩
  obtain ⟨W1, hW1⟩ : ∃ W1, (w.alloc (.deferred (some []))).alloc (.loop (rec .ready none)) = W1 := ⟨_, rfl⟩
  have hL1 : W1.heap[w.heap.size + 1]? = some (.loop (rec .ready none)) := by
    rw [← hW1]; have := World.alloc_heap_new (w.alloc (.deferred (some []))) (.loop (rec .ready none)); rwa [World.size_alloc] at this
  have hK1 : W1.heap[w.heap.size]? = some (.deferred (some [])) := by
    rw [← hW1]; exact (Below.heap_alloc _ _ _ (by simp)).trans (World.alloc_heap_new w _)
  have hb1 : Below w.heap.size w W1 := by
    rw [← hW1]; exact ((Below.refl _ w).alloc (Nat.le_refl _) _).alloc (by simp) _
  have hz1 : W1.heap.size = w.heap.size + 2 := by rw [← hW1]; simp
  refine ⟨w.heap.size + 1, [{ target := .collected w.heap.size, args := #[] }], W1, { target := .fn (.func 23) #[], args := #[.agg #[.slice sA m.slopes.length sc, .slice cA cn cc, .int .i64 m.years, .int .i64 m.visit, .int .i64 m.hands, .slice mA m.crafts.length mc], .func (.yield (w.heap.size + 1)) #[] #[]] }, W1, 23,
    #[.agg #[.slice sA m.slopes.length sc, .slice cA cn cc, .int .i64 m.years, .int .i64 m.visit, .int .i64 m.hands, .slice mA m.crafts.length mc], .func (.yield (w.heap.size + 1)) #[] #[]], W1, ?_, ?_, ?_, ?_, fun _ => by decide, ?_⟩
  · rw [← hW1, hrec]; exact run_enterLoop_outer _ _ _ _ _
  · simp only [resolve, hg]
    simp [go_sem]
  · intro f' hf'; exact trivial
  · simp [invoke, go_sem]
  · refine (rows_in m hm hc sA cA mA sc cn cc mc (w.heap.size + 1) W1
      (fun B k W => w.heap.size + 2 ≤ B ∧ I B k W ∧ W.heap[w.heap.size + 1]? = some (.loop (rec .ready none)) ∧ W.heap[w.heap.size]? = some (.deferred (some [])))
      (fun B k W => w.heap.size + 2 ≤ B ∧ ∃ c, Ix B c k W ∧ W.heap[w.heap.size + 1]? = some (.loop (rec .done (some c))) ∧ W.heap[w.heap.size]? = some (.deferred (some [])))
      ?_ ?_ ?_).mono ?_
    · rintro B k Wa Wb hB ⟨hB2, hi, hl, hk⟩ hbel
      exact ⟨hB2, hI B k Wa Wb (by omega) hi (hbel.mono fun j _ hj => ⟨by have := hj.1; omega, hj.2⟩), hbel.heap hl (fun h => by have := h.1; omega), hbel.heap hk (fun h => by have := h.1; omega)⟩
    · intro B Wb hB hBW hbel
      refine ⟨by omega, h0 B Wb (by omega) hBW (hb1.trans (hbel.mono (by omega))), ?_, ?_⟩
      · exact blk_below hbel hL1 (by omega)
      · exact blk_below hbel hK1 (by omega)
    · rintro B k W rv row hB hBW hrow ⟨hB2, hi, hl, hk⟩ hrv
      have hlt : w.heap.size + 1 < W.heap.size := lt_blk hl
      have hy : (Instr.yield (w.heap.size + 1) #[rv]).run Try.prog W = .ok (.round (w.heap.size + 1) fn (a.tmps.setIfInBounds p rv) assign body) W := by
        have := run_yield (P := Try.prog) (args := #[rv]) hl (by rw [hrec]; rfl)
        rw [hrec] at this
        simpa using this
      refine ⟨fn, _, assign, body, hy, roundIn_of_wpIn hfn (hassign _ rv W _ ?_)⟩
      refine ⟨_, run_beginRound hl (by rw [hrec]), ?_⟩
      have hl2 : (W.putObj (w.heap.size + 1) (.loop { rec .ready none with state := .busy })).heap[w.heap.size + 1]? = some (.loop { rec .ready none with state := .busy }) := World.putObj_heap_same hlt
      have hk2 : (W.putObj (w.heap.size + 1) (.loop { rec .ready none with state := .busy })).heap[w.heap.size]? = some (.deferred (some [])) := (World.putObj_heap_other (by omega)).trans hk
      have hbel2 : Bel (fun j => j = w.heap.size + 1) W (W.putObj (w.heap.size + 1) (.loop { rec .ready none with state := .busy })) := (Bel.refl (fun j => j = w.heap.size + 1) W).putObj (fun _ => rfl) _
      have hm1 : ∀ j, j < W.heap.size → j = w.heap.size + 1 → Mid w.heap.size B j := fun j _ e => ⟨by omega, by omega⟩
      refine wpIn_mono (hbody _ B k _ rv row hB2 (Nat.le_trans hBW hbel2.size) hrow (hI B k _ _ (by omega) hi (hbel2.mono hm1)) ?_) ?_
      · obtain ⟨A, c, rfl, hlen, hcells⟩ := hrv
        refine ⟨A, c, rfl, hlen, fun hne => ?_⟩
        obtain ⟨b, o, hA, hb, hcs⟩ := hcells hne
        refine ⟨b, o, hA, hb, fun j u hu => ?_⟩
        have := hcs j u hu
        by_cases hbe : b = w.heap.size + 1
        · subst hbe
          rw [World.cell?, hl] at this
          simp at this
        · rw [← this, World.cell?, World.cell?, World.putObj_heap_other hbe]
      have fin : ∀ (jump : Option Code) (W3 : World), KeptMid w.heap.size B (W.putObj (w.heap.size + 1) (.loop { rec .ready none with state := .busy })) W3 →
          (Instr.endRound (w.heap.size + 1) jump).run Try.prog W3 = .ok (.bool jump.isNone) (W3.putObj (w.heap.size + 1) (.loop (rec (if jump.isNone then .ready else .done) jump))) ∧
          (W3.putObj (w.heap.size + 1) (.loop (rec (if jump.isNone then .ready else .done) jump))).heap[w.heap.size + 1]? = some (.loop (rec (if jump.isNone then .ready else .done) jump)) ∧
          (W3.putObj (w.heap.size + 1) (.loop (rec (if jump.isNone then .ready else .done) jump))).heap[w.heap.size]? = some (.deferred (some [])) ∧
          Bel (fun j => j = w.heap.size + 1) W3 (W3.putObj (w.heap.size + 1) (.loop (rec (if jump.isNone then .ready else .done) jump))) := fun jump W3 hk3 => by
        have hl3 := (hk3.2 _ ⟨by omega, by omega⟩).trans hl2
        have := run_endRound (P := Try.prog) jump hl3
        rw [hrec] at this ⊢
        exact ⟨this, World.putObj_heap_same (lt_blk hl3), (World.putObj_heap_other (by omega)).trans ((hk3.2 _ ⟨by omega, by omega⟩).trans hk2), (Bel.refl (fun j => j = w.heap.size + 1) W3).putObj (fun _ => rfl) _⟩
      rintro e a3 W3 hp
      cases e with
      | normal =>
        obtain ⟨hk3, hi3⟩ := hp
        obtain ⟨hr, hl4, hk4, hb4⟩ := fin none W3 hk3
        refine ⟨_, _, hr, .inl ⟨rfl, ⟨hB2, hI B _ _ _ (by omega) hi3 (hb4.mono fun j _ e => ⟨by omega, by omega⟩), hl4, hk4⟩, Nat.le_trans hbel2.size (Nat.le_trans hk3.1 hb4.size), fun j hj => ?_⟩⟩
        have hj1 := hj.1
        have hne : j ≠ w.heap.size + 1 := by omega
        exact (World.putObj_heap_other hne).trans ((hk3.2 j ⟨by omega, hj.2⟩).trans (World.putObj_heap_other hne))
      | ret =>
        obtain ⟨hk3, hi3⟩ := hp
        obtain ⟨hr, hl4, hk4, hb4⟩ := fin (some .ret) W3 hk3
        exact ⟨_, _, hr, .inr ⟨rfl, hB2, .ret, hIx B _ _ _ _ (by omega) hi3 (hb4.mono fun j _ e => ⟨by omega, by omega⟩), hl4, hk4⟩⟩
      | exit id =>
        obtain ⟨hk3, hi3⟩ := hp
        obtain ⟨hr, hl4, hk4, hb4⟩ := fin (some (.exit id)) W3 hk3
        exact ⟨_, _, hr, .inr ⟨rfl, hB2, .exit id, hIx B _ _ _ _ (by omega) hi3 (hb4.mono fun j _ e => ⟨by omega, by omega⟩), hl4, hk4⟩⟩
      | goto t => exact hp.elim
      | panic ch => exact hp.elim
      | outgrown => exact hp.elim
    · rintro e W2 ⟨⟨v, rfl⟩, B, hB, (⟨hB2, hi, hl, hk⟩ | ⟨k, hk1, hkn, hB2, c, hi, hl, hk⟩)⟩
      · refine ⟨none, _, by have := run_endLoop (P := Try.prog) hl (by rw [hrec]; simp); rw [hrec] at this; exact this, hdone B _ hB2 (hI B _ _ _ (by omega) hi ((Bel.refl (Mid w.heap.size B) W2).putObj (fun _ => ⟨by omega, by omega⟩) _)) ((World.putObj_heap_other (by omega)).trans hk)⟩
      · refine ⟨some c, _, by have := run_endLoop (P := Try.prog) hl (by rw [hrec]; simp); rw [hrec] at this; exact this, hstop B c k _ hB2 hk1 hkn (hIx B c _ _ _ (by omega) hi ((Bel.refl (Mid w.heap.size B) W2).putObj (fun _ => ⟨by omega, by omega⟩) _)) ((World.putObj_heap_other (by omega)).trans hk)⟩
end Go.Proofs.Ytnbnhcoaggpmaaa
