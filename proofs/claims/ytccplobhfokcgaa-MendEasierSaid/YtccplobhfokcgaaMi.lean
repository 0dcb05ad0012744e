/- slices.Repeat at one number, few times. -/
import Derived.Test.YtccplobhfokcgaaMh
import Derived.Deep.OwnRows
import Derived.Deep.RegionLaw
namespace Go.Proofs.Ytccplobhfokcgaa
open Go Go.RowKit Go.Shelf Go.Deep
set_option maxRecDepth 100000

theorem mul_calls (n : Nat) (w : World) (h1 : 1 ≤ n) (h4 : n ≤ 4) :
    Calls Try.prog 76 #[.int .u64 1, .int .u64 n] w fun e w' => e = .returned (.tuple #[.int .u64 0, .int .u64 n]) ∧ w = w' := by
  match n, h1, h4 with
  | 1, _, _ | 2, _, _ | 3, _, _ | 4, _, _ =>
    go_enter Try.func76, Try.ntmps76
    go_wp2
    go_ret2
    exact ⟨by kernel_rfl, rfl⟩
/-- k times -1, then 0, n numbers in all. -/
def zrow (k n : Nat) : List Value := List.replicate k (Value.int .i64 (-1)) ++ List.replicate (n - k) (Value.int .i64 0)
theorem zrow_length {k n : Nat} (h : k ≤ n) : (zrow k n).length = n := by simp [zrow]; omega
def ones (k : Nat) : List Value := List.replicate k (Value.int .i64 (-1))
theorem ones_length (k : Nat) : (ones k).length = k := by simp [ones]
theorem ones_one (k : Nat) : ∀ v ∈ ones k, v.oneCell' = true := by
  intro v hv
  rw [(List.mem_replicate.1 hv).2]; rfl
theorem ones_at {k j : Nat} {u : Value} (h : (ones k)[j]? = some u) : j < k ∧ u = .int .i64 (-1) := by
  unfold ones at h
  rw [List.getElem?_replicate] at h
  split at h
  · exact ⟨by assumption, (Option.some.inj h).symm⟩
  · cases h
theorem zrow_at {k n j : Nat} (h : j < k) : (zrow k n)[j]? = some (.int .i64 (-1)) := by
  unfold zrow
  rw [List.getElem?_append_left (by simpa using h), List.getElem?_replicate, if_pos h]
theorem splice_zrow (k n : Nat) (hk : k ≤ n) (j : Nat) (hj : k + j ≤ n) : splice (zrow k n) k (ones j) = zrow (k + j) n := by
  unfold splice zrow ones
  rw [List.take_append_of_le_length (by simp), List.take_of_length_le (by simp), List.drop_append]
  simp only [List.length_replicate, List.drop_replicate]
  rw [← List.append_assoc, List.replicate_append_replicate, show k - (k + j) = 0 by omega, show n - k - (k + j - k) = n - (k + j) by omega]
  simp only [List.replicate_zero, List.nil_append]
/-- A row of n cells whose first k ones are -1. -/
def Ones (w : World) (g n k : Nat) : Prop := ∃ cur : List Value, w.heap[g]? = some (.cells cur.toArray 3 (0, 0)) ∧ cur.length = n ∧ ∀ i, i < k → cur[i]? = some (.int .i64 (-1))
/-- Nothing but that row is written, and what is -1 there stays so. -/
def OnesR (g n : Nat) (w w' : World) : Prop := Bel (· = g) w w' ∧ ∀ k, Ones w g n k → Ones w' g n k
theorem onesR_refl (g n : Nat) (w : World) : OnesR g n w w := ⟨Bel.refl _ _, fun _ h => h⟩
theorem onesR_trans (g n : Nat) (a b c : World) (h : OnesR g n a b) (k : OnesR g n b c) : OnesR g n a c := ⟨h.1.trans k.1, fun j hj => k.2 j (h.2 j hj)⟩
theorem heap_setRow {w : World} {g : Nat} {cur : Array Value} {t : TypeId} {fr : Nat × Nat} (h : w.heap[g]? = some (.cells cur t fr)) (cs : Array Value) : (w.setRow g cs).heap[g]? = some (.cells cs t fr) := by
  simp [World.setRow, Array.getElem?_modify, h]
theorem heap_setRow_ne (w : World) (g i : Nat) (cs : Array Value) (h : i ≠ g) : (w.setRow g cs).heap[i]? = w.heap[i]? := by
  simp [World.setRow, Array.getElem?_modify, Ne.symm h]
/-- copy(xs[k:], xs[:k]) within such a row. -/
theorem ones_copy (w : World) (g n k : Nat) (hk : k ≤ n) (h : Ones w g n k) (hk1 : 1 ≤ k) : ∃ w', (Builtin.copy_ #[36, 36] 3 #[.slice (some ⟨g, k, none⟩) (n - k) (n - k), .slice (some ⟨g, 0, none⟩) k n]).run Try.prog w = .ok (.int .i64 (min k (n - k) : Nat)) w' ∧
    OnesR g n w w' ∧ Ones w' g n (k + min k (n - k)) := by
  obtain ⟨cur, hh, hl, ho⟩ := h
  have hsrc : ∀ j u, (ones (min k (n - k)))[j]? = some u → w.cell? ((⟨g, 0, none⟩ : Addr).add j) = some u := by
    intro j u hu
    obtain ⟨hj, rfl⟩ := ones_at hu
    rw [show (⟨g, 0, none⟩ : Addr).add j = ⟨g, j, none⟩ by unfold Addr.add; split <;> simp_all, cell_blk hh]
    simpa using ho j (by omega)
  have hrun := run_copy_row (P := Try.prog) w 36 36 3 3 g k (n - k) (n - k) ⟨g, 0, none⟩ k n cur.toArray 3 (ones (min k (n - k))) Try.underlying36 (by kernel_rfl) hh (by rw [ones_length]) hsrc (by rw [ones_length]; simp; omega) (ones_one _)
  rw [ones_length] at hrun
  have hlen : (cur.take k ++ ones (min k (n - k)) ++ cur.drop (k + min k (n - k))).length = n := by simp [ones_length]; omega
  have hnew : ∀ i, (i < k + min k (n - k) → (cur.take k ++ ones (min k (n - k)) ++ cur.drop (k + min k (n - k)))[i]? = some (.int .i64 (-1))) ∧
      (k + min k (n - k) ≤ i → (cur.take k ++ ones (min k (n - k)) ++ cur.drop (k + min k (n - k)))[i]? = cur[i]?) := by
    intro i
    have hl1 : (cur.take k).length = k := by simp; omega
    constructor
    · intro hi
      rw [List.getElem?_append_left (by rw [List.length_append, hl1, ones_length]; exact hi)]
      rcases Nat.lt_or_ge i k with h1 | h1
      · rw [List.getElem?_append_left (by rw [hl1]; exact h1), List.getElem?_take, if_pos h1]; exact ho i h1
      · rw [List.getElem?_append_right (by rw [hl1]; exact h1), hl1]
        unfold ones
        rw [List.getElem?_replicate, if_pos (by omega)]
    · intro hi
      rw [List.getElem?_append_right (by rw [List.length_append, hl1, ones_length]; exact hi), List.length_append, hl1, ones_length, List.getElem?_drop]
      congr 1
      omega
  refine ⟨_, hrun, ⟨⟨rfl, rfl, rfl, by simp, fun i _ hne => heap_setRow_ne _ _ _ _ hne⟩, ?_⟩, _, heap_setRow hh _, hlen, fun i hi => (hnew i).1 hi⟩
  rintro j ⟨cur2, hh2, hl2, ho2⟩
  have e : cur2 = cur := by
    rw [hh] at hh2
    injection hh2 with hh2
    injection hh2 with hh2
    have := congrArg Array.toList hh2
    simpa using this.symm
  subst e
  refine ⟨_, heap_setRow hh _, hlen, fun i hi => ?_⟩
  rcases Nat.lt_or_ge i (k + min k (n - k)) with h1 | h1
  · exact (hnew i).1 h1
  · exact ((hnew i).2 h1).trans (ho2 i hi)

set_option maxHeartbeats 2000000 in
theorem repeat_calls (b : Nat) (n : Nat) (w : World) (hb : w.heap[b]? = some (.cells #[.int .i64 (-1)] 3)) (h1 : 1 ≤ n) (h4 : n ≤ 4) :
    Calls Try.prog 70 #[.slice (some ⟨b, 0, none⟩) 1 1, .int .i64 n] w fun e w' => ∃ g, e = .returned (.slice (some ⟨g, 0, none⟩) n n) ∧ w.heap.size ≤ g ∧ w'.heap[g]? = some (.cells (List.replicate n (.int .i64 (-1))).toArray 3) ∧ Below w.heap.size w w' := by
  have hcn : IntKind.u64.wrap (n : Int) = (n : Int) := IntWalk.u64_in _ (by omega)
  have hci : IntKind.i64.wrap (n : Int) = (n : Int) := IntWalk.i64_in _ (by omega)
  have hmk : ∀ W : World, (Instr.makeSlice 36 (.int .i64 (n : Int)) (.int .i64 (n : Int))).run Try.prog W = .ok (.slice (some ⟨W.heap.size, 0, none⟩) n n) (W.alloc (.cells (madeCells #[.int .i64 0] n) 3)) :=
    fun W => run_make_row' 36 3 (.int .i64 0) 8 Try.underlying36 infoInt rfl .i64 .i64 n (by omega) (by omega) W
  have hmc : (madeCells #[Value.int .i64 0] n) = (zrow 0 n).toArray := by
    simp only [madeCells, zrow, List.replicate_zero, List.nil_append, Nat.sub_zero]
    apply Array.ext
    · simp
    · intro i h1 h2
      simp [Nat.mod_one]
  rw [hmc] at hmk
  clear hmc
  have hn1 : (1 : Int) ≤ (n : Int) := by omega
  have hn0 : ¬ (n : Int) < 0 := by omega
  have hbig : decide ((9223372036854775807 : Int) < (n : Int)) = false := by simp; omega
  go_enter Try.func70, Try.ntmps70
  have HF : Hid (∀ (e : Ending) (w' : World), (e = .returned (.slice (some ⟨w.heap.size, 0, none⟩) n n) ∧ Ones w' w.heap.size n n ∧ Below w.heap.size w w') → ∃ g, e = .returned (.slice (some ⟨g, 0, none⟩) n n) ∧ w.heap.size ≤ g ∧ w'.heap[g]? = some (.cells (List.replicate n (.int .i64 (-1))).toArray 3) ∧ Below w.heap.size w w') := by
    rintro e w' ⟨he, hh, hb⟩
    obtain ⟨cur, h1, h2, h3⟩ := hh
    have e : cur = List.replicate n (.int .i64 (-1)) := by
      apply List.ext_getElem?
      intro i
      rcases Nat.lt_or_ge i n with h | h
      · rw [h3 i h, List.getElem?_replicate, if_pos h]
      · rw [List.getElem?_eq_none (by omega), List.getElem?_eq_none (by simpa using h)]
    subst e
    exact ⟨w.heap.size, he, Nat.le_refl _, h1, hb⟩
  have hsrc : ∀ j u, (ones 1)[j]? = some u → (w.alloc (.cells (zrow 0 n).toArray 3)).cell? ((⟨b, 0, none⟩ : Addr).add j) = some u := by
    intro j u hu
    obtain ⟨hj, rfl⟩ := ones_at hu
    obtain rfl : j = 0 := by omega
    rw [show (⟨b, 0, none⟩ : Addr).add 0 = ⟨b, 0, none⟩ by unfold Addr.add; split <;> simp_all]
    exact ((below1 w _).cell (p := ⟨b, 0, none⟩) (lt_blk hb)).trans (cell_blk hb 0)
  have HSRC := Lib.hid hsrc; clear hsrc
  go_wp2_with (first | (go_at_call 76; refine (mul_calls n _ h1 h4).mono ?_; rintro e w' ⟨rfl, rfl⟩) | (with_reducible refine wpList_copy_splice rfl _ _ 36 36 rfl 3 Try.underlying36 (by kernel_rfl) (some ⟨w.heap.size, 0, none⟩) (some ⟨b, 0, none⟩) n n 1 1 rfl rfl w.heap.size 0 (zrow 0 n) 3 (heap_alloc_self _ _) (ones 1) (by rw [ones_length]; simp [Nat.min_def]; omega) (fun _ => ⟨rfl, _, rfl, HSRC.out⟩) (by rw [ones_length, zrow_length (by omega)]; omega) (ones_one 1) w.heap.size w (below1 _ _) (Nat.le_refl _) ?_; intro w1 g1 hb1))
  rw [splice_zrow 0 n (by omega) 1 (by omega)] at g1
  have G1 : Ones w1 w.heap.size n 1 := ⟨_, g1.out, zrow_length (by omega), fun i hi => zrow_at (by omega)⟩
  clear g1
  rw [ones_length]
  go_loopw [8] (fun c wr => ∃ k : Nat, 1 ≤ k ∧ k ≤ n ∧ c = .int .i64 k ∧ Ones wr w.heap.size n k ∧ Below w.heap.size w wr) (fun c _ => n - (intOf c).toNat)
  case atStart => exact ⟨1, Nat.le_refl _, h1, rfl, G1, hb1⟩
  case round =>
    obtain ⟨k, hk1, hk, rfl, hh, hbe⟩ := hrel
    by_cases hlt : k < n
    · have hkn : (k : Int) < (n : Int) := by omega
      have hk0 : (0 : Int) ≤ (k : Int) := by omega
      have hkl : (k : Int) ≤ (n : Int) := by omega
      have hne : ¬ n = k := by omega
      have hmin : 1 ≤ min k (n - k) ∧ k + min k (n - k) ≤ n := by omega
      have HH := Lib.hid (show Ones wr.drew w.heap.size n k from hh)
      clear hh
      generalize hq : min k (n - k) = q at *
      have HQ := Lib.hid hq; clear hq
      have hm1 := hmin.1
      have hm2 := hmin.2
      clear hmin
      have hwq : IntKind.i64.wrap ((k : Int) + (q : Int)) = (k : Int) + (q : Int) := IntWalk.i64_in _ (by omega)
      go_wp2_with fail
      refine wp_region_rg (OnesR w.heap.size n) (fun | 7 => .exw (.int .i64 q) (fun w' => Ones w' w.heap.size n (k + q)) | _ => .fn) (by kernel_rfl) (by kernel_rfl) (onesR_refl _ _) (onesR_trans _ _) (by intro i; split <;> first | trivial | exact fun a b hr hd => hr.2 _ hd) ?_
      iterate 7 (refine rg_step fun K hK => ?_; apply rg_fn rfl; (intro w1 hw; go_simp; try rfl); go_simp; refine hK _ _ ?_; clear hK K)
      refine rg_step fun K hK => ?_
      apply rg_exw rfl
      · intro w1 hw
        obtain ⟨w2, h1, h2, h3⟩ := ones_copy w1 w.heap.size n k hk (hw.2 _ HH.out) hk1
        rw [HQ.out] at h1 h3
        refine ⟨w2, ?_, h2, h3⟩
        clear h2 h3 hw
        go_simp
      go_simp
      refine hK _ _ ?_
      clear hK K
      iterate 2 (refine rg_step fun K hK => ?_; apply rg_fn rfl; (intro w1 hw; go_simp; try rfl); go_simp; refine hK _ _ ?_; clear hK K)
      refine rg_nil ?_
      intro w3 hw3 hp
      have h3 : Ones w3 w.heap.size n (k + q) := by first | exact hp | exact hp.2
      have hb3 : Below w.heap.size w w3 := hbe.trans ((show Bel _ wr w3 from ⟨hw3.1.os, hw3.1.tape, hw3.1.output, hw3.1.size, hw3.1.block⟩).below hbe.size (fun j hj => by omega))
      clear hp hw3
      go_wp2_with fail
      go_roundw
      case rel => (repeat apply Exists.intro); exact ⟨⟨k + q, by omega, by omega, by go_num, h3, hb3⟩, rfl⟩
      case measure => simp [intOf]; omega
    · obtain rfl : k = n := by omega
      go_wp2_with fail
      go_ret
      exact HF.out _ _ ⟨rfl, hh, hbe⟩
end Go.Proofs.Ytccplobhfokcgaa
