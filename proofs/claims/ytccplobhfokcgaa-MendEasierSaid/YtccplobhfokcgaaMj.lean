/- rows of package mend: the iterator. -/
import Derived.Test.YtccplobhfokcgaaMi
import Derived.RangeFuncNested
import Derived.RangeFuncBound
import Derived.RangeFuncCalls
import Derived.RangeFuncLeaves
import Derived.Shelf.Abstract
import Derived.Shelf.RegionOpen
import Derived.OwnWalkIn
import Derived.TacticsInMore
import Derived.LoopNIn
import Derived.LoopIn
namespace Go.Proofs.Ytccplobhfokcgaa
open Go Go.RowKit Go.Shelf
set_option maxRecDepth 100000

/-! ### The odometer -/
/-- The row at k, the last t digits of which have been carried. -/
def carry (c n k t : Nat) : List Int := unval c (n - t) (k / (c + 1) ^ t) ++ List.replicate t (-1)
theorem carry_zero (c n k : Nat) : carry c n k 0 = unval c n k := by simp [carry]
theorem carry_length (c n k t : Nat) (h : t ≤ n) : (carry c n k t).length = n := by simp [carry, unval_length]; omega
theorem carry_cons (c n k t : Nat) (h : t < n) : carry c n k t = unval c (n - t - 1) (k / (c + 1) ^ (t + 1)) ++ (((k / (c + 1) ^ t % (c + 1) : Nat) : Int) - 1) :: List.replicate t (-1) := by
  unfold carry
  rw [show n - t = (n - t - 1) + 1 by omega, unval, Nat.div_div_eq_div_mul, Nat.pow_succ, List.append_assoc]
  simp
theorem carry_at (c n k t : Nat) (h : t < n) : (carry c n k t)[n - t - 1]? = some (((k / (c + 1) ^ t % (c + 1) : Nat) : Int) - 1) := by
  rw [carry_cons c n k t h, List.getElem?_append_right (by rw [unval_length]; exact Nat.le_refl _), unval_length]; simp
theorem carry_set (c n k t : Nat) (h : t < n) (x : Int) : (carry c n k t).set (n - t - 1) x = unval c (n - t - 1) (k / (c + 1) ^ (t + 1)) ++ x :: List.replicate t (-1) := by
  rw [carry_cons c n k t h, List.set_append_right _ _ (by rw [unval_length]; exact Nat.le_refl _), unval_length]; simp
theorem carry_next (c n k t : Nat) (h : t < n) : (carry c n k t).set (n - t - 1) (-1) = carry c n k (t + 1) := by
  rw [carry_set c n k t h]; unfold carry
  rw [show n - (t + 1) = n - t - 1 by omega, List.replicate_succ]
theorem carry_full {c k t : Nat} (h : k % (c + 1) ^ t = (c + 1) ^ t - 1) (hd : k / (c + 1) ^ t % (c + 1) = c) : k % (c + 1) ^ (t + 1) = (c + 1) ^ (t + 1) - 1 := by
  rw [Nat.pow_succ, Nat.mod_mul, h, hd]
  have : 0 < (c + 1) ^ t := Nat.pow_pos (by omega)
  rw [Nat.mul_add, Nat.mul_one]
  omega
theorem carry_done {c n k t : Nat} (ht : t < n) (h : k % (c + 1) ^ t = (c + 1) ^ t - 1) (hd : k / (c + 1) ^ t % (c + 1) < c) :
    (carry c n k t).set (n - t - 1) (((k / (c + 1) ^ t % (c + 1) : Nat) : Int) - 1 + 1) = unval c n (k + 1) := by
  have hp : 0 < (c + 1) ^ t := Nat.pow_pos (by omega)
  have hk : k + 1 = (k / (c + 1) ^ t + 1) * (c + 1) ^ t := by
    have := Nat.div_add_mod k ((c + 1) ^ t)
    rw [h] at this
    rw [Nat.add_mul, Nat.one_mul, Nat.mul_comm]
    omega
  rw [carry_set c n k t ht]
  obtain ⟨j, rfl⟩ : ∃ j, n = (j + 1) + t := ⟨n - t - 1, by omega⟩
  rw [hk, unval_mul, unval_succ_last c j _ hd, show j + 1 + t - t - 1 = j by omega, Nat.div_div_eq_div_mul, ← Nat.pow_succ, List.append_assoc]
  simp
theorem carry_end {c n k : Nat} (hk : k < (c + 1) ^ n) (h : k % (c + 1) ^ n = (c + 1) ^ n - 1) : k + 1 = (c + 1) ^ n := by
  rw [Nat.mod_eq_of_lt hk] at h
  omega

theorem carry_more {c n k t : Nat} (ht : t < n) (hk : k < (c + 1) ^ n) (hd : k / (c + 1) ^ t % (c + 1) < c) : k + 1 < (c + 1) ^ n := by
  have hp : 0 < (c + 1) ^ t := Nat.pow_pos (by omega)
  obtain ⟨j, rfl⟩ : ∃ j, n = (j + 1) + t := ⟨n - t - 1, by omega⟩
  have he : (c + 1) ^ (j + 1 + t) = ((c + 1) ^ j * (c + 1)) * (c + 1) ^ t := by rw [Nat.pow_add, Nat.pow_succ]
  rw [he] at hk ⊢
  have hq : k / (c + 1) ^ t < (c + 1) ^ j * (c + 1) := (Nat.div_lt_iff_lt_mul hp).2 hk
  have hq2 : k / (c + 1) ^ t + 1 < (c + 1) ^ j * (c + 1) := by
    rcases Nat.lt_or_ge (k / (c + 1) ^ t + 1) ((c + 1) ^ j * (c + 1)) with h | h
    · exact h
    · have e : k / (c + 1) ^ t + 1 = (c + 1) ^ j * (c + 1) := by omega
      have e2 : (k / (c + 1) ^ t + 1) % (c + 1) = 0 := by rw [e]; exact Nat.mul_mod_left _ _
      have e3 : (k / (c + 1) ^ t + 1) % (c + 1) = k / (c + 1) ^ t % (c + 1) + 1 := by
        have h1 : 1 % (c + 1) = 1 := Nat.mod_eq_of_lt (by omega)
        rw [Nat.add_mod, h1, Nat.mod_eq_of_lt (by omega)]
      omega
  have h1 : k < (k / (c + 1) ^ t + 1) * (c + 1) ^ t := by
    have := Nat.div_add_mod k ((c + 1) ^ t)
    have := Nat.mod_lt k hp
    rw [Nat.add_mul, Nat.one_mul, Nat.mul_comm]; omega
  exact Nat.lt_of_le_of_lt h1 (Nat.mul_lt_mul_of_pos_right hq2 hp)

/-- The number of a row, read off its cells. -/
def valL (c : Nat) (l : List Int) : Nat := l.foldl (fun a x => a * (c + 1) + (x + 1).toNat) 0
theorem valL_unval (c : Nat) : ∀ n k, valL c (unval c n k) = k % (c + 1) ^ n
  | 0, k => by simp [unval, valL, Nat.mod_one]
  | n + 1, k => by
    have ih := valL_unval c n (k / (c + 1))
    unfold valL at *
    rw [unval, List.foldl_append, ih]
    simp only [List.foldl_cons, List.foldl_nil]
    rw [Nat.pow_succ, Nat.mul_comm ((c + 1) ^ n), Nat.mod_mul, show ((((k % (c + 1) : Nat) : Int) - 1 + 1).toNat) = k % (c + 1) by omega, Nat.mul_comm (c + 1), Nat.add_comm]
def rowLeft (m : Wk) (g : Nat) (w : World) : Nat := rowsN m - match w.heap[g]? with
  | some (.cells cs _ _) => valL m.crafts.length (cs.toList.map intOf)
  | _ => 0
theorem rowLeft_eq (m : Wk) (g k : Nat) (w : World) (hk : k < rowsN m) (h : w.heap[g]? = some (.cells ((rowK m k).map (Value.int .i64)).toArray 3 (0, 0))) : rowLeft m g w = rowsN m - k := by
  unfold rowLeft
  rw [h]
  have : List.map (intOf ∘ Value.int IntKind.i64) (rowK m k) = rowK m k := by
    conv => rhs; rw [← List.map_id (rowK m k)]
    rfl
  simp only [List.map_map, this]
  rw [show valL m.crafts.length (rowK m k) = k from (valL_unval _ _ _).trans (Nat.mod_eq_of_lt hk)]
theorem map_set_int (l : List Int) (i : Nat) (x : Int) : ((l.map (Value.int .i64)).toArray).setIfInBounds i (.int .i64 x) = ((l.set i x).map (Value.int .i64)).toArray := by
  simp [List.map_set]
/-- What lies from the head of the loop's call to the iterator's own blocks. -/
def Mid (lo hi : Nat) (j : Nat) : Prop := lo ≤ j ∧ j < hi

set_option maxHeartbeats 4000000 in
/-- **rows**: each row that may be is handed over, in order, until a round says 'no more'. -/
theorem rows_in (m : Wk) (hm : 1 ≤ m.slopes.length ∧ m.slopes.length ≤ 4) (hc : m.crafts.length ≤ 4) (sA cA mA : Option Addr) (sc cn cc mc : Nat) (l : Nat) (W : World)
    (J Jx : Nat → Nat → World → Prop)
    (hJ : ∀ B k W1 W2, W.heap.size ≤ B → J B k W1 → Bel (Mid W.heap.size B) W1 W2 → J B k W2)
    (h0 : ∀ B W1, W.heap.size ≤ B → B ≤ W1.heap.size → Below W.heap.size W W1 → J B 0 W1)
    (hY : ∀ B k W1 rv row, W.heap.size ≤ B → B ≤ W1.heap.size → (rowsS m)[k]? = some row → J B k W1 → IntsAt W1 B rv row → YieldAt Fence.wide 8 Try.prog l #[rv] W1 fun e W' =>
      (e = .returned (.bool true) ∧ J B (k + 1) W' ∧ W1.heap.size ≤ W'.heap.size ∧ ∀ j, Mid W.heap.size B j → W'.heap[j]? = W1.heap[j]?) ∨ (e = .returned (.bool false) ∧ Jx B (k + 1) W')) :
    CallsIn Fence.wide 9 Try.prog 52 #[.agg #[.slice sA m.slopes.length sc, .slice cA cn cc, .int .i64 m.years, .int .i64 m.visit, .int .i64 m.hands, .slice mA m.crafts.length mc], .func (.yield l) #[] #[]] W
      fun e W' => (∃ v, e = .returned v) ∧ ∃ B, W.heap.size ≤ B ∧ (J B (rowsS m).length W' ∨ ∃ k, 1 ≤ k ∧ k ≤ (rowsS m).length ∧ Jx B k W') := by
  have HY := Lib.hid hY; clear hY
  have HJ := Lib.hid hJ; clear hJ
  have H0 := Lib.hid h0; clear h0
  obtain ⟨hm1, hm4⟩ := hm
  have hFw : ∀ f, Fence.wide.fn f := fun _ => trivial
  refine callsIn_of_wp Try.func52 rfl trivial ?_ rfl
  simp only [Try.ntmps52, List.size_toArray, List.length_cons, List.length_nil, Nat.reduceAdd, Nat.reduceSub, Array.replicate_succ, Array.replicate_zero, List.push_toArray, List.append_toArray, List.nil_append, List.cons_append]
  gi_wp2_with (gi_at_call 70; refine (callsIn_wide.2 (repeat_calls (W.heap.size + 1) m.slopes.length _ (by simpa using heap_alloc_self (W.alloc _) _) hm1 hm4)).mono ?_; rintro e w1 ⟨g, rfl, hg, hgb, hb1⟩)
  have hg' : W.heap.size + 2 ≤ g := by simpa using hg
  have hbox : w1.heap[W.heap.size]? = some (.cells #[.slice sA m.slopes.length sc, .slice cA cn cc, .int .i64 m.years, .int .i64 m.visit, .int .i64 m.hands, .slice mA m.crafts.length mc] 74) :=
    blk_below hb1 ((Below.heap_alloc _ _ _ (by simp)).trans (heap_alloc_self _ _)) (by simp; omega)
  have hW1 : Below W.heap.size W w1 := ((below1 _ _).alloc (by simp) _).trans (hb1.mono (by simp; omega))
  have hrow0 : w1.heap[g]? = some (.cells ((rowK m 0).map (Value.int .i64)).toArray 3 (0, 0)) := by
    rw [hgb, rowK, unval_zero]; simp
  have hgs := lt_blk hgb
  have hj0 := H0.out w1.heap.size w1 hW1.size (Nat.le_refl _) hW1
  have HR0 := Lib.hid hrow0
  have HB0 := Lib.hid hbox
  have HJ0 := Lib.hid hj0
  clear hgb hbox hW1 hj0 hb1 hrow0 hg
  generalize hB : w1.heap.size = B at *
  have hWB : W.heap.size + 2 ≤ B := by omega
  gi_loopw [5] (fun _ wr => ∃ k : Nat, k < rowsN m ∧ B ≤ wr.heap.size ∧ Hid (wr.heap[g]? = some (.cells ((rowK m k).map (Value.int .i64)).toArray 3 (0, 0))) ∧
    Hid (wr.heap[W.heap.size]? = some (.cells #[.slice sA m.slopes.length sc, .slice cA cn cc, .int .i64 m.years, .int .i64 m.visit, .int .i64 m.hands, .slice mA m.crafts.length mc] 74)) ∧ Hid (J B (rowsTo m k).length wr)) (fun _ wr => rowLeft m g wr)
  case atStart => exact ⟨0, Nat.pow_pos (by omega), by omega, HR0, HB0, HJ0⟩
  case round =>
    obtain ⟨k, hk, hBs, hrw, hbx, hjk⟩ := hrel
    have hb0 := hbx.out
    obtain ⟨m0, m1, m2, m3, m4, m5⟩ := blk6 hb0
    have hrc : RowC wr wr.heap.size (some ⟨g, 0, none⟩) ((rowK m k).map (Value.int .i64)) := ⟨by simp [rowK, unval_length]; omega, fun _ => ⟨g, 0, rfl, lt_blk hrw.out, fun j u hu => by rw [cell_blk hrw.out]; simpa using hu⟩⟩
    have hmay := may_calls m sA cA mA (some ⟨g, 0, none⟩) sc cn cc mc m.slopes.length (rowK m k) wr hrc (by omega) (by omega)
    rw [show (rowK m k).length = m.slopes.length from unval_length _ _ _] at hmay
    have HMAY := Lib.hid hmay
    clear hb0 hrc hmay
    have hsuc := rowsTo_succ m k
    have hpre := rowsTo_prefix m (show k + 1 ≤ rowsN m by omega)
    have HSUC := Lib.hid hsuc
    have HPRE := Lib.hid hpre
    clear hsuc hpre
    cases hmy : mayS m (rowK m k)
    · rw [hmy] at HMAY HSUC
      have HMY := Lib.hid hmy; clear hmy
      gi_wp2_with (gi_at_call 63; refine (callsIn_wide.2 HMAY.out).mono ?_; rintro e w2 ⟨rfl, hb2⟩)
      have hjn : J B (rowsTo m (k + 1)).length w2 := by
        rw [HSUC.out]; simp only [Bool.false_eq_true, if_false, List.append_nil]
        exact HJ.out _ _ _ _ (by omega) hjk.out (Bel.of_below hb2)
      have hBs2 : B ≤ w2.heap.size := Nat.le_trans hBs hb2.size
      have hrw2 := blk_below hb2 hrw.out (lt_blk hrw.out)
      have hbx2 := blk_below hb2 hbx.out (lt_blk hbx.out)

      have hn0 : (m.slopes.length : Int) - ((0 : Nat) : Int) - 1 = (m.slopes.length : Int) - 1 := by omega
      have hlk : (rowK m k).length = m.slopes.length := unval_length _ _ _
      have HRW2 := Lib.hid hrw2
      have HBX2 := Lib.hid hbx2
      have HJN := Lib.hid hjn
      clear hrw2 hbx2 hjn hb2
      obtain ⟨wo, rfl⟩ : ∃ wo : World, wo = wr := ⟨_, rfl⟩
      gi_loopw [5] (fun i wi => ∃ t : Nat, t ≤ m.slopes.length ∧ i = .int .i64 ((m.slopes.length : Int) - (t : Int) - 1) ∧ k % (m.crafts.length + 1) ^ t = (m.crafts.length + 1) ^ t - 1 ∧ B ≤ wi.heap.size ∧
        Hid (wi.heap[g]? = some (.cells ((carry m.crafts.length m.slopes.length k t).map (Value.int .i64)).toArray 3 (0, 0))) ∧
        Hid (wi.heap[W.heap.size]? = some (.cells #[.slice sA m.slopes.length sc, .slice cA cn cc, .int .i64 m.years, .int .i64 m.visit, .int .i64 m.hands, .slice mA m.crafts.length mc] 74)) ∧ Hid (J B (rowsTo m (k + 1)).length wi)) (fun i _ => (intOf i + 1).toNat)
      case atStart => exact ⟨0, Nat.zero_le _, by rw [hn0], by simp [Nat.mod_one], hBs2, by rw [carry_zero]; exact HRW2, HBX2, HJN⟩
      case round =>
        obtain ⟨t, ht, rfl, hmod, hBi, hri, hbi, hji⟩ := hrel
        have hbi0 := hbi.out
        obtain ⟨b0, b1, b2, b3, b4, b5⟩ := blk6 hbi0
        have hWi : W.heap.size < wr.heap.size := by omega
        clear hbi0
        by_cases htn : t = m.slopes.length
        · subst htn
          have hi1 : (m.slopes.length : Int) - (m.slopes.length : Int) - 1 = -1 := by omega
          have hfin : k + 1 = rowsN m := carry_end hk hmod
          rw [hi1]
          have HFIN := Lib.hid hfin; clear hfin hi1
          gi_wp2_with fail
          refine wpIn_region_rg (Below wr.heap.size) (fun _ => .fn) (by kernel_rfl) (fun _ => trivial) (by kernel_rfl) (Below.refl _) belowR (fun _ => trivial) ?_
          iterate 3 (refine rg_step fun K hK => ?_; apply rg_fn rfl; (intro w4 hw; have hc := below_cells (undrew hw); go_simp; try rfl); go_simp; (try with_reducible refine hK _ _ ?_); try clear hK K)
          iterate 9 (refine rg_step fun K hK => rg_skip rfl ?_; go_simp; (try with_reducible refine hK _ _ ?_); try clear hK K)
          iterate 1 (refine rg_step fun K hK => ?_; apply rg_fn rfl; (intro w4 hw; have hc := below_cells (undrew hw); go_simp; try rfl); go_simp; (try with_reducible refine hK _ _ ?_); try clear hK K)
          refine rg_nil ?_
          intro w5 hw5 _
          replace hw5 := undrew hw5
          have hj5 := HJ.out _ _ _ _ (by omega) hji.out (Bel.of_below hw5)
          rw [HFIN.out] at hj5
          have HJ5 := Lib.hid hj5
          clear hw5 hj5
          gi_wp2_with fail
          exact bodyPost_ret (results_none rfl _ _ _) rfl ⟨⟨_, rfl⟩, B, by omega, .inl HJ5.out⟩
        · obtain ⟨i, hi⟩ : ∃ i, i + t + 1 = m.slopes.length := ⟨m.slopes.length - t - 1, by omega⟩
          have hiv : (m.slopes.length : Int) - (t : Int) - 1 = (i : Int) := by omega
          have hca := carry_at m.crafts.length m.slopes.length k t (by omega)
          rw [show m.slopes.length - t - 1 = i by omega] at hca
          have hcell : wr.cell? ⟨g, i, none⟩ = some (.int .i64 (((k / (m.crafts.length + 1) ^ t % (m.crafts.length + 1) : Nat) : Int) - 1)) := by
            rw [cell_blk hri.out]; simp [hca]
          have hdlt : k / (m.crafts.length + 1) ^ t % (m.crafts.length + 1) < m.crafts.length + 1 := Nat.mod_lt _ (by omega)
          have HCA := Lib.hid hca
          have hin : (i : Int) < (m.slopes.length : Int) := by omega
          have hi0 : (0 : Int) ≤ (i : Int) := by omega
          rw [hiv]
          generalize hd : k / (m.crafts.length + 1) ^ t % (m.crafts.length + 1) = d at *
          have HD := Lib.hid hd
          clear hca hd hiv
          have hgi : g < wr.heap.size := by omega
          have hsb : IntKind.i64.wrap ((m.crafts.length : Int) - 1) = (m.crafts.length : Int) - 1 := IntWalk.i64_in _ (by omega)
          have hcc : (0 : Int) ≤ (m.crafts.length : Int) := by omega
          gi_wp2_with fail
          refine wpIn_region_rg (Below wr.heap.size) (fun _ => .fn) (by kernel_rfl) (fun _ => trivial) (by kernel_rfl) (Below.refl _) belowR (fun _ => trivial) ?_
          iterate 13 (refine rg_step fun K hK => ?_; apply rg_fn rfl; (intro w4 hw; have hc := below_cells (undrew hw); go_simp; try rfl); go_simp; (try with_reducible refine hK _ _ ?_); try clear hK K)
          refine rg_nil ?_
          intro w5 hw5 _
          replace hw5 := undrew hw5
          have hj5 := HJ.out _ _ _ _ (by omega) hji.out (Bel.of_below hw5)
          have hr5 := blk_below hw5 hri.out hgi
          have hb5 := blk_below hw5 hbi.out hWi
          have hc5 : w5.cell? ⟨g, i, none⟩ = some (.int .i64 ((d : Int) - 1)) := (hw5.cell (p := ⟨g, i, none⟩) hgi).trans hcell
          have hf5 : w5.frozen? ⟨g, i, none⟩ = false := frozen_blk hr5 i
          have hs5 : B ≤ w5.heap.size := Nat.le_trans hBi hw5.size
          have HJ5 := Lib.hid hj5
          have HR5 := Lib.hid hr5
          have HB5 := Lib.hid hb5
          clear hw5 hj5 hr5 hb5
          by_cases hdc : d = m.crafts.length
          · subst hdc
            gi_wp2_with fail
            refine ⟨⟨t + 1, by omega, by rw [show (m.slopes.length : Int) - ((t + 1 : Nat) : Int) - 1 = (i : Int) - 1 by omega], carry_full hmod HD.out, by simpa [World.setCell] using hs5, ?_, ?_, ?_⟩, ?_⟩
            · refine Lib.hid ?_
              rw [heap_set HR5.out, map_set_int, ← carry_next _ _ _ _ (by omega : t < m.slopes.length), show m.slopes.length - t - 1 = i by omega]
            · exact Lib.hid ((Below.heap_setCell _ _ _ _ (by simp; omega)).trans HB5.out)
            · exact Lib.hid (HJ.out _ _ _ _ (by omega) HJ5.out ((Bel.refl _ _).setCell (fun _ => ⟨by simp; omega, hgs⟩) _))
            · simp [intOf]
          · have hdc' : d < m.crafts.length := by omega
            have hne : ((d : Int) - 1 == (m.crafts.length : Int) - 1) = false := by rw [beq_eq_false_iff_ne]; omega
            gi_wp2_with fail
            have hmore : k + 1 < rowsN m := carry_more (by omega : t < m.slopes.length) hk (by rw [HD.out]; exact hdc')
            have hrow' : (w5.setCell ⟨g, i, none⟩ (.int .i64 (d : Int))).heap[g]? = some (.cells ((rowK m (k + 1)).map (Value.int .i64)).toArray 3 (0, 0)) := by
              rw [heap_set HR5.out, map_set_int]
              have := carry_done (c := m.crafts.length) (n := m.slopes.length) (k := k) (t := t) (by omega) hmod (by rw [HD.out]; exact hdc')
              rw [HD.out, show m.slopes.length - t - 1 = i by omega, show (d : Int) - 1 + 1 = d by omega] at this
              rw [this]; rfl
            refine ⟨⟨k + 1, hmore, by simpa [World.setCell] using hs5, Lib.hid hrow', ?_, ?_⟩, ?_⟩
            · exact Lib.hid ((Below.heap_setCell _ _ _ _ (by simp; omega)).trans HB5.out)
            · exact Lib.hid (HJ.out _ _ _ _ (by omega) HJ5.out ((Bel.refl _ _).setCell (fun _ => ⟨by simp; omega, hgs⟩) _))
            · rw [rowLeft_eq m g (k + 1) _ hmore hrow', rowLeft_eq m g k _ hk hrw.out]; omega
    · rw [hmy] at HMAY HSUC
      have hget : (rowsS m)[(rowsTo m k).length]? = some (rowK m k) := by
        obtain ⟨tl, htl⟩ := HPRE.out
        unfold rowsS; rw [htl, HSUC.out]; simp
      have hle : (rowsTo m k).length + 1 ≤ (rowsS m).length := by
        obtain ⟨tl, htl⟩ := HPRE.out
        unfold rowsS; rw [htl, HSUC.out]; simp
      have HGET := Lib.hid hget
      have HLE := Lib.hid hle
      clear hget hle
      have HMY := Lib.hid hmy; clear hmy
      gi_wp2_with (gi_at_call 63; refine (callsIn_wide.2 HMAY.out).mono ?_; rintro e w9 ⟨rfl, hb9⟩)
      have hj9 := HJ.out _ _ _ _ (by omega) hjk.out (Bel.of_below hb9)
      have hs9 : B ≤ w9.heap.size := Nat.le_trans hBs hb9.size
      have hr9 := blk_below hb9 hrw.out (lt_blk hrw.out)
      have hx9 := blk_below hb9 hbx.out (lt_blk hbx.out)
      have hia : IntsAt w9 B (.slice (some ⟨g, 0, none⟩) m.slopes.length m.slopes.length) (rowK m k) :=
        ⟨_, _, by rw [show (rowK m k).length = m.slopes.length from unval_length _ _ _], by simp [rowK, unval_length]; omega, fun _ => ⟨g, 0, rfl, hgs, fun j u hu => by rw [cell_blk hr9]; simpa using hu⟩⟩
      obtain ⟨fn, tmps, assign, body, hy, hR⟩ := HY.out B (rowsTo m k).length w9 _ (rowK m k) (by omega) hs9 HGET.out hj9 hia
      clear hj9 hia hb9
      gi_wp2_with fail
      rw [hy]
      gi_wp2_with fail
      refine hR.mono ?_
      rintro e w2 (⟨rfl, hjn, hs2, hk2⟩ | ⟨rfl, hjx⟩)
      · clear hR hy
        have hjn : J B (rowsTo m (k + 1)).length w2 := by
          rw [HSUC.out]; simpa using hjn
        have hBs2 : B ≤ w2.heap.size := Nat.le_trans hs9 hs2
        have hrw2 := (hk2 g ⟨by omega, hgs⟩).trans hr9
        have hbx2 := (hk2 W.heap.size ⟨by omega, by omega⟩).trans hx9
        clear hk2 hs2 hr9 hx9 hs9
        gi_wp2_with fail
        have hn0 : (m.slopes.length : Int) - ((0 : Nat) : Int) - 1 = (m.slopes.length : Int) - 1 := by omega
        have hlk : (rowK m k).length = m.slopes.length := unval_length _ _ _
        have HRW2 := Lib.hid hrw2
        have HBX2 := Lib.hid hbx2
        have HJN := Lib.hid hjn
        clear hrw2 hbx2 hjn
        obtain ⟨wo, rfl⟩ : ∃ wo : World, wo = wr := ⟨_, rfl⟩
        gi_loopw [5] (fun i wi => ∃ t : Nat, t ≤ m.slopes.length ∧ i = .int .i64 ((m.slopes.length : Int) - (t : Int) - 1) ∧ k % (m.crafts.length + 1) ^ t = (m.crafts.length + 1) ^ t - 1 ∧ B ≤ wi.heap.size ∧
          Hid (wi.heap[g]? = some (.cells ((carry m.crafts.length m.slopes.length k t).map (Value.int .i64)).toArray 3 (0, 0))) ∧
          Hid (wi.heap[W.heap.size]? = some (.cells #[.slice sA m.slopes.length sc, .slice cA cn cc, .int .i64 m.years, .int .i64 m.visit, .int .i64 m.hands, .slice mA m.crafts.length mc] 74)) ∧ Hid (J B (rowsTo m (k + 1)).length wi)) (fun i _ => (intOf i + 1).toNat)
        case atStart => exact ⟨0, Nat.zero_le _, by rw [hn0], by simp [Nat.mod_one], hBs2, by rw [carry_zero]; exact HRW2, HBX2, HJN⟩
        case round =>
          obtain ⟨t, ht, rfl, hmod, hBi, hri, hbi, hji⟩ := hrel
          have hbi0 := hbi.out
          obtain ⟨b0, b1, b2, b3, b4, b5⟩ := blk6 hbi0
          have hWi : W.heap.size < wr.heap.size := by omega
          clear hbi0
          by_cases htn : t = m.slopes.length
          · subst htn
            have hi1 : (m.slopes.length : Int) - (m.slopes.length : Int) - 1 = -1 := by omega
            have hfin : k + 1 = rowsN m := carry_end hk hmod
            rw [hi1]
            have HFIN := Lib.hid hfin; clear hfin hi1
            gi_wp2_with fail
            refine wpIn_region_rg (Below wr.heap.size) (fun _ => .fn) (by kernel_rfl) (fun _ => trivial) (by kernel_rfl) (Below.refl _) belowR (fun _ => trivial) ?_
            iterate 3 (refine rg_step fun K hK => ?_; apply rg_fn rfl; (intro w4 hw; have hc := below_cells (undrew hw); go_simp; try rfl); go_simp; (try with_reducible refine hK _ _ ?_); try clear hK K)
            iterate 9 (refine rg_step fun K hK => rg_skip rfl ?_; go_simp; (try with_reducible refine hK _ _ ?_); try clear hK K)
            iterate 1 (refine rg_step fun K hK => ?_; apply rg_fn rfl; (intro w4 hw; have hc := below_cells (undrew hw); go_simp; try rfl); go_simp; (try with_reducible refine hK _ _ ?_); try clear hK K)
            refine rg_nil ?_
            intro w5 hw5 _
            replace hw5 := undrew hw5
            have hj5 := HJ.out _ _ _ _ (by omega) hji.out (Bel.of_below hw5)
            rw [HFIN.out] at hj5
            have HJ5 := Lib.hid hj5
            clear hw5 hj5
            gi_wp2_with fail
            exact bodyPost_ret (results_none rfl _ _ _) rfl ⟨⟨_, rfl⟩, B, by omega, .inl HJ5.out⟩
          · obtain ⟨i, hi⟩ : ∃ i, i + t + 1 = m.slopes.length := ⟨m.slopes.length - t - 1, by omega⟩
            have hiv : (m.slopes.length : Int) - (t : Int) - 1 = (i : Int) := by omega
            have hca := carry_at m.crafts.length m.slopes.length k t (by omega)
            rw [show m.slopes.length - t - 1 = i by omega] at hca
            have hcell : wr.cell? ⟨g, i, none⟩ = some (.int .i64 (((k / (m.crafts.length + 1) ^ t % (m.crafts.length + 1) : Nat) : Int) - 1)) := by
              rw [cell_blk hri.out]; simp [hca]
            have hdlt : k / (m.crafts.length + 1) ^ t % (m.crafts.length + 1) < m.crafts.length + 1 := Nat.mod_lt _ (by omega)
            have HCA := Lib.hid hca
            have hin : (i : Int) < (m.slopes.length : Int) := by omega
            have hi0 : (0 : Int) ≤ (i : Int) := by omega
            rw [hiv]
            generalize hd : k / (m.crafts.length + 1) ^ t % (m.crafts.length + 1) = d at *
            have HD := Lib.hid hd
            clear hca hd hiv
            have hgi : g < wr.heap.size := by omega
            have hsb : IntKind.i64.wrap ((m.crafts.length : Int) - 1) = (m.crafts.length : Int) - 1 := IntWalk.i64_in _ (by omega)
            have hcc : (0 : Int) ≤ (m.crafts.length : Int) := by omega
            gi_wp2_with fail
            refine wpIn_region_rg (Below wr.heap.size) (fun _ => .fn) (by kernel_rfl) (fun _ => trivial) (by kernel_rfl) (Below.refl _) belowR (fun _ => trivial) ?_
            iterate 13 (refine rg_step fun K hK => ?_; apply rg_fn rfl; (intro w4 hw; have hc := below_cells (undrew hw); go_simp; try rfl); go_simp; (try with_reducible refine hK _ _ ?_); try clear hK K)
            refine rg_nil ?_
            intro w5 hw5 _
            replace hw5 := undrew hw5
            have hj5 := HJ.out _ _ _ _ (by omega) hji.out (Bel.of_below hw5)
            have hr5 := blk_below hw5 hri.out hgi
            have hb5 := blk_below hw5 hbi.out hWi
            have hc5 : w5.cell? ⟨g, i, none⟩ = some (.int .i64 ((d : Int) - 1)) := (hw5.cell (p := ⟨g, i, none⟩) hgi).trans hcell
            have hf5 : w5.frozen? ⟨g, i, none⟩ = false := frozen_blk hr5 i
            have hs5 : B ≤ w5.heap.size := Nat.le_trans hBi hw5.size
            have HJ5 := Lib.hid hj5
            have HR5 := Lib.hid hr5
            have HB5 := Lib.hid hb5
            clear hw5 hj5 hr5 hb5
            by_cases hdc : d = m.crafts.length
            · subst hdc
              gi_wp2_with fail
              refine ⟨⟨t + 1, by omega, by rw [show (m.slopes.length : Int) - ((t + 1 : Nat) : Int) - 1 = (i : Int) - 1 by omega], carry_full hmod HD.out, by simpa [World.setCell] using hs5, ?_, ?_, ?_⟩, ?_⟩
              · refine Lib.hid ?_
                rw [heap_set HR5.out, map_set_int, ← carry_next _ _ _ _ (by omega : t < m.slopes.length), show m.slopes.length - t - 1 = i by omega]
              · exact Lib.hid ((Below.heap_setCell _ _ _ _ (by simp; omega)).trans HB5.out)
              · exact Lib.hid (HJ.out _ _ _ _ (by omega) HJ5.out ((Bel.refl _ _).setCell (fun _ => ⟨by simp; omega, hgs⟩) _))
              · simp [intOf]
            · have hdc' : d < m.crafts.length := by omega
              have hne : ((d : Int) - 1 == (m.crafts.length : Int) - 1) = false := by rw [beq_eq_false_iff_ne]; omega
              gi_wp2_with fail
              have hmore : k + 1 < rowsN m := carry_more (by omega : t < m.slopes.length) hk (by rw [HD.out]; exact hdc')
              have hrow' : (w5.setCell ⟨g, i, none⟩ (.int .i64 (d : Int))).heap[g]? = some (.cells ((rowK m (k + 1)).map (Value.int .i64)).toArray 3 (0, 0)) := by
                rw [heap_set HR5.out, map_set_int]
                have := carry_done (c := m.crafts.length) (n := m.slopes.length) (k := k) (t := t) (by omega) hmod (by rw [HD.out]; exact hdc')
                rw [HD.out, show m.slopes.length - t - 1 = i by omega, show (d : Int) - 1 + 1 = d by omega] at this
                rw [this]; rfl
              refine ⟨⟨k + 1, hmore, by simpa [World.setCell] using hs5, Lib.hid hrow', ?_, ?_⟩, ?_⟩
              · exact Lib.hid ((Below.heap_setCell _ _ _ _ (by simp; omega)).trans HB5.out)
              · exact Lib.hid (HJ.out _ _ _ _ (by omega) HJ5.out ((Bel.refl _ _).setCell (fun _ => ⟨by simp; omega, hgs⟩) _))
              · rw [rowLeft_eq m g (k + 1) _ hmore hrow', rowLeft_eq m g k _ hk hrw.out]; omega
      · clear hR hy
        gi_wp2_with fail
        exact bodyPost_ret (results_none rfl _ _ _) rfl ⟨⟨_, rfl⟩, B, by omega, .inr ⟨_, by omega, HLE.out, hjx⟩⟩
end Go.Proofs.Ytccplobhfokcgaa
