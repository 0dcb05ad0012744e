/- begin, first and modelOf. -/
import Derived.Test.YtccplobhfokcgaaMe
namespace Go.Proofs.Ytccplobhfokcgaa
open Go Go.RowKit Go.Shelf
set_option maxRecDepth 100000

/-- The state of a list of thicknesses. -/
def stOf (y : Int) (xs : List Int) : St := ⟨y, xs.getD 0 0, xs.getD 1 0, xs.getD 2 0, xs.getD 3 0⟩
theorem splice_st (y : Int) (xs : List Int) (h : xs.length ≤ 4) : splice [.int .i64 y, .int .i64 0, .int .i64 0, .int .i64 0, .int .i64 0] 1 (xs.map (Value.int .i64)) =
    [.int .i64 (stOf y xs).y, .int .i64 (stOf y xs).a, .int .i64 (stOf y xs).b, .int .i64 (stOf y xs).c, .int .i64 (stOf y xs).d] := by
  match xs, h with
  | [], _ => rfl
  | [_], _ => rfl
  | [_, _], _ => rfl
  | [_, _, _], _ => rfl
  | [_, _, _, _], _ => rfl
theorem begin_calls (y : Int) (v : Value) (xs : List Int) (w : World) (n0 : Nat) (hn0 : n0 ≤ w.heap.size) (hv : IntsAt w n0 v xs) (hxs : xs.length ≤ 4) :
    Calls Try.prog 58 #[.int .i64 y, v] w fun e w' => e = .returned (.agg #[.int .i64 (stOf y xs).y, .int .i64 (stOf y xs).a, .int .i64 (stOf y xs).b, .int .i64 (stOf y xs).c, .int .i64 (stOf y xs).d]) ∧ Below w.heap.size w w' := by
  obtain ⟨A, c, rfl, hl, hr⟩ := hv
  have hsp := splice_st y xs hxs
  have HSP := Lib.hid hsp
  simp only [List.length_map] at hl
  have hx1 : (xs.map (Value.int .i64)).length = Nat.min xs.length 4 := by simp [Nat.min_def]; omega
  have HX := Lib.hid hx1
  have hpos : ∀ W : World, Below w.heap.size w W → 0 < (xs.map (Value.int .i64)).length → some (⟨w.heap.size + 1, 1, none⟩ : Addr) = some ⟨w.heap.size + 1, 1, none⟩ ∧ ∃ ad, A = some ad ∧ ∀ j v, (xs.map (Value.int .i64))[j]? = some v → W.cell? (ad.add j) = some v := by
    intro W hb hp
    refine ⟨rfl, ?_⟩
    obtain ⟨b, o, rfl, hlt, hc⟩ := hr (by intro e; simp [e] at hp)
    refine ⟨_, rfl, fun j u hu => ?_⟩
    rw [show (⟨b, o, none⟩ : Addr).add j = ⟨b, o + j, none⟩ by unfold Addr.add; split <;> simp_all]
    exact (hb.cell (p := ⟨b, o + j, none⟩) (Nat.lt_of_lt_of_le hlt hn0)).trans (hc j u hu)
  have HP := Lib.hid hpos
  clear hr hsp hpos hx1
  go_enter Try.func58, Try.ntmps58
  go_wp2_with (refine wpList_copy_splice rfl _ _ 36 36 rfl 3 Try.underlying36 (by kernel_rfl) (some ⟨w.heap.size + 1, 1, none⟩) A 4 4 xs.length c rfl rfl (w.heap.size + 1) 1 [.int .i64 y, .int .i64 0, .int .i64 0, .int .i64 0, .int .i64 0] 79 (by simpa using heap_alloc_self (w.alloc _) _) (xs.map (Value.int .i64)) HX.out (HP.out _ ((below1 _ _).alloc (by simp) _)) (by simp; omega) (by simp [Value.oneCell']) (w.heap.size + 1) (w.alloc (.cells #[.int .i64 0, .int .i64 0, .int .i64 0, .int .i64 0, .int .i64 0] 79)) ((Below.refl _ _).alloc (by simp) _) (by omega) ?_; intro w1 h1 hb1; have g1 := h1.out; rw [HSP.out] at g1; obtain ⟨t0, t1, t2, t3, t4⟩ := blk5 g1; have g2 := blk_below hb1 (heap_alloc_self w _) (by omega); obtain ⟨r0, r1, r2, r3, r4⟩ := blk5 g2; have fr := frozen_blk g2; have G2 := Lib.hid g2; clear g1 g2 h1)
  refine bodyPost_ret (v := .agg #[.int .i64 (stOf y xs).y, .int .i64 (stOf y xs).a, .int .i64 (stOf y xs).b, .int .i64 (stOf y xs).c, .int .i64 (stOf y xs).d]) ?_ rfl ⟨rfl, ?_⟩
  · have h6 := heap_set (heap_set (heap_set (heap_set (heap_set G2.out 0 (.int .i64 (stOf y xs).y)) 1 (.int .i64 (stOf y xs).a)) 2 (.int .i64 (stOf y xs).b)) 3 (.int .i64 (stOf y xs).c)) 4 (.int .i64 (stOf y xs).d)
    simp only [List.setIfInBounds_toArray, List.set_cons_zero, List.set_cons_succ] at h6
    generalize World.setCell _ _ (Value.int IntKind.i64 (stOf y xs).d) = W at *
    obtain ⟨r0, r1, r2, r3, r4⟩ := blk5 h6
    simp [results, Try.results58, go_sem, r0, r1, r2, r3, r4]
  · exact ((((((below1 w _).trans (hb1.mono (by omega))).setCell (by simp) _).setCell (by simp) _).setCell (by simp) _).setCell (by simp) _).setCell (by simp) _

def nows (m : Wk) : List Int := m.slopes.map Slope.now
def firstS (m : Wk) : St := stOf 0 (nows m)
set_option maxHeartbeats 1000000 in
theorem first_calls (m : Wk) (sl v1 v5 : Value) (y v h : Int) (w : World) (hm : m.slopes.length ≤ 4) (hsl : SlopesAt w w.heap.size sl m.slopes) :
    Calls Try.prog 41 #[.agg #[sl, v1, .int .i64 y, .int .i64 v, .int .i64 h, v5]] w
      fun e w' => e = .returned (.agg #[.int .i64 (firstS m).y, .int .i64 (firstS m).a, .int .i64 (firstS m).b, .int .i64 (firstS m).c, .int .i64 (firstS m).d]) ∧ Below w.heap.size w w' := by
  obtain ⟨sA, sc, rfl, hsl1, hsl2⟩ := hsl
  go_enter Try.func41, Try.ntmps41
  go_wp2_with fail
  go_loopw [3, 10] (fun l i wr => ∃ k : Nat, k ≤ m.slopes.length ∧ i = .int .i64 k ∧ wr.ownsRow (w.heap.size + 2) 3 1 l k (((nows m).take k).map (Value.int .i64)) ∧
    Below w.heap.size w wr ∧ wr.heap[w.heap.size]? = some (.cells #[.slice sA m.slopes.length sc, v1, .int .i64 y, .int .i64 v, .int .i64 h, v5] 74) ∧
    wr.heap[w.heap.size + 1]? = some (.cells #[.int .i64 0, .int .i64 0, .int .i64 0, .int .i64 0, .int .i64 0] 79)) (fun _ i _ => m.slopes.length - (intOf i).toNat)
  case atStart =>
    exact ⟨0, Nat.zero_le _, rfl, ⟨by simp, .inl ⟨rfl, rfl⟩⟩, (below1 _ _).alloc (by simp) _, (Below.heap_alloc _ _ _ (by simp)).trans (heap_alloc_self _ _), by simpa using heap_alloc_self (w.alloc _) _⟩
  case round =>
    obtain ⟨k, hk, rfl, hown, hbe, hbox, hres⟩ := hrel
    have hB := lt_blk hres
    by_cases hlt : k < m.slopes.length
    · obtain ⟨bs, os, rfl, hbs, hss⟩ := hsl2 (by intro e; simp [e] at hlt)
      obtain ⟨tk, ⟨tA, tc, rfl, htr⟩, s0, s1, s2, s3, s4⟩ := hss k _ (List.getElem?_eq_getElem hlt)
      have kk : ∀ j, wr.cell? ⟨bs, j, none⟩ = w.cell? ⟨bs, j, none⟩ := fun j => hbe.cell (p := ⟨bs, j, none⟩) hbs
      rw [← kk] at s0 s1 s2 s3 s4
      have HBE := Lib.hid hbe
      have hbx := below1 wr (.cells #[.int .i64 m.slopes[k].now, .int .i64 m.slopes[k].need, .int .i64 m.slopes[k].full, .int .i64 m.slopes[k].size, .slice tA m.slopes[k].takes.length tc] 55)
      have HBX := Lib.hid hbx
      have hts : (nows m).take (k + 1) = (nows m).take k ++ [m.slopes[k].now] := by
        rw [List.take_succ_eq_append_getElem (by simpa [nows] using hlt)]; simp [nows]
      have HT := Lib.hid hts
      clear hbe kk hss hsl2 htr hbx hts
      go_wp2_with (at_builtin; refine wpList_app (w.heap.size + 2) _ _ 36 3 (.int .i64 0) 1 8 [.int .i64 m.slopes[k].now] rfl rfl Try.underlying36 infoInt rfl (by decide) (by decide) _ k _ rfl ((show _ = Value.slice (some ⟨wr.heap.size + 1, 0, none⟩) 1 1 from rfl).trans (by simp)) rfl (by simp [Value.oneCell']) (hown.alloc _) (by omega) (by simp; omega) ?_; intro v1 w1 hown1 hg _ hb1)
      go_roundw
      case rel =>
        have hk2 : ∀ i o, wr.heap[i]? = some o → i < w.heap.size + 2 → w1.heap[i]? = some o := fun i o h hi => blk_below hb1 (blk_below HBX.out h (lt_blk h)) hi
        refine ⟨k + 1, by omega, by go_num, by rw [HT.out]; simpa using hown1, ?_, hk2 _ _ hbox (by omega), hk2 _ _ hres (by omega)⟩
        exact (below_next HBE.out (by omega) HBX.out).trans (hb1.mono (by omega))
      case measure => simp [intOf]; omega
    · obtain rfl : k = m.slopes.length := by omega
      have hl : (nows m).length = m.slopes.length := by simp [nows]
      rw [show (nows m).take m.slopes.length = nows m by rw [← hl, List.take_length]] at hown
      rw [← hl] at hown
      have hi := own_ints hown (by omega)
      have hbg := begin_calls 0 _ (nows m) wr wr.heap.size (Nat.le_refl _) hi (by omega)
      have HBG := Lib.hid hbg
      obtain ⟨r0, r1, r2, r3, r4⟩ := blk5 hres
      have hfr := frozen_blk hres
      have HBE := Lib.hid hbe
      clear hbe hi hbg hown hsl2
      go_wp2_with (go_at_call 58; refine HBG.out.mono ?_; rintro e w' ⟨rfl, hb1⟩; have hr' := blk_below hb1 hres hB; obtain ⟨r0, r1, r2, r3, r4⟩ := blk5 hr'; have fr := frozen_blk hr'; have HR := Lib.hid hr'; clear hr')
      refine bodyPost_ret (v := .agg #[.int .i64 (firstS m).y, .int .i64 (firstS m).a, .int .i64 (firstS m).b, .int .i64 (firstS m).c, .int .i64 (firstS m).d]) ?_ rfl ⟨rfl, ?_⟩
      · have h6 := heap_set (heap_set (heap_set (heap_set (heap_set HR.out 0 (.int .i64 (stOf 0 (nows m)).y)) 1 (.int .i64 (stOf 0 (nows m)).a)) 2 (.int .i64 (stOf 0 (nows m)).b)) 3 (.int .i64 (stOf 0 (nows m)).c)) 4 (.int .i64 (stOf 0 (nows m)).d)
        simp only [List.setIfInBounds_toArray, List.set_cons_zero, List.set_cons_succ] at h6
        generalize World.setCell _ _ (Value.int IntKind.i64 (stOf 0 (nows m)).d) = W at *
        obtain ⟨r0, r1, r2, r3, r4⟩ := blk5 h6
        simp [results, Try.results41, go_sem, r0, r1, r2, r3, r4, firstS]
      · exact (((((HBE.out.trans (hb1.mono (by omega))).setCell (by simp) _).setCell (by simp) _).setCell (by simp) _).setCell (by simp) _).setCell (by simp) _
end Go.Proofs.Ytccplobhfokcgaa
