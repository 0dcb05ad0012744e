/- The rows of works in order: plain lists; what a change of worlds keeps. -/
import Derived.Test.YtnbnhcoaggpmaaaY2

/- begin, first and modelOf. -/
namespace Go.Proofs.Ytnbnhcoaggpmaaa
open Go Go.RowKit Go.Shelf
set_option maxRecDepth 100000

/-- The state of a list of thicknesses. -/
def stOf (y : Int) (xs : List Int) : St := ⟨y, xs.getD 0 0, xs.getD 1 0, xs.getD 2 0, xs.getD 3 0⟩
theorem splice_st (y : Int) (xs : List Int) (h : xs.length ≤ 4) : splice [.int .i64 y, .int .i64 0, .int .i64 0, .int .i64 0, .int .i64 0] 1 (xs.map (Value.int .i64)) =
    [.int .i64 (stOf y xs).y, .int .i64 (stOf y xs).a, .int .i64 (stOf y xs).b, .int .i64 (stOf y xs).c, .int .i64 (stOf y xs).d] := by
  match xs, h with
  | [], _ => rfl
  | [_], _ => rfl
  | [_, _], _ => rfl
  | [_, _, _], _ => rfl
  | [_, _, _, _], _ => rfl
theorem begin_calls (y : Int) (v : Value) (xs : List Int) (w : World) (n0 : Nat) (hn0 : n0 ≤ w.heap.size) (hv : IntsAt w n0 v xs) (hxs : xs.length ≤ 4) :
    Calls Try.prog 51 #[.int .i64 y, v] w fun e w' => e = .returned (.agg #[.int .i64 (stOf y xs).y, .int .i64 (stOf y xs).a, .int .i64 (stOf y xs).b, .int .i64 (stOf y xs).c, .int .i64 (stOf y xs).d]) ∧ Below w.heap.size w w' := by
  obtain ⟨A, c, rfl, hl, hr⟩ := hv
  have hsp := splice_st y xs hxs
  have HSP := Lib.hid hsp
  simp only [List.length_map] at hl
  have hx1 : (xs.map (Value.int .i64)).length = Nat.min xs.length 4 := by simp [Nat.min_def]; omega
  have HX := Lib.hid hx1
  have hpos : ∀ W : World, Below w.heap.size w W → 0 < (xs.map (Value.int .i64)).length → some (⟨w.heap.size + 1, 1, none⟩ : Addr) = some ⟨w.heap.size + 1, 1, none⟩ ∧ ∃ ad, A = some ad ∧ ∀ j v, (xs.map (Value.int .i64))[j]? = some v → W.cell? (ad.add j) = some v := by
    intro W hb hp
    refine ⟨rfl, ?_⟩
    obtain ⟨b, o, rfl, hlt, hc⟩ := hr (by intro e; simp [e] at hp)
    refine ⟨_, rfl, fun j u hu => ?_⟩
    rw [show (⟨b, o, none⟩ : Addr).add j = ⟨b, o + j, none⟩ by unfold Addr.add; split <;> simp_all]
    exact (hb.cell (p := ⟨b, o + j, none⟩) (Nat.lt_of_lt_of_le hlt hn0)).trans (hc j u hu)
  have HP := Lib.hid hpos
  clear hr hsp hpos hx1
  go_enter Try.func51, Try.ntmps51
  go_wp2_with (refine wpList_copy_splice rfl _ _ 41 41 rfl 3 Try.underlying41 (by kernel_rfl) (some ⟨w.heap.size + 1, 1, none⟩) A 4 4 xs.length c rfl rfl (w.heap.size + 1) 1 [.int .i64 y, .int .i64 0, .int .i64 0, .int .i64 0, .int .i64 0] 79 (by simpa using heap_alloc_self (w.alloc _) _) (xs.map (Value.int .i64)) HX.out (HP.out _ ((below1 _ _).alloc (by simp) _)) (by simp; omega) (by simp [Value.oneCell']) (w.heap.size + 1) (w.alloc (.cells #[.int .i64 0, .int .i64 0, .int .i64 0, .int .i64 0, .int .i64 0] 79)) ((Below.refl _ _).alloc (by simp) _) (by omega) ?_; intro w1 h1 hb1; have g1 := h1.out; rw [HSP.out] at g1; obtain ⟨t0, t1, t2, t3, t4⟩ := blk5 g1; have g2 := blk_below hb1 (heap_alloc_self w _) (by omega); obtain ⟨r0, r1, r2, r3, r4⟩ := blk5 g2; have fr := frozen_blk g2; have G2 := Lib.hid g2; clear g1 g2 h1)
  refine bodyPost_ret (v := .agg #[.int .i64 (stOf y xs).y, .int .i64 (stOf y xs).a, .int .i64 (stOf y xs).b, .int .i64 (stOf y xs).c, .int .i64 (stOf y xs).d]) ?_ rfl ⟨rfl, ?_⟩
  · have h6 := heap_set (heap_set (heap_set (heap_set (heap_set G2.out 0 (.int .i64 (stOf y xs).y)) 1 (.int .i64 (stOf y xs).a)) 2 (.int .i64 (stOf y xs).b)) 3 (.int .i64 (stOf y xs).c)) 4 (.int .i64 (stOf y xs).d)
    simp only [List.setIfInBounds_toArray, List.set_cons_zero, List.set_cons_succ] at h6
    generalize World.setCell _ _ (Value.int IntKind.i64 (stOf y xs).d) = W at *
    obtain ⟨r0, r1, r2, r3, r4⟩ := blk5 h6
    simp [results, Try.results51, go_sem, r0, r1, r2, r3, r4]
  · exact ((((((below1 w _).trans (hb1.mono (by omega))).setCell (by simp) _).setCell (by simp) _).setCell (by simp) _).setCell (by simp) _).setCell (by simp) _

def nows (m : Wk) : List Int := m.slopes.map Slope.now
def firstS (m : Wk) : St := stOf 0 (nows m)
set_option maxHeartbeats 1000000 in
theorem first_calls (m : Wk) (sl v1 v5 : Value) (y v h : Int) (w : World) (hm : m.slopes.length ≤ 4) (hsl : SlopesAt w w.heap.size sl m.slopes) :
    Calls Try.prog 20 #[.agg #[sl, v1, .int .i64 y, .int .i64 v, .int .i64 h, v5]] w
      fun e w' => e = .returned (.agg #[.int .i64 (firstS m).y, .int .i64 (firstS m).a, .int .i64 (firstS m).b, .int .i64 (firstS m).c, .int .i64 (firstS m).d]) ∧ Below w.heap.size w w' := by
  obtain ⟨sA, sc, rfl, hsl1, hsl2⟩ := hsl
  go_enter Try.func20, Try.ntmps20
  go_wp2_with fail
  go_loopw [3, 10] (fun l i wr => ∃ k : Nat, k ≤ m.slopes.length ∧ i = .int .i64 k ∧ wr.ownsRow (w.heap.size + 2) 3 1 l k (((nows m).take k).map (Value.int .i64)) ∧
    Below w.heap.size w wr ∧ wr.heap[w.heap.size]? = some (.cells #[.slice sA m.slopes.length sc, v1, .int .i64 y, .int .i64 v, .int .i64 h, v5] 75) ∧
    wr.heap[w.heap.size + 1]? = some (.cells #[.int .i64 0, .int .i64 0, .int .i64 0, .int .i64 0, .int .i64 0] 79)) (fun _ i _ => m.slopes.length - (intOf i).toNat)
  case atStart =>
    exact ⟨0, Nat.zero_le _, rfl, ⟨by simp, .inl ⟨rfl, rfl⟩⟩, (below1 _ _).alloc (by simp) _, (Below.heap_alloc _ _ _ (by simp)).trans (heap_alloc_self _ _), by simpa using heap_alloc_self (w.alloc _) _⟩
  case round =>
    obtain ⟨k, hk, rfl, hown, hbe, hbox, hres⟩ := hrel
    have hB := lt_blk hres
    by_cases hlt : k < m.slopes.length
    · obtain ⟨bs, os, rfl, hbs, hss⟩ := hsl2 (by intro e; simp [e] at hlt)
      obtain ⟨tk, ⟨tA, tc, rfl, htr⟩, s0, s1, s2, s3, s4⟩ := hss k _ (List.getElem?_eq_getElem hlt)
      have kk : ∀ j, wr.cell? ⟨bs, j, none⟩ = w.cell? ⟨bs, j, none⟩ := fun j => hbe.cell (p := ⟨bs, j, none⟩) hbs
      rw [← kk] at s0 s1 s2 s3 s4
      have HBE := Lib.hid hbe
      have hbx := below1 wr (.cells #[.int .i64 m.slopes[k].now, .int .i64 m.slopes[k].need, .int .i64 m.slopes[k].full, .int .i64 m.slopes[k].size, .slice tA m.slopes[k].takes.length tc] 43)
      have HBX := Lib.hid hbx
      have hts : (nows m).take (k + 1) = (nows m).take k ++ [m.slopes[k].now] := by
        rw [List.take_succ_eq_append_getElem (by simpa [nows] using hlt)]; simp [nows]
      have HT := Lib.hid hts
      clear hbe kk hss hsl2 htr hbx hts
      go_wp2_with (at_builtin; refine wpList_app (w.heap.size + 2) _ _ 41 3 (.int .i64 0) 1 8 [.int .i64 m.slopes[k].now] rfl rfl Try.underlying41 infoInt rfl (by decide) (by decide) _ k _ rfl ((show _ = Value.slice (some ⟨wr.heap.size + 1, 0, none⟩) 1 1 from rfl).trans (by simp)) rfl (by simp [Value.oneCell']) (hown.alloc _) (by omega) (by simp; omega) ?_; intro v1 w1 hown1 hg _ hb1)
      go_roundw
      case rel =>
        have hk2 : ∀ i o, wr.heap[i]? = some o → i < w.heap.size + 2 → w1.heap[i]? = some o := fun i o h hi => blk_below hb1 (blk_below HBX.out h (lt_blk h)) hi
        refine ⟨k + 1, by omega, by go_num, by rw [HT.out]; simpa using hown1, ?_, hk2 _ _ hbox (by omega), hk2 _ _ hres (by omega)⟩
        exact (below_next HBE.out (by omega) HBX.out).trans (hb1.mono (by omega))
      case measure => simp [intOf]; omega
    · obtain rfl : k = m.slopes.length := by omega
      have hl : (nows m).length = m.slopes.length := by simp [nows]
      rw [show (nows m).take m.slopes.length = nows m by rw [← hl, List.take_length]] at hown
      rw [← hl] at hown
      have hi := own_ints hown (by omega)
      have hbg := begin_calls 0 _ (nows m) wr wr.heap.size (Nat.le_refl _) hi (by omega)
      have HBG := Lib.hid hbg
      obtain ⟨r0, r1, r2, r3, r4⟩ := blk5 hres
      have hfr := frozen_blk hres
      have HBE := Lib.hid hbe
      clear hbe hi hbg hown hsl2
      go_wp2_with (go_at_call 51; refine HBG.out.mono ?_; rintro e w' ⟨rfl, hb1⟩; have hr' := blk_below hb1 hres hB; obtain ⟨r0, r1, r2, r3, r4⟩ := blk5 hr'; have fr := frozen_blk hr'; have HR := Lib.hid hr'; clear hr')
      refine bodyPost_ret (v := .agg #[.int .i64 (firstS m).y, .int .i64 (firstS m).a, .int .i64 (firstS m).b, .int .i64 (firstS m).c, .int .i64 (firstS m).d]) ?_ rfl ⟨rfl, ?_⟩
      · have h6 := heap_set (heap_set (heap_set (heap_set (heap_set HR.out 0 (.int .i64 (stOf 0 (nows m)).y)) 1 (.int .i64 (stOf 0 (nows m)).a)) 2 (.int .i64 (stOf 0 (nows m)).b)) 3 (.int .i64 (stOf 0 (nows m)).c)) 4 (.int .i64 (stOf 0 (nows m)).d)
        simp only [List.setIfInBounds_toArray, List.set_cons_zero, List.set_cons_succ] at h6
        generalize World.setCell _ _ (Value.int IntKind.i64 (stOf 0 (nows m)).d) = W at *
        obtain ⟨r0, r1, r2, r3, r4⟩ := blk5 h6
        simp [results, Try.results20, go_sem, r0, r1, r2, r3, r4, firstS]
      · exact (((((HBE.out.trans (hb1.mono (by omega))).setCell (by simp) _).setCell (by simp) _).setCell (by simp) _).setCell (by simp) _).setCell (by simp) _
end Go.Proofs.Ytnbnhcoaggpmaaa

/- modelOf. -/
namespace Go.Proofs.Ytnbnhcoaggpmaaa
open Go Go.RowKit Go.Shelf
set_option maxRecDepth 100000

theorem infoCraft : (Try.prog.info? 125).map (fun i => (i.zero, i.size, i.bytes)) = some (some .nilIface, 1, 16) := by kernel_rfl
theorem own_mc {w : World} {b : Nat} {v : Value} {cs : List Craft} (h : w.ownsRow b 125 1 v cs.length (cs.map craftV)) (hl : cs.length ≤ 140737488355328) : McAt w w.heap.size v cs := by
  rcases h.2 with ⟨rfl, h0⟩ | ⟨g, cap, cur, rfl, hb, hh, hc, _, hs, ht⟩
  · obtain rfl : cs = [] := List.eq_nil_of_length_eq_zero h0
    exact ⟨none, 0, rfl, by simp, fun hn => absurd rfl hn⟩
  · refine ⟨_, cap, rfl, by simp; omega, fun _ => ⟨g, 0, rfl, lt_blk hh, fun j u hu => ?_⟩⟩
    rw [cell_blk hh, ← ht] at *
    simp only [Nat.mul_one, List.getElem?_take] at hu
    split at hu
    · simpa using hu
    · cases hu

set_option maxHeartbeats 4000000 in
theorem modelOf_calls (cs : List Craft) (sA : Option Addr) (sn sc : Nat) (cr : Value) (y v h : Int) (w : World) (hc : cs.length ≤ 4) (hcr : CraftsAt w w.heap.size cr cs) :
    Calls Try.prog 19 #[.agg #[.slice sA sn sc, cr, .int .i64 y, .int .i64 v, .int .i64 h]] w
      fun e w' => ∃ mc, e = .returned (.agg #[.slice sA sn sc, cr, .int .i64 y, .int .i64 v, .int .i64 h, mc]) ∧ McAt w' w'.heap.size mc cs ∧ Below w.heap.size w w' := by
  obtain ⟨A, c, rfl, hl, hr⟩ := hcr
  have HF : Hid (∀ (e : Ending) (w' : World), (∃ L, e = .returned (.agg #[.slice sA sn sc, .slice A cs.length c, .int .i64 y, .int .i64 v, .int .i64 h, L]) ∧ w'.ownsRow (w.heap.size + 3) 125 1 L cs.length (cs.map craftV) ∧ Below w.heap.size w w') →
      ∃ mc, e = .returned (.agg #[.slice sA sn sc, .slice A cs.length c, .int .i64 y, .int .i64 v, .int .i64 h, mc]) ∧ McAt w' w'.heap.size mc cs ∧ Below w.heap.size w w') := by
    rintro e w' ⟨L, he, ho, hb⟩
    exact ⟨L, he, own_mc ho (by omega), hb⟩
  go_enter Try.func19, Try.ntmps19
  go_wp2_with fail
  go_loopw [11] (fun i wr => ∃ (k : Nat) (LA : Option Addr) (Lc : Nat), k ≤ cs.length ∧ i = .int .i64 k ∧ wr.ownsRow (w.heap.size + 3) 125 1 (.slice LA k Lc) k ((cs.take k).map craftV) ∧
    Below w.heap.size w wr ∧ wr.heap[w.heap.size]? = some (.cells #[.slice sA sn sc, .slice A cs.length c, .int .i64 y, .int .i64 v, .int .i64 h] 49) ∧
    wr.heap[w.heap.size + 1]? = some (.cells #[.slice none 0 0, .slice none 0 0, .int .i64 0, .int .i64 0, .int .i64 0, .slice none 0 0] 75) ∧
    wr.heap[w.heap.size + 1 + 1]? = some (.cells #[.slice sA sn sc, .slice A cs.length c, .int .i64 y, .int .i64 v, .int .i64 h, .slice LA k Lc] 75)) (fun i _ => cs.length - (intOf i).toNat)
  case atStart =>
    refine ⟨0, none, 0, Nat.zero_le _, rfl, ⟨by simp, .inl ⟨rfl, rfl⟩⟩, ?_, ?_, ?_, ?_⟩
    · exact ((below1 _ _).alloc (by simp) _).alloc (by simp; omega) _
    · exact (Below.heap_alloc _ _ _ (by simp; omega)).trans ((Below.heap_alloc _ _ _ (by simp)).trans (heap_alloc_self _ _))
    · exact (Below.heap_alloc _ _ _ (by simp)).trans (by simpa using heap_alloc_self (w.alloc _) _)
    · simpa using heap_alloc_self ((w.alloc _).alloc _) _
  case round =>
    obtain ⟨k, LA, Lc, hk, rfl, hown, hbe, hbox, hres, hmod⟩ := hrel
    have hB := lt_blk hmod
    obtain ⟨m0, m1, m2, m3, m4, m5⟩ := blk6 hmod
    by_cases hlt : k < cs.length
    · obtain ⟨bs, os, rfl, hbs, hss⟩ := hr (by intro e; simp [e] at hlt)
      obtain ⟨s0, s1, s2⟩ := hss k _ (List.getElem?_eq_getElem hlt)
      have kk : ∀ j, wr.cell? ⟨bs, j, none⟩ = w.cell? ⟨bs, j, none⟩ := fun j => hbe.cell (p := ⟨bs, j, none⟩) hbs
      rw [← kk] at s0 s1 s2
      have HBE := Lib.hid hbe
      have hbx := below1 wr (.cells #[.int .i64 cs[k].add, .int .i64 cs[k].price, .bool cs[k].strip] 46)
      have HBX := Lib.hid hbx
      have hts : (cs.take (k + 1)).map craftV = (cs.take k).map craftV ++ [craftV cs[k]] := by
        rw [List.take_succ_eq_append_getElem hlt, List.map_append]; rfl
      have HT := Lib.hid hts
      have hcv : craftV cs[k] = if cs[k].strip then .iface 111 (.agg #[.int .i64 cs[k].price]) else .iface 113 (.agg #[.int .i64 cs[k].add, .int .i64 cs[k].price]) := rfl
      have HCV := Lib.hid hcv
      clear hbe kk hss hr hbx hts hcv
      generalize hst : cs[k].strip = st at *
      have HST := Lib.hid hst; clear hst
      cases st
      · go_wp2_with (at_builtin; refine wpList_app (w.heap.size + 3) _ _ 73 125 .nilIface 1 16 [.iface 113 (.agg #[.int .i64 cs[k].add, .int .i64 cs[k].price])] rfl rfl Try.underlying73 infoCraft rfl (by decide) (by decide) _ k _ rfl ((show _ = Value.slice (some ⟨wr.heap.size + 1, 0, none⟩) 1 1 from rfl).trans (by simp)) rfl (by simp [Value.oneCell']) (hown.alloc _) (by omega) (by simp; omega) ?_; intro v1 w1 hown1 hg _ hb1; obtain ⟨g', cap', rfl⟩ := ownsRow_succ hown1; have hm1 := blk_below hb1 (blk_below HBX.out hmod hB) (by omega); have fr1 := frozen_blk hm1; have c51 := (cell_blk hm1 5).trans rfl; have HM := Lib.hid hm1; clear hm1)
        go_roundw
        case rel =>
          have hk2 : ∀ i o, wr.heap[i]? = some o → i < w.heap.size + 3 → w1.heap[i]? = some o := fun i o h hi => blk_below hb1 (blk_below HBX.out h (lt_blk h)) hi
          refine ⟨k + 1, some ⟨g', 0, none⟩, cap', by omega, by go_num, ?_, ?_, ?_, ?_, ?_⟩
          · rw [HT.out, HCV.out]; exact ownsRow_setCell_below hown1 (by simp) _
          · exact ((below_next HBE.out (by omega) HBX.out).trans (hb1.mono (by omega))).setCell (by simp; omega) _
          · exact (Below.heap_setCell _ _ _ _ (by simp; omega)).trans (hk2 _ _ hbox (by omega))
          · exact (Below.heap_setCell _ _ _ _ (by simp)).trans (hk2 _ _ hres (by omega))
          · simpa using heap_set HM.out 5 (.slice (some ⟨g', 0, none⟩) (k + 1) cap')
        case measure => simp [intOf]; omega
      · go_wp2_with (at_builtin; refine wpList_app (w.heap.size + 3) _ _ 73 125 .nilIface 1 16 [.iface 111 (.agg #[.int .i64 cs[k].price])] rfl rfl Try.underlying73 infoCraft rfl (by decide) (by decide) _ k _ rfl ((show _ = Value.slice (some ⟨wr.heap.size + 1, 0, none⟩) 1 1 from rfl).trans (by simp)) rfl (by simp [Value.oneCell']) (hown.alloc _) (by omega) (by simp; omega) ?_; intro v1 w1 hown1 hg _ hb1; obtain ⟨g', cap', rfl⟩ := ownsRow_succ hown1; have hm1 := blk_below hb1 (blk_below HBX.out hmod hB) (by omega); have fr1 := frozen_blk hm1; have c51 := (cell_blk hm1 5).trans rfl; have HM := Lib.hid hm1; clear hm1)
        go_roundw
        case rel =>
          have hk2 : ∀ i o, wr.heap[i]? = some o → i < w.heap.size + 3 → w1.heap[i]? = some o := fun i o h hi => blk_below hb1 (blk_below HBX.out h (lt_blk h)) hi
          refine ⟨k + 1, some ⟨g', 0, none⟩, cap', by omega, by go_num, ?_, ?_, ?_, ?_, ?_⟩
          · rw [HT.out, HCV.out]; exact ownsRow_setCell_below hown1 (by simp) _
          · exact ((below_next HBE.out (by omega) HBX.out).trans (hb1.mono (by omega))).setCell (by simp; omega) _
          · exact (Below.heap_setCell _ _ _ _ (by simp; omega)).trans (hk2 _ _ hbox (by omega))
          · exact (Below.heap_setCell _ _ _ _ (by simp)).trans (hk2 _ _ hres (by omega))
          · simpa using heap_set HM.out 5 (.slice (some ⟨g', 0, none⟩) (k + 1) cap')
        case measure => simp [intOf]; omega
    · obtain rfl : k = cs.length := by omega
      rw [List.take_length] at hown
      have hfr := frozen_blk hres
      obtain ⟨r0, r1, r2, r3, r4, r5⟩ := blk6 hres
      have HR := Lib.hid hres
      have HBE := Lib.hid hbe
      clear hbe hr hres
      go_wp2_with fail
      refine bodyPost_ret (v := .agg #[.slice sA sn sc, .slice A cs.length c, .int .i64 y, .int .i64 v, .int .i64 h, .slice LA cs.length Lc]) ?_ rfl (HF.out _ _ ⟨_, rfl, ?_, ?_⟩)
      · have h6 := heap_set (heap_set (heap_set (heap_set (heap_set (heap_set HR.out 0 (.slice sA sn sc)) 1 (.slice A cs.length c)) 2 (.int .i64 y)) 3 (.int .i64 v)) 4 (.int .i64 h)) 5 (.slice LA cs.length Lc)
        simp only [List.setIfInBounds_toArray, List.set_cons_zero, List.set_cons_succ] at h6
        generalize World.setCell _ _ (Value.slice LA cs.length Lc) = W at *
        obtain ⟨r0, r1, r2, r3, r4, r5⟩ := blk6 h6
        simp [results, Try.results19, go_sem, r0, r1, r2, r3, r4, r5]
      · repeat (refine ownsRow_setCell_below ?_ (by simp) _)
        exact hown
      · repeat (refine Below.setCell ?_ (by simp; try omega) _)
        exact HBE.out
end Go.Proofs.Ytnbnhcoaggpmaaa

namespace Go.Proofs.Ytnbnhcoaggpmaaa
open Go Go.RowKit Go.Shelf

/-! ### Worlds that part in some blocks alone -/
structure Bel (S : Nat → Prop) (w w' : World) : Prop where
  os : w'.os = w.os
  tape : w'.tape = w.tape
  output : w'.output = w.output
  size : w.heap.size ≤ w'.heap.size
  block : ∀ k, k < w.heap.size → ¬ S k → w'.heap[k]? = w.heap[k]?
theorem Bel.refl (S : Nat → Prop) (w : World) : Bel S w w := ⟨rfl, rfl, rfl, Nat.le_refl _, fun _ _ _ => rfl⟩
theorem Bel.trans {S : Nat → Prop} {a b c : World} (h : Bel S a b) (k : Bel S b c) : Bel S a c :=
  ⟨k.os.trans h.os, k.tape.trans h.tape, k.output.trans h.output, Nat.le_trans h.size k.size, fun i hi hs => (k.block i (Nat.lt_of_lt_of_le hi h.size) hs).trans (h.block i hi hs)⟩
theorem Bel.mono {S S' : Nat → Prop} {a b : World} (h : Bel S a b) (hs : ∀ k, k < a.heap.size → S k → S' k) : Bel S' a b := ⟨h.os, h.tape, h.output, h.size, fun i hi hn => h.block i hi fun hk => hn (hs i hi hk)⟩
theorem Bel.of_below {S : Nat → Prop} {a b : World} (h : Below a.heap.size a b) : Bel S a b := ⟨h.os, h.tape, h.output, h.size, fun i hi _ => h.block i hi⟩
theorem Bel.below {S : Nat → Prop} {a b : World} (h : Bel S a b) {n : Nat} (hn : n ≤ a.heap.size) (hs : ∀ k, S k → n ≤ k) : Below n a b :=
  ⟨h.os, h.tape, h.output, h.size, fun i hi => h.block i (Nat.lt_of_lt_of_le hi hn) fun hk => by have := hs i hk; omega⟩
theorem Bel.alloc {S : Nat → Prop} {a b : World} (h : Bel S a b) (o : Obj) : Bel S a (b.alloc o) := h.trans (Bel.of_below (below1 b o))
theorem Bel.drew {S : Nat → Prop} {a b : World} (h : Bel S a b) : Bel S a b.drew := ⟨h.os, h.tape, h.output, h.size, h.block⟩
theorem Bel.setCell {S : Nat → Prop} {a b : World} (h : Bel S a b) {p : Addr} (hp : p.block < a.heap.size → S p.block) (u : Value) : Bel S a (b.setCell p u) :=
  ⟨h.os, h.tape, h.output, by simpa [World.setCell] using h.size, fun i hi hn => (Below.heap_setCell _ _ _ _ (fun e => hn (by subst e; exact hp hi))).trans (h.block i hi hn)⟩
theorem Bel.putObj {S : Nat → Prop} {a b : World} (h : Bel S a b) {l : Nat} (hl : l < a.heap.size → S l) (o : Obj) : Bel S a (b.putObj l o) :=
  ⟨h.os, h.tape, h.output, by simpa using h.size, fun i hi hn => (World.putObj_heap_other (fun e => hn (by subst e; exact hl hi))).trans (h.block i hi hn)⟩
theorem Bel.heap {S : Nat → Prop} {a b : World} (h : Bel S a b) {k : Nat} {o : Obj} (hk : a.heap[k]? = some o) (hn : ¬ S k) : b.heap[k]? = some o := (h.block k (lt_blk hk) hn).trans hk

/-! ### All rows, by their numbers -/
/-- The digits of k in base c + 1, each less one. -/
def unval (c : Nat) : Nat → Nat → List Int
  | 0, _ => []
  | n + 1, k => unval c n (k / (c + 1)) ++ [((k % (c + 1) : Nat) : Int) - 1]
theorem unval_length (c : Nat) : ∀ n k, (unval c n k).length = n
  | 0, _ => rfl
  | n + 1, k => by simp [unval, unval_length c n]
theorem unval_each (c : Nat) : ∀ n k, ∀ x ∈ unval c n k, -1 ≤ x ∧ x < c
  | 0, _, x, hx => by simp [unval] at hx
  | n + 1, k, x, hx => by
    simp only [unval, List.mem_append, List.mem_singleton] at hx
    rcases hx with hx | rfl
    · exact unval_each c n _ x hx
    · have := Nat.mod_lt k (show 0 < c + 1 by omega)
      omega
theorem unval_zero (c : Nat) : ∀ n, unval c n 0 = List.replicate n (-1)
  | 0 => rfl
  | n + 1 => by simp [unval, unval_zero c n, List.replicate_succ']
/-- The first digits and the last t ones. -/
theorem unval_split (c j : Nat) : ∀ t k, ∃ tl : List Int, tl.length = t ∧ unval c (j + t) k = unval c j (k / (c + 1) ^ t) ++ tl
  | 0, k => ⟨[], rfl, by simp⟩
  | t + 1, k => by
    obtain ⟨tl, h1, h2⟩ := unval_split c j t (k / (c + 1))
    refine ⟨tl ++ [((k % (c + 1) : Nat) : Int) - 1], by simp [h1], ?_⟩
    rw [show j + (t + 1) = (j + t) + 1 by omega, unval, h2, Nat.div_div_eq_div_mul, Nat.pow_succ, Nat.mul_comm ((c + 1) ^ t), List.append_assoc]
theorem unval_mul (c j : Nat) : ∀ t q, unval c (j + t) (q * (c + 1) ^ t) = unval c j q ++ List.replicate t (-1)
  | 0, q => by simp
  | t + 1, q => by
    rw [show j + (t + 1) = (j + t) + 1 by omega, unval, Nat.pow_succ, ← Nat.mul_assoc, Nat.mul_div_cancel _ (by omega), Nat.mul_mod_left, unval_mul c j t q, List.append_assoc]
    simp [List.replicate_succ']
theorem unval_succ_last (c n k : Nat) (h : k % (c + 1) < c) : unval c (n + 1) (k + 1) = unval c n (k / (c + 1)) ++ [((k % (c + 1) : Nat) : Int)] := by
  have h1 : (k + 1) / (c + 1) = k / (c + 1) := by
    rw [Nat.succ_div]; split
    · rename_i hd
      have := Nat.mod_eq_zero_of_dvd hd
      rw [Nat.add_mod] at this
      rcases Nat.eq_zero_or_pos c with rfl | hc
      · omega
      · rw [Nat.mod_eq_of_lt (show 1 < c + 1 by omega), Nat.mod_eq_of_lt (by omega)] at this; omega
    · rfl
  have h2 : (k + 1) % (c + 1) = k % (c + 1) + 1 := by
    rcases Nat.eq_zero_or_pos c with rfl | hc
    · omega
    · rw [Nat.add_mod, Nat.mod_eq_of_lt (show 1 < c + 1 by omega), Nat.mod_eq_of_lt (by omega)]
  rw [unval, h1, h2]; simp
/-- How many rows there are. -/
def rowsN (m : Wk) : Nat := (m.crafts.length + 1) ^ m.slopes.length
def rowK (m : Wk) (k : Nat) : List Int := unval m.crafts.length m.slopes.length k
/-- The rows that may be, among the first k. -/
def rowsTo (m : Wk) (k : Nat) : List (List Int) := ((List.range k).map (rowK m)).filter (mayS m)
def rowsS (m : Wk) : List (List Int) := rowsTo m (rowsN m)
theorem rowsTo_succ (m : Wk) (k : Nat) : rowsTo m (k + 1) = rowsTo m k ++ if mayS m (rowK m k) then [rowK m k] else [] := by
  simp only [rowsTo, List.range_succ, List.map_append, List.filter_append, List.map_cons, List.map_nil, List.filter_cons, List.filter_nil]
theorem rowsTo_prefix (m : Wk) {k n : Nat} (h : k ≤ n) : ∃ t, rowsTo m n = rowsTo m k ++ t := by
  induction n with
  | zero => obtain rfl : k = 0 := by omega
            exact ⟨[], by simp⟩
  | succ n ih =>
    rcases Nat.lt_or_ge n k with h1 | h1
    · obtain rfl : k = n + 1 := by omega
      exact ⟨[], by simp⟩
    · obtain ⟨t, ht⟩ := ih h1
      exact ⟨_, by rw [rowsTo_succ, ht, List.append_assoc]⟩
theorem rowK_ok (m : Wk) (k : Nat) : RowOk m (rowK m k) := ⟨unval_length _ _ _, unval_each _ _ _⟩
end Go.Proofs.Ytnbnhcoaggpmaaa
