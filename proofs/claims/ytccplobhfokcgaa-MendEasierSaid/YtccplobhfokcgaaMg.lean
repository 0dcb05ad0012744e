/- modelOf. -/
import Derived.Test.YtccplobhfokcgaaMf
namespace Go.Proofs.Ytccplobhfokcgaa
open Go Go.RowKit Go.Shelf
set_option maxRecDepth 100000

theorem infoCraft : (Try.prog.info? 116).map (fun i => (i.zero, i.size, i.bytes)) = some (some .nilIface, 1, 16) := by kernel_rfl
theorem own_mc {w : World} {b : Nat} {v : Value} {cs : List Craft} (h : w.ownsRow b 116 1 v cs.length (cs.map craftV)) (hl : cs.length ≤ 140737488355328) : McAt w w.heap.size v cs := by
  rcases h.2 with ⟨rfl, h0⟩ | ⟨g, cap, cur, rfl, hb, hh, hc, _, hs, ht⟩
  · obtain rfl : cs = [] := List.eq_nil_of_length_eq_zero h0
    exact ⟨none, 0, rfl, by simp, fun hn => absurd rfl hn⟩
  · refine ⟨_, cap, rfl, by simp; omega, fun _ => ⟨g, 0, rfl, lt_blk hh, fun j u hu => ?_⟩⟩
    rw [cell_blk hh, ← ht] at *
    simp only [Nat.mul_one, List.getElem?_take] at hu
    split at hu
    · simpa using hu
    · cases hu

set_option maxHeartbeats 4000000 in
theorem modelOf_calls (cs : List Craft) (sA : Option Addr) (sn sc : Nat) (cr : Value) (y v h : Int) (w : World) (hc : cs.length ≤ 4) (hcr : CraftsAt w w.heap.size cr cs) :
    Calls Try.prog 39 #[.agg #[.slice sA sn sc, cr, .int .i64 y, .int .i64 v, .int .i64 h]] w
      fun e w' => ∃ mc, e = .returned (.agg #[.slice sA sn sc, cr, .int .i64 y, .int .i64 v, .int .i64 h, mc]) ∧ McAt w' w'.heap.size mc cs ∧ Below w.heap.size w w' := by
  obtain ⟨A, c, rfl, hl, hr⟩ := hcr
  have HF : Hid (∀ (e : Ending) (w' : World), (∃ L, e = .returned (.agg #[.slice sA sn sc, .slice A cs.length c, .int .i64 y, .int .i64 v, .int .i64 h, L]) ∧ w'.ownsRow (w.heap.size + 3) 116 1 L cs.length (cs.map craftV) ∧ Below w.heap.size w w') →
      ∃ mc, e = .returned (.agg #[.slice sA sn sc, .slice A cs.length c, .int .i64 y, .int .i64 v, .int .i64 h, mc]) ∧ McAt w' w'.heap.size mc cs ∧ Below w.heap.size w w') := by
    rintro e w' ⟨L, he, ho, hb⟩
    exact ⟨L, he, own_mc ho (by omega), hb⟩
  go_enter Try.func39, Try.ntmps39
  go_wp2_with fail
  go_loopw [11] (fun i wr => ∃ (k : Nat) (LA : Option Addr) (Lc : Nat), k ≤ cs.length ∧ i = .int .i64 k ∧ wr.ownsRow (w.heap.size + 3) 116 1 (.slice LA k Lc) k ((cs.take k).map craftV) ∧
    Below w.heap.size w wr ∧ wr.heap[w.heap.size]? = some (.cells #[.slice sA sn sc, .slice A cs.length c, .int .i64 y, .int .i64 v, .int .i64 h] 25) ∧
    wr.heap[w.heap.size + 1]? = some (.cells #[.slice none 0 0, .slice none 0 0, .int .i64 0, .int .i64 0, .int .i64 0, .slice none 0 0] 74) ∧
    wr.heap[w.heap.size + 1 + 1]? = some (.cells #[.slice sA sn sc, .slice A cs.length c, .int .i64 y, .int .i64 v, .int .i64 h, .slice LA k Lc] 74)) (fun i _ => cs.length - (intOf i).toNat)
  case atStart =>
    refine ⟨0, none, 0, Nat.zero_le _, rfl, ⟨by simp, .inl ⟨rfl, rfl⟩⟩, ?_, ?_, ?_, ?_⟩
    · exact ((below1 _ _).alloc (by simp) _).alloc (by simp; omega) _
    · exact (Below.heap_alloc _ _ _ (by simp; omega)).trans ((Below.heap_alloc _ _ _ (by simp)).trans (heap_alloc_self _ _))
    · exact (Below.heap_alloc _ _ _ (by simp)).trans (by simpa using heap_alloc_self (w.alloc _) _)
    · simpa using heap_alloc_self ((w.alloc _).alloc _) _
  case round =>
    obtain ⟨k, LA, Lc, hk, rfl, hown, hbe, hbox, hres, hmod⟩ := hrel
    have hB := lt_blk hmod
    obtain ⟨m0, m1, m2, m3, m4, m5⟩ := blk6 hmod
    by_cases hlt : k < cs.length
    · obtain ⟨bs, os, rfl, hbs, hss⟩ := hr (by intro e; simp [e] at hlt)
      obtain ⟨s0, s1, s2⟩ := hss k _ (List.getElem?_eq_getElem hlt)
      have kk : ∀ j, wr.cell? ⟨bs, j, none⟩ = w.cell? ⟨bs, j, none⟩ := fun j => hbe.cell (p := ⟨bs, j, none⟩) hbs
      rw [← kk] at s0 s1 s2
      have HBE := Lib.hid hbe
      have hbx := below1 wr (.cells #[.int .i64 cs[k].add, .int .i64 cs[k].price, .bool cs[k].strip] 57)
      have HBX := Lib.hid hbx
      have hts : (cs.take (k + 1)).map craftV = (cs.take k).map craftV ++ [craftV cs[k]] := by
        rw [List.take_succ_eq_append_getElem hlt, List.map_append]; rfl
      have HT := Lib.hid hts
      have hcv : craftV cs[k] = if cs[k].strip then .iface 111 (.agg #[.int .i64 cs[k].price]) else .iface 113 (.agg #[.int .i64 cs[k].add, .int .i64 cs[k].price]) := rfl
      have HCV := Lib.hid hcv
      clear hbe kk hss hr hbx hts hcv
      generalize hst : cs[k].strip = st at *
      have HST := Lib.hid hst; clear hst
      cases st
      · go_wp2_with (at_builtin; refine wpList_app (w.heap.size + 3) _ _ 72 116 .nilIface 1 16 [.iface 113 (.agg #[.int .i64 cs[k].add, .int .i64 cs[k].price])] rfl rfl Try.underlying72 infoCraft rfl (by decide) (by decide) _ k _ rfl ((show _ = Value.slice (some ⟨wr.heap.size + 1, 0, none⟩) 1 1 from rfl).trans (by simp)) rfl (by simp [Value.oneCell']) (hown.alloc _) (by omega) (by simp; omega) ?_; intro v1 w1 hown1 hg _ hb1; obtain ⟨g', cap', rfl⟩ := ownsRow_succ hown1; have hm1 := blk_below hb1 (blk_below HBX.out hmod hB) (by omega); have fr1 := frozen_blk hm1; have c51 := (cell_blk hm1 5).trans rfl; have HM := Lib.hid hm1; clear hm1)
        go_roundw
        case rel =>
          have hk2 : ∀ i o, wr.heap[i]? = some o → i < w.heap.size + 3 → w1.heap[i]? = some o := fun i o h hi => blk_below hb1 (blk_below HBX.out h (lt_blk h)) hi
          refine ⟨k + 1, some ⟨g', 0, none⟩, cap', by omega, by go_num, ?_, ?_, ?_, ?_, ?_⟩
          · rw [HT.out, HCV.out]; exact ownsRow_setCell_below hown1 (by simp) _
          · exact ((below_next HBE.out (by omega) HBX.out).trans (hb1.mono (by omega))).setCell (by simp; omega) _
          · exact (Below.heap_setCell _ _ _ _ (by simp; omega)).trans (hk2 _ _ hbox (by omega))
          · exact (Below.heap_setCell _ _ _ _ (by simp)).trans (hk2 _ _ hres (by omega))
          · simpa using heap_set HM.out 5 (.slice (some ⟨g', 0, none⟩) (k + 1) cap')
        case measure => simp [intOf]; omega
      · go_wp2_with (at_builtin; refine wpList_app (w.heap.size + 3) _ _ 72 116 .nilIface 1 16 [.iface 111 (.agg #[.int .i64 cs[k].price])] rfl rfl Try.underlying72 infoCraft rfl (by decide) (by decide) _ k _ rfl ((show _ = Value.slice (some ⟨wr.heap.size + 1, 0, none⟩) 1 1 from rfl).trans (by simp)) rfl (by simp [Value.oneCell']) (hown.alloc _) (by omega) (by simp; omega) ?_; intro v1 w1 hown1 hg _ hb1; obtain ⟨g', cap', rfl⟩ := ownsRow_succ hown1; have hm1 := blk_below hb1 (blk_below HBX.out hmod hB) (by omega); have fr1 := frozen_blk hm1; have c51 := (cell_blk hm1 5).trans rfl; have HM := Lib.hid hm1; clear hm1)
        go_roundw
        case rel =>
          have hk2 : ∀ i o, wr.heap[i]? = some o → i < w.heap.size + 3 → w1.heap[i]? = some o := fun i o h hi => blk_below hb1 (blk_below HBX.out h (lt_blk h)) hi
          refine ⟨k + 1, some ⟨g', 0, none⟩, cap', by omega, by go_num, ?_, ?_, ?_, ?_, ?_⟩
          · rw [HT.out, HCV.out]; exact ownsRow_setCell_below hown1 (by simp) _
          · exact ((below_next HBE.out (by omega) HBX.out).trans (hb1.mono (by omega))).setCell (by simp; omega) _
          · exact (Below.heap_setCell _ _ _ _ (by simp; omega)).trans (hk2 _ _ hbox (by omega))
          · exact (Below.heap_setCell _ _ _ _ (by simp)).trans (hk2 _ _ hres (by omega))
          · simpa using heap_set HM.out 5 (.slice (some ⟨g', 0, none⟩) (k + 1) cap')
        case measure => simp [intOf]; omega
    · obtain rfl : k = cs.length := by omega
      rw [List.take_length] at hown
      have hfr := frozen_blk hres
      obtain ⟨r0, r1, r2, r3, r4, r5⟩ := blk6 hres
      have HR := Lib.hid hres
      have HBE := Lib.hid hbe
      clear hbe hr hres
      go_wp2_with fail
      refine bodyPost_ret (v := .agg #[.slice sA sn sc, .slice A cs.length c, .int .i64 y, .int .i64 v, .int .i64 h, .slice LA cs.length Lc]) ?_ rfl (HF.out _ _ ⟨_, rfl, ?_, ?_⟩)
      · have h6 := heap_set (heap_set (heap_set (heap_set (heap_set (heap_set HR.out 0 (.slice sA sn sc)) 1 (.slice A cs.length c)) 2 (.int .i64 y)) 3 (.int .i64 v)) 4 (.int .i64 h)) 5 (.slice LA cs.length Lc)
        simp only [List.setIfInBounds_toArray, List.set_cons_zero, List.set_cons_succ] at h6
        generalize World.setCell _ _ (Value.slice LA cs.length Lc) = W at *
        obtain ⟨r0, r1, r2, r3, r4, r5⟩ := blk6 h6
        simp [results, Try.results39, go_sem, r0, r1, r2, r3, r4, r5]
      · repeat (refine ownsRow_setCell_below ?_ (by simp) _)
        exact hown
      · repeat (refine Below.setCell ?_ (by simp; try omega) _)
        exact HBE.out
end Go.Proofs.Ytccplobhfokcgaa
