/- Proves. -/
import Derived.Test.YtcbhldfipfcjaaaGreatDoorPp

namespace Go.Proofs.YtcbhldfipfcjaaaGreatDoor
open Go Go.RowKit Go.Shelf
set_option maxRecDepth 100000
attribute [local go_sem] Oper.semAt_some

def ProvesPost (m : Wk) (least : Int) (ws : List Wo) (w : World) (e : Ending) (w' : World) : Prop :=
  e = .returned (.tuple #[.bool (provesS m least ws).1, .int .i64 (provesS m least ws).2]) ∧ Below w.heap.size w w'

/-- What the rounds over the list keep. -/
structure PrInv (m : Wk) (ws : List Wo) (sA cA mA : Option Addr) (sc cc mc : Nat) (w : World) (b9 kb b10 b11 k : Nat) (W : World) : Prop where
  below : Below w.heap.size w W
  works : W.heap[w.heap.size]? = some (.cells #[.slice sA m.slopes.length sc, .slice cA m.crafts.length cc, .int .i64 m.years, .int .i64 m.visit, .int .i64 m.hands] 25 (0, 0))
  yes : W.heap[w.heap.size + 1]? = some (.cells #[.bool false] 4 (0, 0))
  err : W.heap[w.heap.size + 1 + 1]? = some (.cells #[.int .i64 0] 28 (0, 0))
  model : W.heap[b9]? = some (.cells #[.slice sA m.slopes.length sc, .slice cA m.crafts.length cc, .int .i64 m.years, .int .i64 m.visit, .int .i64 m.hands, .slice mA m.crafts.length mc] 90 (0, 0))
  mc : McAt W W.heap.size (.slice mA m.crafts.length mc) m.crafts
  mbox : W.heap[b10]? = some (.cells #[.map (some kb)] 111 (0, 0))
  map : StMapE W kb k (costW (ws.take k))
  bef : ∃ s : St, W.heap[b11]? = some (.cells #[.int .i64 s.y, .int .i64 s.a, .int .i64 s.b, .int .i64 s.c, .int .i64 s.d] 95 (0, 0)) ∧ (k ≠ 0 → s = stW (ws.getD (k - 1) dWo))
  oks : ∀ i, i < k → okAt m ws i = true
  p1 : w.heap.size + 2 < b9
  p2 : b9 < kb
  p3 : kb < b10
  p4 : b10 < b11
  p5 : b11 < W.heap.size

def RowsDone (m : Wk) (f : St → Option Int) (s : St) (c : Int) : Prop := (rowsS m).all (rowProves m f s c) = true
theorem PrInv.later {m : Wk} {ws : List Wo} {sA cA mA : Option Addr} {sc cc mc : Nat} {w : World} {b9 kb b10 b11 k : Nat} {W W' : World} (h : PrInv m ws sA cA mA sc cc mc w b9 kb b10 b11 k W) (hb : Below W.heap.size W W') :
    PrInv m ws sA cA mA sc cc mc w b9 kb b10 b11 k W' where
  below := h.below.trans (hb.mono h.below.size)
  works := blk_below hb h.works (lt_blk h.works)
  yes := blk_below hb h.yes (lt_blk h.yes)
  err := blk_below hb h.err (lt_blk h.err)
  model := blk_below hb h.model (lt_blk h.model)
  mc := (h.mc.below hb).mono hb.size
  mbox := blk_below hb h.mbox (lt_blk h.mbox)
  map := h.map.kept (hb.block _ (by have := h.p3; have := h.p4; have := h.p5; omega))
  bef := by
    obtain ⟨s, h1, h2⟩ := h.bef
    exact ⟨s, blk_below hb h1 (lt_blk h1), h2⟩
  oks := h.oks
  p1 := h.p1
  p2 := h.p2
  p3 := h.p3
  p4 := h.p4
  p5 := Nat.lt_of_lt_of_le h.p5 hb.size

theorem PrInv.push {m : Wk} {ws : List Wo} {sA cA mA : Option Addr} {sc cc mc : Nat} {w : World} {b9 kb b10 b11 k : Nat} {W W5 : World} (h : PrInv m ws sA cA mA sc cc mc w b9 kb b10 b11 k W) (hb : Bel (fun j => j = kb) W W5)
    (hmap : StMapE W5 kb (k + 1) (costW (ws.take (k + 1)))) (s : St) (hs : s = stW (ws.getD k dWo)) (hok : okAt m ws k = true) :
    PrInv m ws sA cA mA sc cc mc w b9 kb b10 b11 (k + 1) (((((W5.setCell ⟨b11, 0, none⟩ (.int .i64 s.y)).setCell ⟨b11, 1, none⟩ (.int .i64 s.a)).setCell ⟨b11, 2, none⟩ (.int .i64 s.b)).setCell ⟨b11, 3, none⟩ (.int .i64 s.c)).setCell ⟨b11, 4, none⟩ (.int .i64 s.d)) := by
  have hp1 := h.p1
  have hp2 := h.p2
  have hp3 := h.p3
  have hp4 := h.p4
  have hp5 := h.p5
  have hsz := hb.size
  obtain ⟨sb, hbef, _⟩ := h.bef
  have k0 := hb.heap hbef (by omega)
  have k1 := heap_set k0 0 (.int .i64 s.y)
  have k2 := heap_set k1 1 (.int .i64 s.a)
  have k3 := heap_set k2 2 (.int .i64 s.b)
  have k4 := heap_set k3 3 (.int .i64 s.c)
  have k5 := heap_set k4 4 (.int .i64 s.d)
  have e : ∀ j, j ≠ b11 → (((((W5.setCell ⟨b11, 0, none⟩ (.int .i64 s.y)).setCell ⟨b11, 1, none⟩ (.int .i64 s.a)).setCell ⟨b11, 2, none⟩ (.int .i64 s.b)).setCell ⟨b11, 3, none⟩ (.int .i64 s.c)).setCell ⟨b11, 4, none⟩ (.int .i64 s.d)).heap[j]? = W5.heap[j]? := fun j hj =>
    (Below.heap_setCell _ _ _ _ hj).trans ((Below.heap_setCell _ _ _ _ hj).trans ((Below.heap_setCell _ _ _ _ hj).trans ((Below.heap_setCell _ _ _ _ hj).trans (Below.heap_setCell _ _ _ _ hj))))
  have hB5 : Below w.heap.size w W5 := h.below.trans (hb.below h.below.size (fun j hj => by omega))
  have n0 := ints_noIface ⟨sb.y, sb.a, sb.b, sb.c, sb.d, rfl⟩
  have hmc : McAt W5 W5.heap.size (.slice mA m.crafts.length mc) m.crafts := by
    obtain ⟨A, c, e1, hl, hr⟩ := h.mc
    refine ⟨A, c, e1, hl, fun hne => ?_⟩
    obtain ⟨bb, oo, e2, hlt, hc⟩ := hr hne
    refine ⟨bb, oo, e2, by omega, fun j u hu => ?_⟩
    have h1 := hc j u hu
    have hk : ¬ bb = kb := fun e3 => by
      obtain ⟨es, clock, hob⟩ := h.map.toMap.obj
      rw [e3, World.cell?, hob] at h1; simp at h1
    rw [World.cell?] at h1 ⊢
    rw [hb.block bb (by omega) hk]; exact h1
  refine ⟨((((hB5.setCell (p := ⟨b11, 0, none⟩) (by show w.heap.size ≤ b11; omega) _).setCell (p := ⟨b11, 1, none⟩) (by show w.heap.size ≤ b11; omega) _).setCell (p := ⟨b11, 2, none⟩) (by show w.heap.size ≤ b11; omega) _).setCell (p := ⟨b11, 3, none⟩) (by show w.heap.size ≤ b11; omega) _).setCell (p := ⟨b11, 4, none⟩) (by show w.heap.size ≤ b11; omega) _,
    (e _ (by omega)).trans (hb.heap h.works (by omega)), (e _ (by omega)).trans (hb.heap h.yes (by omega)), (e _ (by omega)).trans (hb.heap h.err (by omega)), (e _ (by omega)).trans (hb.heap h.model (by omega)), ?_, (e _ (by omega)).trans (hb.heap h.mbox (by omega)), hmap.kept (e _ (by omega)), ⟨s, k5, fun _ => hs⟩, fun i hi => ?_, hp1, hp2, hp3, hp4, by simp [World.setCell]; omega⟩
  · have := ((((hmc.setCell (i := 0) k0 n0 (.int .i64 s.y)).setCell (i := 1) k1 (ints_noIface ⟨_, _, _, _, _, rfl⟩) (.int .i64 s.a)).setCell (i := 2) k2 (ints_noIface ⟨_, _, _, _, _, rfl⟩) (.int .i64 s.b)).setCell (i := 3) k3 (ints_noIface ⟨_, _, _, _, _, rfl⟩) (.int .i64 s.c)).setCell (i := 4) k4 (ints_noIface ⟨_, _, _, _, _, rfl⟩) (.int .i64 s.d)
    simpa [World.setCell] using this
  · rcases Nat.lt_or_ge i k with h1 | h1
    · exact h.oks i h1
    · obtain rfl : i = k := by omega
      exact hok

theorem pr_ret0 {m : Wk} {least : Int} {ws : List Wo} {w W : World} {b hi : Nat} {ds : List Deferred} {tmps : Array Value} {y : Bool} {e : Int} (hm : Marks b W hi ds) (hb : w.heap.size + 3 ≤ b) (hbW : b ≤ W.heap.size)
    (h6 : tmps[6]?.getD undef = .pointer (some ⟨w.heap.size + 1, 0, none⟩)) (h7 : tmps[7]?.getD undef = .pointer (some ⟨w.heap.size + 1 + 1, 0, none⟩))
    (k1 : W.heap[w.heap.size + 1]? = some (.cells #[.bool y] 4 (0, 0))) (k2 : W.heap[w.heap.size + 1 + 1]? = some (.cells #[.int .i64 e] 28 (0, 0))) (hbel : Below w.heap.size w W) (hp : provesS m least ws = (y, e)) :
    bodyPostM Fence.wide 10 Tryz.prog Tryz.f18 (ProvesPost m least ws w) .ret { tmps := tmps, defers := ds } W := by
  refine bodyPostM_ret hm fun w' hw' => ?_
  have d1 : w'.cell? ⟨w.heap.size + 1, 0, none⟩ = some (.bool y) := by rw [cell_blk (hw'.cells k1)]; rfl
  have d2 : w'.cell? ⟨w.heap.size + 1 + 1, 0, none⟩ = some (.int .i64 e) := by rw [cell_blk (hw'.cells k2)]; rfl
  refine ⟨.tuple #[.bool y, .int .i64 e], by simp [results, Tryz.results18, go_sem, h6, h7, d1, d2], by rw [hp], hbel.trans (hw'.below (by omega) hbW)⟩
theorem pr_ret {m : Wk} {least : Int} {ws : List Wo} {w W : World} {b hi : Nat} {ds : List Deferred} {tmps : Array Value} {y : Bool} {e : Int} {v1 v2 : Value} (hm : Marks b W hi ds) (hb : w.heap.size + 3 ≤ b) (hbW : b ≤ W.heap.size)
    (h6 : tmps[6]?.getD undef = .pointer (some ⟨w.heap.size + 1, 0, none⟩)) (h7 : tmps[7]?.getD undef = .pointer (some ⟨w.heap.size + 1 + 1, 0, none⟩))
    (k1 : W.heap[w.heap.size + 1]? = some (.cells #[v1] 4 (0, 0))) (k2 : W.heap[w.heap.size + 1 + 1]? = some (.cells #[v2] 28 (0, 0))) (hbel : Below w.heap.size w W) (hp : provesS m least ws = (y, e)) :
    bodyPostM Fence.wide 10 Tryz.prog Tryz.f18 (ProvesPost m least ws w) .ret { tmps := tmps, defers := ds } ((W.setCell ⟨w.heap.size + 1, 0, none⟩ (.bool y)).setCell ⟨w.heap.size + 1 + 1, 0, none⟩ (.int .i64 e)) := by
  have a1 := heap_set k1 0 (.bool y)
  have a2 : (W.setCell ⟨w.heap.size + 1, 0, none⟩ (.bool y)).heap[w.heap.size + 1 + 1]? = some (.cells #[v2] 28 (0, 0)) := (Below.heap_setCell _ _ _ _ (by show _ ≠ w.heap.size + 1; omega)).trans k2
  have a3 := heap_set a2 0 (.int .i64 e)
  have a4 : ((W.setCell ⟨w.heap.size + 1, 0, none⟩ (.bool y)).setCell ⟨w.heap.size + 1 + 1, 0, none⟩ (.int .i64 e)).heap[w.heap.size + 1]? = _ := (Below.heap_setCell _ _ _ _ (by show _ ≠ w.heap.size + 1 + 1; omega)).trans a1
  refine pr_ret0 (hm.kept fun k h1 _ hk => (Below.heap_setCell _ _ _ _ (by show _ ≠ w.heap.size + 1 + 1; omega)).trans ((Below.heap_setCell _ _ _ _ (by show _ ≠ w.heap.size + 1; omega)).trans hk)) hb (by simp [World.setCell]; exact hbW) h6 h7 a4 a3
    ((hbel.setCell (p := ⟨w.heap.size + 1, 0, none⟩) (by show w.heap.size ≤ w.heap.size + 1; omega) _).setCell (p := ⟨w.heap.size + 1 + 1, 0, none⟩) (by show w.heap.size ≤ w.heap.size + 1 + 1; omega) _) hp

set_option maxHeartbeats 8000000 in
theorem proves_calls (m : Wk) (sl cr lv : Value) (least : Int) (ws : List Wo) (w : World) (hsl : SlopesAt w w.heap.size sl m.slopes) (hcr : CraftsAt w w.heap.size cr m.crafts) (hws : WorthsAt w w.heap.size lv ws) :
    Calls Tryz.prog 18 #[.agg #[sl, cr, .int .i64 m.years, .int .i64 m.visit, .int .i64 m.hands], .int .i64 least, lv] w (ProvesPost m least ws w) := by
  refine (callsIn_wide (n := 10)).1 ?_
  have hFw : ∀ f, Fence.wide.fn f := fun _ => trivial
  obtain ⟨w0, hw0⟩ : ∃ w0, w0 = ((w.alloc (.cells #[sl, cr, .int .i64 m.years, .int .i64 m.visit, .int .i64 m.hands] 25)).alloc (.cells #[.bool false] 4)).alloc (.cells #[.int .i64 0] 28) := ⟨_, rfl⟩
  have z0 : w0.heap.size = w.heap.size + 3 := by rw [hw0]; simp
  have b0 : Below w.heap.size w w0 := by rw [hw0]; exact ((below1 _ _).alloc (by simp) _).alloc (by simp; omega) _
  have g0 : w0.heap[w.heap.size]? = some (.cells #[sl, cr, .int .i64 m.years, .int .i64 m.visit, .int .i64 m.hands] 25 (0, 0)) := by
    rw [hw0]; exact (Below.heap_alloc _ _ _ (by simp; omega)).trans ((Below.heap_alloc _ _ _ (by simp)).trans (heap_alloc_self _ _))
  have g1 : w0.heap[w.heap.size + 1]? = some (.cells #[.bool false] 4 (0, 0)) := by
    rw [hw0]; exact (Below.heap_alloc _ _ _ (by simp)).trans (by simpa using heap_alloc_self (w.alloc _) _)
  have g2 : w0.heap[w.heap.size + 1 + 1]? = some (.cells #[.int .i64 0] 28 (0, 0)) := by
    rw [hw0]; simpa using heap_alloc_self ((w.alloc _).alloc _) _
  have hchk := check_calls m sl cr w0 ((hsl.below b0).mono (by omega)) ((hcr.below b0).mono (by omega))
  have HW0 := Lib.hid hw0
  have HCHK := Lib.hid hchk
  have HB0 := Lib.hid b0
  have HG := Lib.hid (And.intro g0 (And.intro g1 g2))
  clear hw0 hchk b0 g0 g1 g2
  refine callsIn_of_wp_marks Tryz.func18 rfl trivial ?_ rfl
  simp only [Tryz.ntmps18, List.size_toArray, List.length_cons, List.length_nil, Nat.reduceAdd, Nat.reduceSub, Array.replicate_succ, Array.replicate_zero, List.push_toArray, List.append_toArray, List.nil_append, List.cons_append]
  by_cases hc : checkS m = 0
  · have hm := checkS_ok hc
    obtain ⟨sA, sc, rfl, _, _⟩ := id hsl
    obtain ⟨cA, cc, rfl, _, _⟩ := id hcr
    obtain ⟨lA, lc, rfl, _, hss⟩ := hws
    have HSL := Lib.hid hsl
    have HCR := Lib.hid hcr
    have HSS := Lib.hid hss
    have HCK := Lib.hid hc
    rw [hc] at HCHK
    clear hsl hcr hc hss
    gi_wp2_with fail
    rw [← HW0.out]
    refine (callsIn_wide.2 HCHK.out).mono ?_
    rintro e w1 ⟨rfl, hb1⟩
    obtain ⟨g0, g1, g2⟩ := HG.out
    have k0 := blk_below hb1 g0 (by omega)
    have k1 := blk_below hb1 g1 (by omega)
    have k2 := blk_below hb1 g2 (by omega)
    have z1 := hb1.size
    have HB1 := Lib.hid (HB0.out.trans (hb1.mono (by omega)))
    have K := Lib.hid (And.intro k0 (And.intro k1 k2))
    clear hb1 g0 g1 g2 HCHK HB0 HG HW0
    by_cases hl : 2000 < ws.length
    · have hli : (ws.length : Int) > 2000 := by omega
      have hpr : provesS m least ws = (false, 3) := by unfold provesS; rw [if_pos HCK.out, if_pos hl]
      have c1 : w1.cell? ⟨w.heap.size + 1, 0, none⟩ = some (.bool false) := by rw [cell_blk k1]; rfl
      have c2 : w1.cell? ⟨w.heap.size + 1 + 1, 0, none⟩ = some (.int .i64 0) := by rw [cell_blk k2]; rfl
      have f1 := frozen_blk k1 0
      have f2 := frozen_blk k2 0
      have HPR := Lib.hid hpr
      clear k0 k1 k2 hpr
      gi_wp2_with fail
      exact pr_ret (b := w1.heap.size) (hi := w1.heap.size) (ds := []) (Nat.le_refl _) (by omega) (Nat.le_refl _) rfl rfl K.out.2.1 K.out.2.2 HB1.out HPR.out
    · have hle : ws.length ≤ 2000 := by omega
      have hli : ¬ (ws.length : Int) > 2000 := by omega
      have hpr : provesS m least ws = (provesB m least ws, 0) := by unfold provesS; rw [if_pos HCK.out, if_neg hl]
      have HPR := Lib.hid hpr
      obtain ⟨x0, x1, x2, x3, x4⟩ := blk5 k0
      have hmm := @run_makeMap Tryz.prog
      clear k0 k1 k2 hpr hl
      gi_wp2_with fail
      refine (callsIn_wide.2 (modelOf_calls m.crafts sA m.slopes.length sc (.slice cA m.crafts.length cc) m.years m.visit m.hands w1 hm.crafts ((HCR.out.below HB1.out).mono (by omega)))).mono ?_
      rintro e w2 ⟨mc, rfl, hmc2, hb2⟩
      obtain ⟨mA, mcap, rfl, _⟩ := id hmc2
      have z2 := hb2.size
      have HB2 := Lib.hid hb2
      have HMC2 := Lib.hid hmc2
      clear x0 x1 x2 x3 x4 hb2 hmc2
      gi_wp2_with fail
      obtain ⟨W0, hW0⟩ : ∃ W0, W0 = (((w2.alloc (.cells #[.slice sA m.slopes.length sc, .slice cA m.crafts.length cc, .int .i64 m.years, .int .i64 m.visit, .int .i64 m.hands, .slice mA m.crafts.length mcap] 90)).alloc (.map #[] 0)).alloc (.cells #[.map (some (w2.heap.size + 1))] 111)).alloc (.cells #[.int .i64 0, .int .i64 0, .int .i64 0, .int .i64 0, .int .i64 0] 95) := ⟨_, rfl⟩
      rw [← hW0]
      have zW0 : W0.heap.size = w2.heap.size + 4 := by rw [hW0]; simp
      have bW0 : Below w2.heap.size w2 W0 := by rw [hW0]; exact (((below1 _ _).alloc (by simp) _).alloc (by simp; omega) _).alloc (by simp; omega) _
      have h0 : PrInv m ws sA cA mA sc cc mcap w w2.heap.size (w2.heap.size + 1) (w2.heap.size + 1 + 1) (w2.heap.size + 1 + 1 + 1) 0 W0 := by
        have hb : Below w1.heap.size w1 W0 := HB2.out.trans (bW0.mono (by omega))
        refine ⟨HB1.out.trans (hb.mono (by omega)), blk_below hb K.out.1 (by omega), blk_below hb K.out.2.1 (by omega), blk_below hb K.out.2.2 (by omega), ?_, (HMC2.out.below bW0).mono (by omega), ?_, ?_, ⟨⟨0, 0, 0, 0, 0⟩, ?_, fun h => absurd rfl h⟩, fun i hi => by omega, by omega, by omega, by omega, by omega, by omega⟩
        · rw [hW0]; exact (Below.heap_alloc _ _ _ (by simp <;> omega)).trans ((Below.heap_alloc _ _ _ (by simp <;> omega)).trans ((Below.heap_alloc _ _ _ (by simp)).trans (heap_alloc_self _ _)))
        · rw [hW0]; exact (Below.heap_alloc _ _ _ (by simp)).trans (by simpa using heap_alloc_self ((w2.alloc _).alloc _) _)
        · rw [hW0]
          have := StMapE.made (w2.alloc (.cells #[.slice sA m.slopes.length sc, .slice cA m.crafts.length cc, .int .i64 m.years, .int .i64 m.visit, .int .i64 m.hands, .slice mA m.crafts.length mcap] 90))
          rw [World.size_alloc] at this
          exact (this.kept (Below.heap_alloc _ _ _ (by simp))).kept (Below.heap_alloc _ _ _ (by simp <;> omega))
        · rw [hW0]; simpa using heap_alloc_self (((w2.alloc _).alloc _).alloc _) _
      have H0 := Lib.hid h0
      clear h0 bW0 hW0 HB2 HMC2 K HB1 hli
      refine wpIn_loop_ghost (fun n a W => ∃ k : Nat, PrInv m ws sA cA mA sc cc mcap w w2.heap.size (w2.heap.size + 1) (w2.heap.size + 1 + 1) (w2.heap.size + 1 + 1 + 1) k W ∧ n = ws.length - k ∧ k ≤ ws.length ∧
        Fits (fun u => { tmps := #[u 0, .int .i64 least, .slice lA ws.length lc, .pointer (some ⟨w.heap.size, 0, none⟩), u 4, u 5, .pointer (some ⟨w.heap.size + 1, 0, none⟩), .pointer (some ⟨w.heap.size + 1 + 1, 0, none⟩), u 8, .pointer (some ⟨w2.heap.size, 0, none⟩), .pointer (some ⟨w2.heap.size + 1 + 1, 0, none⟩), .pointer (some ⟨w2.heap.size + 1 + 1 + 1, 0, none⟩), u 12, u 13, u 14, u 15, u 16, u 17, u 18, u 19, u 20, u 21, u 22, u 23, u 24, u 25, u 26, u 27, u 28, u 29, u 30, u 31, u 32, u 33, u 34, u 35, u 36, .slice lA ws.length lc, .int .i64 (ws.length : Int), .int .i64 (k : Int), u 40, u 41, u 42, u 43, u 44, u 45, u 46, u 47, u 48, u 49, u 50, u 51, u 52, u 53, u 54, u 55, u 56, u 57, u 58, u 59, u 60, u 61, u 62, u 63, u 64, u 65, u 66, u 67, u 68, u 69, u 70, u 71, u 72, u 73, u 74, u 75, u 76, u 77, u 78, u 79, u 80, u 81, u 82, u 83, u 84, u 85, u 86, u 87, u 88, u 89, u 90, u 91, u 92, u 93, u 94, u 95, u 96, u 97, u 98, u 99, u 100, u 101, u 102, u 103, u 104, u 105, u 106, u 107, u 108, u 109, u 110, u 111, u 112, u 113, u 114, u 115, u 116, u 117, u 118, u 119, u 120, u 121, u 122, u 123, u 124, u 125, u 126, u 127, u 128, u 129, u 130, u 131, u 132, u 133, u 134, u 135, u 136, u 137, u 138, u 139, u 140, u 141, u 142, u 143, u 144, u 145, u 146, u 147, u 148, u 149, u 150, u 151, u 152, u 153, u 154, u 155, u 156, u 157, u 158, u 159, u 160, u 161, u 162, u 163, u 164, u 165, u 166, u 167, u 168, u 169], defers := [] }) a) (ws.length) ?start ?round
      case start => exact ⟨0, H0.out, rfl, Nat.zero_le _, rfl⟩
      case round =>
        rintro n a W ⟨k, hinv, rfl, hk, hfit⟩
        obtain ⟨u, rfl⟩ := hfit.open_
        clear hfit H0
        dsimp only
        have hfacts := blk5 hinv.works
        obtain ⟨x0, x1, x2, x3, x4⟩ := hfacts
        have hp1 := hinv.p1
        have hp2 := hinv.p2
        have hp3 := hinv.p3
        have hp4 := hinv.p4
        have hp5 := hinv.p5
        by_cases hkl : k < ws.length
        · obtain ⟨b, o, rfl, hb, hsc⟩ := HSS.out (by intro e; rw [e] at hkl; simp at hkl)
          have hget : ws[k]? = some ws[k] := List.getElem?_eq_getElem hkl
          obtain ⟨tv, q0, q1, q2, htv⟩ := hsc k _ hget
          have hgd : ws.getD k dWo = ws[k] := getD_lt hkl _
          generalize hxe : ws[k] = x at *
          obtain ⟨tA, tc, rfl, htr⟩ := id htv
          have q0 := (hinv.below.cell (p := ⟨b, o + k * 3, none⟩) hb).trans q0
          have q1 := (hinv.below.cell (p := ⟨b, o + k * 3 + 1, none⟩) hb).trans q1
          have q2 := (hinv.below.cell (p := ⟨b, o + k * 3 + 2, none⟩) hb).trans q2
          have hil : (k : Int) < (ws.length : Int) := by omega
          have hi0 : (0 : Int) ≤ (k : Int) := by omega
          have hadd : IntKind.i64.wrap ((k : Int) + 1) = (k : Int) + 1 := IntWalk.i64_in _ (by omega)
          have hyb := hm.years
          have hsub : IntKind.i64.wrap (m.years - 1) = m.years - 1 := IntWalk.i64_in _ (by omega)
          obtain ⟨W1, hW1⟩ : ∃ W1, W1 = W.alloc (.cells #[.int .i64 x.y, .slice tA x.th.length tc, .int .i64 x.c] 110) := ⟨_, rfl⟩
          have zW : W1.heap.size = W.heap.size + 1 := by rw [hW1]; simp
          have bW : Below W.heap.size W W1 := by rw [hW1]; exact below1 _ _
          have gW : W1.heap[W.heap.size]? = some (.cells #[.int .i64 x.y, .slice tA x.th.length tc, .int .i64 x.c] 110 (0, 0)) := by rw [hW1]; exact heap_alloc_self _ _
          have hI1 := hinv.later bW
          have hbad : woOk m x = false → provesS m least ws = (false, 0) := fun h => by
            rw [HPR.out, proves_not (listOk_not hkl (by unfold okAt; rw [hgd, h]; rfl))]
          have x5 := blk5 hI1.works
          have y0 : W1.cell? ⟨W.heap.size, 0, none⟩ = some (.int .i64 x.y) := by rw [cell_blk gW]; rfl
          have y1 : W1.cell? ⟨W.heap.size, 1, none⟩ = some (.slice tA x.th.length tc) := by rw [cell_blk gW]; rfl
          have y2 : W1.cell? ⟨W.heap.size, 2, none⟩ = some (.int .i64 x.c) := by rw [cell_blk gW]; rfl
          have k1 : W1.cell? ⟨w.heap.size + 1, 0, none⟩ = some (.bool false) := by rw [cell_blk hI1.yes]; rfl
          have k2 : W1.cell? ⟨w.heap.size + 1 + 1, 0, none⟩ = some (.int .i64 0) := by rw [cell_blk hI1.err]; rfl
          have f1 := frozen_blk hI1.yes 0
          have f2 := frozen_blk hI1.err 0
          rw [hW1] at x5 y0 y1 y2 k1 k2 f1 f2
          obtain ⟨x0, x1, x2, x3, x4⟩ := x5
          have HI1 := Lib.hid hI1
          have HW1 := Lib.hid hW1
          have HG1 := Lib.hid gW
          have HBAD := Lib.hid hbad
          have HGET := Lib.hid (And.intro hget hgd)
          have HTV := Lib.hid htv
          clear hsc hW1 gW bW hI1 hget hgd hxe hinv htr htv hbad
          by_cases h1 : outB x.y 0 (m.years - 1) = true
          · have hw : woOk m x = false := by unfold woOk; rw [h1]; rfl
            have HPF := Lib.hid (HBAD.out hw)
            clear hw
            gi_wp2_with (gi_at_call 48; refine (callsIn_wide.2 (in_calls' _ _ _ _)).mono ?_; rintro e w' ⟨rfl, rfl⟩)
            rw [← HW1.out]
            exact pr_ret (b := W1.heap.size) (hi := W1.heap.size) (ds := []) (Nat.le_refl _) (by omega) (Nat.le_refl _) rfl rfl HI1.out.yes HI1.out.err HI1.out.below HPF.out
          · have h1 : outB x.y 0 (m.years - 1) = false := by simpa using h1
            by_cases h2 : x.th.length = m.slopes.length
            · have h2a : ((x.th.length : Int) != (m.slopes.length : Int)) = false := by simp [h2]
              have h2b : (!((x.th.length : Int) == (m.slopes.length : Int))) = false := by simp [h2]
              have H2 := Lib.hid h2
              clear h2
              by_cases h3 : outB x.c 0 2000000000 = true
              · have hw : woOk m x = false := by unfold woOk; rw [h3]; simp
                have HPF := Lib.hid (HBAD.out hw)
                clear hw
                gi_wp2_with (gi_at_call 48; refine (callsIn_wide.2 (in_calls' _ _ _ _)).mono ?_; rintro e w' ⟨rfl, rfl⟩)
                rw [← HW1.out]
                exact pr_ret (b := W1.heap.size) (hi := W1.heap.size) (ds := []) (Nat.le_refl _) (by omega) (Nat.le_refl _) rfl rfl HI1.out.yes HI1.out.err HI1.out.below HPF.out
              · have h3 : outB x.c 0 2000000000 = false := by simpa using h3
                gi_wp2_with (gi_at_call 48; refine (callsIn_wide.2 (in_calls' _ _ _ _)).mono ?_; rintro e w' ⟨rfl, rfl⟩)
                rw [← HW1.out]
                clear x0 x1 x2 x3 x4 y0 y1 y2 k1 k2 f1 f2 q0 q1 q2
                refine wpIn_loop_ghost (fun n a W' => ∃ j : Nat, W' = W1 ∧ n = x.th.length - j ∧ j ≤ x.th.length ∧ (∀ i, i < j → outB (x.th.getD i 0) 0 (fullAt m i) = false) ∧
                  Fits (fun u => { tmps := #[u 0, .int .i64 least, .slice (some ⟨b, o, none⟩) ws.length lc, .pointer (some ⟨w.heap.size, 0, none⟩), u 4, u 5, .pointer (some ⟨w.heap.size + 1, 0, none⟩), .pointer (some ⟨w.heap.size + 1 + 1, 0, none⟩), u 8, .pointer (some ⟨w2.heap.size, 0, none⟩), .pointer (some ⟨w2.heap.size + 1 + 1, 0, none⟩), .pointer (some ⟨w2.heap.size + 1 + 1 + 1, 0, none⟩), .int .i64 (k : Int), .pointer (some ⟨W.heap.size, 0, none⟩), u 14, u 15, u 16, u 17, u 18, u 19, u 20, u 21, u 22, u 23, u 24, u 25, u 26, u 27, u 28, u 29, u 30, u 31, u 32, u 33, u 34, u 35, u 36, .slice (some ⟨b, o, none⟩) ws.length lc, .int .i64 (ws.length : Int), .int .i64 (k : Int), u 40, u 41, u 42, u 43, u 44, u 45, u 46, u 47, u 48, u 49, u 50, u 51, u 52, u 53, u 54, u 55, u 56, u 57, u 58, u 59, u 60, u 61, u 62, u 63, u 64, u 65, u 66, .slice tA x.th.length tc, .int .i64 (x.th.length : Int), .int .i64 (j : Int), u 70, u 71, u 72, u 73, u 74, u 75, u 76, u 77, u 78, u 79, u 80, u 81, u 82, u 83, u 84, u 85, u 86, u 87, u 88, u 89, u 90, u 91, u 92, u 93, u 94, u 95, u 96, u 97, u 98, u 99, u 100, u 101, u 102, u 103, u 104, u 105, u 106, u 107, u 108, u 109, u 110, u 111, u 112, u 113, u 114, u 115, u 116, u 117, u 118, u 119, u 120, u 121, u 122, u 123, u 124, u 125, u 126, u 127, u 128, u 129, u 130, u 131, u 132, u 133, u 134, u 135, u 136, u 137, u 138, u 139, u 140, u 141, u 142, u 143, u 144, u 145, u 146, u 147, u 148, u 149, u 150, u 151, u 152, u 153, u 154, u 155, u 156, u 157, u 158, u 159, u 160, u 161, u 162, u 163, u 164, u 165, u 166, u 167, u 168, u 169], defers := [] }) a) (x.th.length) ?start ?round
                case start => exact ⟨0, rfl, rfl, Nat.zero_le _, fun i hi => by omega, rfl⟩
                case round =>
                  rintro n a W' ⟨j, rfl, rfl, hj, hfits, hfit⟩
                  obtain ⟨u, rfl⟩ := hfit.open_
                  clear hfit
                  dsimp only
                  obtain ⟨x0, x1, x2, x3, x4⟩ := blk5 HI1.out.works
                  have c1 : W'.cell? ⟨w.heap.size + 1, 0, none⟩ = some (.bool false) := by rw [cell_blk HI1.out.yes]; rfl
                  have c2 : W'.cell? ⟨w.heap.size + 1 + 1, 0, none⟩ = some (.int .i64 0) := by rw [cell_blk HI1.out.err]; rfl
                  have f1 := frozen_blk HI1.out.yes 0
                  have f2 := frozen_blk HI1.out.err 0
                  have hth4 : x.th.length ≤ 4 := by rw [H2.out]; exact hm.few
                  have HF := Lib.hid hfits
                  clear hfits
                  by_cases hjl : j < x.th.length
                  · obtain ⟨tA', tc', e, htr⟩ := HTV.out
                    cases e
                    obtain ⟨bt, ot, rfl, hbt, hck⟩ := (htr.below HI1.out.below).at_ j (by simpa using hjl)
                    simp only [List.getElem_map] at hck
                    obtain ⟨A1, cc1, e1, _, hss⟩ := HSL.out
                    cases e1
                    have hks : j < m.slopes.length := by rw [← H2.out]; exact hjl
                    obtain ⟨bs, os, rfl, hbs, hsc⟩ := hss (by intro e; rw [e] at hks; simp at hks)
                    obtain ⟨tk, _, _, _, hs2, _, _⟩ := hsc j _ (List.getElem?_eq_getElem hks)
                    have hs2' : W'.cell? ⟨bs, os + j * 5 + 2, none⟩ = some (.int .i64 m.slopes[j].full) := (HI1.out.below.cell (p := ⟨bs, os + j * 5 + 2, none⟩) hbs).trans hs2
                    have hfa : fullAt m j = m.slopes[j].full := by unfold fullAt; rw [List.getElem?_eq_getElem hks]
                    have hgd : x.th.getD j 0 = x.th[j] := getD_lt hjl 0
                    have hjil : (j : Int) < (x.th.length : Int) := by omega
                    have hjils : (j : Int) < (m.slopes.length : Int) := by omega
                    have hj0 : (0 : Int) ≤ (j : Int) := by omega
                    have hjadd : IntKind.i64.wrap ((j : Int) + 1) = (j : Int) + 1 := IntWalk.i64_in _ (by omega)
                    have HFA := Lib.hid (And.intro hfa hgd)
                    clear htr hss hsc hs2 hfa hgd
                    generalize m.slopes[j].full = f at *
                    generalize x.th[j] = t at *
                    by_cases ho : outB t 0 f = true
                    · have hw : woOk m x = false := by
                        unfold woOk
                        rw [fits_not hjl (by rw [HFA.out.1, HFA.out.2]; exact ho), Bool.and_false]
                      have HPF := Lib.hid (HBAD.out hw)
                      clear hw
                      gi_wp2_with (gi_at_call 48; refine (callsIn_wide.2 (in_calls' _ _ _ _)).mono ?_; rintro e w' ⟨rfl, rfl⟩)
                      exact pr_ret (ds := []) (Nat.le_refl _) (by omega) (Nat.le_refl _) rfl rfl HI1.out.yes HI1.out.err HI1.out.below HPF.out
                    · have ho : outB t 0 f = false := by simpa using ho
                      have hnx : ∀ i, i < j + 1 → outB (x.th.getD i 0) 0 (fullAt m i) = false := fun i hi => by
                        rcases Nat.lt_or_ge i j with h | h
                        · exact HF.out i h
                        · obtain rfl : i = j := by omega
                          rw [HFA.out.1, HFA.out.2]; exact ho
                      have HNX := Lib.hid hnx
                      clear hnx
                      gi_wp2_with (gi_at_call 48; refine (callsIn_wide.2 (in_calls' _ _ _ _)).mono ?_; rintro e w' ⟨rfl, rfl⟩)
                      exact ⟨x.th.length - (j + 1), by omega, j + 1, trivial, rfl, by omega, HNX.out, by go_num⟩
                  · obtain rfl : j = x.th.length := by omega
                    have hjil : ¬ ((x.th.length : Int) < (x.th.length : Int)) := by omega
                    have y0 : W'.cell? ⟨W.heap.size, 0, none⟩ = some (.int .i64 x.y) := by rw [cell_blk HG1.out]; rfl
                    have y1 : W'.cell? ⟨W.heap.size, 1, none⟩ = some (.slice tA x.th.length tc) := by rw [cell_blk HG1.out]; rfl
                    have hwo : woOk m x = true := by
                      unfold woOk
                      rw [h1, h3, fits_to (fun i hi => HF.out i hi)]
                      simp [H2.out]
                    have HWO := Lib.hid hwo
                    clear hwo
                    have hso := stW_ok hm HWO.out
                    have hwf : (stOf x.y x.th).Wf ∧ -9223372036854775808 ≤ x.c ∧ x.c ≤ 9223372036854775807 := ⟨hso.wf, by have := outB_false.1 h3; omega⟩
                    have HWF := Lib.hid hwf
                    clear hwf hso
                    gi_wp2_with fail
                    refine (callsIn_wide.2 (begin_calls x.y (.slice tA x.th.length tc) x.th W' w.heap.size HI1.out.below.size (HTV.out.below HI1.out.below) hth4)).mono ?_
                    rintro e w10 ⟨rfl, hb10⟩
                    obtain ⟨W3, hW3⟩ : ∃ W3, W3 = w10.alloc (.cells #[.int .i64 (stOf x.y x.th).y, .int .i64 (stOf x.y x.th).a, .int .i64 (stOf x.y x.th).b, .int .i64 (stOf x.y x.th).c, .int .i64 (stOf x.y x.th).d] 95) := ⟨_, rfl⟩
                    have z10 := hb10.size
                    have bW3 : Below W'.heap.size W' W3 := by rw [hW3]; exact hb10.trans ((below1 _ _).mono hb10.size)
                    have zW3 : W3.heap.size = w10.heap.size + 1 := by rw [hW3]; simp
                    have gS : W3.heap[w10.heap.size]? = some (.cells #[.int .i64 (stOf x.y x.th).y, .int .i64 (stOf x.y x.th).a, .int .i64 (stOf x.y x.th).b, .int .i64 (stOf x.y x.th).c, .int .i64 (stOf x.y x.th).d] 95 (0, 0)) := by rw [hW3]; exact heap_alloc_self _ _
                    have hI3 := HI1.out.later bW3
                    have gG := blk_below bW3 HG1.out (by omega)
                    obtain ⟨sb, hbef, hbe⟩ := hI3.bef
                    have a5 := blk5 hbef
                    have s5 := blk5 gS
                    have k1 : W3.cell? ⟨w.heap.size + 1, 0, none⟩ = some (.bool false) := by rw [cell_blk hI3.yes]; rfl
                    have k2 : W3.cell? ⟨w.heap.size + 1 + 1, 0, none⟩ = some (.int .i64 0) := by rw [cell_blk hI3.err]; rfl
                    have qm : W3.cell? ⟨w2.heap.size + 1 + 1, 0, none⟩ = some (.map (some (w2.heap.size + 1))) := by rw [cell_blk hI3.mbox]; rfl
                    have HI3 := Lib.hid hI3
                    have HW3 := Lib.hid hW3
                    have HG3 := Lib.hid (And.intro gG gS)
                    have HBE := Lib.hid (And.intro hbef hbe)
                    clear hI3 gG gS hbef hbe hb10 bW3 c1 c2 f1 f2 y0 y1 x0 x1 x2 x3 x4
                    rw [hW3] at a5 s5 k1 k2 qm
                    clear hW3
                    obtain ⟨a0, a1, a2, a3, a4⟩ := a5
                    obtain ⟨s0, s1, s2, s3, s4⟩ := s5
                    by_cases hk0 : k = 0
                    · have hkp : ¬ (k : Int) > 0 := by omega
                      have hok : okAt m ws k = true := by unfold okAt; rw [HGET.out.2, HWO.out, hk0]; rfl
                      have HOK := Lib.hid hok
                      have HX := HI3
                      have hbefX := HBE.out.1
                      clear hok hk0
                      gi_wp2_with fail
                      rw [← HW3.out]
                      have hq : ∀ w4, PutsR (w2.heap.size + 1) k (costW (ws.take k)) (putS (costW (ws.take k)) (stOf x.y x.th) x.c) W3 w4 → _ := fun w4 hw4 => And.intro (show w4.cell? ⟨w2.heap.size + 1 + 1, 0, none⟩ = some (.map (some (w2.heap.size + 1))) by rw [cell_blk (hw4.bel.heap HX.out.mbox (by omega))]; rfl) (And.intro (blk5 (hw4.bel.heap HG3.out.2 (by omega))) (show w4.cell? ⟨W.heap.size, 2, none⟩ = some (.int .i64 x.c) by rw [cell_blk (hw4.bel.heap HG3.out.1 (by omega))]; rfl))
                      have HQ := Lib.hid hq
                      clear hq a0 a1 a2 a3 a4 s0 s1 s2 s3 s4 k1 k2 qm
                      refine wpIn_region_rg_tail 6 (PutsR (w2.heap.size + 1) k (costW (ws.take k)) (putS (costW (ws.take k)) (stOf x.y x.th) x.c)) (fun | 5 => .exw undef (fun w4 => StMapE w4 (w2.heap.size + 1) (k + 1) (putS (costW (ws.take k)) (stOf x.y x.th) x.c)) | _ => .fn) (by kernel_rfl) (fun _ => trivial) (by kernel_rfl) (PutsR.refl _ _ _ _) (fun _ _ _ h k => h.trans k)
                        (by intro i; split <;> first | trivial | exact (fun w1 w2 h => h.two)) ?_
                      iterate 5 (refine rg_step fun K hK => ?_; apply rg_fn rfl; (intro w4 hw; obtain ⟨qm, ⟨s0, s1, s2, s3, s4⟩, y2⟩ := HQ.out w4 hw.undrew; go_simp; try rfl); go_simp; (try with_reducible refine hK _ _ ?_); try clear hK K)
                      refine rg_step fun K hK => ?_
                      apply rg_exS rfl
                      · intro w4 hw
                        obtain ⟨w', hr, hP, hE⟩ := puts_step (s := stOf x.y x.th) (x := x.c) HWF.out.1 HWF.out.2 (by unfold maxLen; omega) (hw.undrew.one HX.out.map)
                        simp only [stV] at hr
                        refine ⟨w', ?_, hP, hE⟩
                        go_simp
                        try rfl
                      go_simp
                      (try with_reducible refine hK _ _ ?_)
                      try clear hK K
                      refine rg_nil ?_
                      intro w5 hw5 hmap
                      replace hw5 := hw5.undrew
                      have hnb := hw5.bel.heap hbefX (by omega)
                      obtain ⟨a0, a1, a2, a3, a4⟩ := blk5 hnb
                      have fs0 := frozen_blk hnb 0
                      have fs1 := frozen_blk hnb 1
                      have fs2 := frozen_blk hnb 2
                      have fs3 := frozen_blk hnb 3
                      have fs4 := frozen_blk hnb 4
                      have hpush := HX.out.push hw5.bel (by rw [costW_take HGET.out.1]; exact hmap) (stOf x.y x.th) (by rw [HGET.out.2]; rfl) HOK.out
                      have HPU := Lib.hid hpush
                      clear hpush hw5 hmap hnb
                      simp only [List.drop_succ_cons, List.drop_zero]
                      gi_wp2_with fail
                      exact ⟨ws.length - (k + 1), by omega, k + 1, HPU.out, rfl, by omega, by go_num⟩
                    · have hkp : (k : Int) > 0 := by omega
                      have hsb := HBE.out.2 hk0
                      have hcmp := fun w' => compare_calls sb (stOf x.y x.th) w'
                      have HC := Lib.hid hcmp
                      have HSB := Lib.hid hsb
                      have hk0' := Lib.hid hk0
                      clear hcmp hsb hk0
                      by_cases hlt : cmpS sb (stOf x.y x.th) < 0
                      · have hok : okAt m ws k = true := by
                          unfold okAt
                          have hl : cmpS sb (stW x) < 0 := hlt
                          rw [HGET.out.2, HWO.out, ← HSB.out]
                          simp [hl]
                        have HOK := Lib.hid hok
                        have hge : ¬ cmpS sb (stOf x.y x.th) ≥ 0 := by omega
                        have hge2 : ¬ 0 ≤ cmpS sb (stOf x.y x.th) := by omega
                        clear hok
                        gi_wp2_with (gi_at_call 50; refine (callsIn_wide.2 (HC.out _)).mono ?_; rintro e wc ⟨rfl, hgc⟩; have HGC := Lib.hid hgc; clear hgc)
                        have hgc := HGC.out
                        rw [← HW3.out] at hgc
                        have hbc := hgc.below
                        have hX := HI3.out.later hbc
                        have HX := Lib.hid hX
                        have hbefX := blk_below hbc HBE.out.1 (lt_blk HBE.out.1)
                        have hGX := And.intro (blk_below hbc HG3.out.1 (lt_blk HG3.out.1)) (blk_below hbc HG3.out.2 (lt_blk HG3.out.2))
                        have HGX := Lib.hid hGX
                        have zc := hbc.size
                        clear hgc hbc hX hGX HGC
                        have hq : ∀ w4, PutsR (w2.heap.size + 1) k (costW (ws.take k)) (putS (costW (ws.take k)) (stOf x.y x.th) x.c) wc w4 → _ := fun w4 hw4 => And.intro (show w4.cell? ⟨w2.heap.size + 1 + 1, 0, none⟩ = some (.map (some (w2.heap.size + 1))) by rw [cell_blk (hw4.bel.heap HX.out.mbox (by omega))]; rfl) (And.intro (blk5 (hw4.bel.heap HGX.out.2 (by omega))) (show w4.cell? ⟨W.heap.size, 2, none⟩ = some (.int .i64 x.c) by rw [cell_blk (hw4.bel.heap HGX.out.1 (by omega))]; rfl))
                        have HQ := Lib.hid hq
                        clear hq a0 a1 a2 a3 a4 s0 s1 s2 s3 s4 k1 k2 qm
                        refine wpIn_region_rg_tail 6 (PutsR (w2.heap.size + 1) k (costW (ws.take k)) (putS (costW (ws.take k)) (stOf x.y x.th) x.c)) (fun | 5 => .exw undef (fun w4 => StMapE w4 (w2.heap.size + 1) (k + 1) (putS (costW (ws.take k)) (stOf x.y x.th) x.c)) | _ => .fn) (by kernel_rfl) (fun _ => trivial) (by kernel_rfl) (PutsR.refl _ _ _ _) (fun _ _ _ h k => h.trans k)
                          (by intro i; split <;> first | trivial | exact (fun w1 w2 h => h.two)) ?_
                        iterate 5 (refine rg_step fun K hK => ?_; apply rg_fn rfl; (intro w4 hw; obtain ⟨qm, ⟨s0, s1, s2, s3, s4⟩, y2⟩ := HQ.out w4 hw.undrew; go_simp; try rfl); go_simp; (try with_reducible refine hK _ _ ?_); try clear hK K)
                        refine rg_step fun K hK => ?_
                        apply rg_exS rfl
                        · intro w4 hw
                          obtain ⟨w', hr, hP, hE⟩ := puts_step (s := stOf x.y x.th) (x := x.c) HWF.out.1 HWF.out.2 (by unfold maxLen; omega) (hw.undrew.one HX.out.map)
                          simp only [stV] at hr
                          refine ⟨w', ?_, hP, hE⟩
                          go_simp
                          try rfl
                        go_simp
                        (try with_reducible refine hK _ _ ?_)
                        try clear hK K
                        refine rg_nil ?_
                        intro w5 hw5 hmap
                        replace hw5 := hw5.undrew
                        have hnb := hw5.bel.heap hbefX (by omega)
                        obtain ⟨a0, a1, a2, a3, a4⟩ := blk5 hnb
                        have fs0 := frozen_blk hnb 0
                        have fs1 := frozen_blk hnb 1
                        have fs2 := frozen_blk hnb 2
                        have fs3 := frozen_blk hnb 3
                        have fs4 := frozen_blk hnb 4
                        have hpush := HX.out.push hw5.bel (by rw [costW_take HGET.out.1]; exact hmap) (stOf x.y x.th) (by rw [HGET.out.2]; rfl) HOK.out
                        have HPU := Lib.hid hpush
                        clear hpush hw5 hmap hnb
                        simp only [List.drop_succ_cons, List.drop_zero]
                        gi_wp2_with fail
                        exact ⟨ws.length - (k + 1), by omega, k + 1, HPU.out, rfl, by omega, by go_num⟩
                      · have hok : okAt m ws k = false := by
                          unfold okAt
                          have hl : ¬ cmpS sb (stW x) < 0 := hlt
                          rw [HGET.out.2, HWO.out, ← HSB.out]
                          simp [hl, hk0'.out]
                        have hpf : provesS m least ws = (false, 0) := by rw [HPR.out, proves_not (listOk_not hkl hok)]
                        have HPF := Lib.hid hpf
                        have hge : cmpS sb (stOf x.y x.th) ≥ 0 := by omega
                        have hge2 : 0 ≤ cmpS sb (stOf x.y x.th) := by omega
                        clear hok hpf
                        gi_wp2_with (gi_at_call 50; refine (callsIn_wide.2 (HC.out _)).mono ?_; rintro e wc ⟨rfl, hgc⟩; have hbc := hgc.below; rw [← HW3.out] at hbc; have k1 : wc.cell? ⟨w.heap.size + 1, 0, none⟩ = some (.bool false) := (by rw [cell_blk (HI3.out.later hbc).yes]; rfl); have k2 : wc.cell? ⟨w.heap.size + 1 + 1, 0, none⟩ = some (.int .i64 0) := (by rw [cell_blk (HI3.out.later hbc).err]; rfl); have f1 := frozen_blk (HI3.out.later hbc).yes 0; have f2 := frozen_blk (HI3.out.later hbc).err 0; have HBC := Lib.hid hbc; clear hgc hbc)
                        have hbs := HBC.out.size
                        exact pr_ret (ds := []) (Nat.le_refl _) (by omega) (Nat.le_refl _) rfl rfl (HI3.out.later HBC.out).yes (HI3.out.later HBC.out).err (HI3.out.later HBC.out).below HPF.out
            · have h2a : ((x.th.length : Int) != (m.slopes.length : Int)) = true := by simp; omega
              have h2b : (!((x.th.length : Int) == (m.slopes.length : Int))) = true := by simp; omega
              have hw : woOk m x = false := by unfold woOk; rw [show decide (x.th.length ≠ m.slopes.length) = true by simpa using h2]; simp
              have HPF := Lib.hid (HBAD.out hw)
              clear hw
              gi_wp2_with (gi_at_call 48; refine (callsIn_wide.2 (in_calls' _ _ _ _)).mono ?_; rintro e w' ⟨rfl, rfl⟩)
              rw [← HW1.out]
              exact pr_ret (b := W1.heap.size) (hi := W1.heap.size) (ds := []) (Nat.le_refl _) (by omega) (Nat.le_refl _) rfl rfl HI1.out.yes HI1.out.err HI1.out.below HPF.out
        · obtain rfl : k = ws.length := by omega
          have hil : ¬ ((ws.length : Int) < (ws.length : Int)) := by omega
          have hok : listOk m ws = true := listOk_to hinv.oks
          have HOK := Lib.hid hok
          have HX := Lib.hid hinv
          have k1 : W.cell? ⟨w.heap.size + 1, 0, none⟩ = some (.bool false) := by rw [cell_blk hinv.yes]; rfl
          have k2 : W.cell? ⟨w.heap.size + 1 + 1, 0, none⟩ = some (.int .i64 0) := by rw [cell_blk hinv.err]; rfl
          have f1 := frozen_blk hinv.yes 0
          have f2 := frozen_blk hinv.err 0
          clear hok hinv
          by_cases hy : m.years = 0
          · have hpf : provesB m least ws = (decide (least ≤ 0) && decide (ws.length = 0)) := by unfold provesB; rw [HOK.out, if_pos hy]; rfl
            have HPF := Lib.hid (HPR.out.trans (by rw [hpf]))
            have hy1 : (m.years == (0 : Int)) = true := by simp [hy]
            clear hpf hy
            by_cases hl0 : least ≤ 0
            · by_cases hn0 : ws.length = 0
              · have hn1 : ((ws.length : Int) == 0) = true := by simp [hn0]
                have HN := Lib.hid hn0
                clear hn0
                gi_wp2_with fail
                exact pr_ret (y := true) (ds := []) (Nat.le_refl _) (by omega) (Nat.le_refl _) rfl rfl HX.out.yes HX.out.err HX.out.below (by rw [HPF.out, HN.out]; simp [hl0])
              · have hn1 : ((ws.length : Int) == 0) = false := by simpa using hn0
                have HN := Lib.hid hn0
                clear hn0
                gi_wp2_with fail
                exact pr_ret (y := false) (ds := []) (Nat.le_refl _) (by omega) (Nat.le_refl _) rfl rfl HX.out.yes HX.out.err HX.out.below (by rw [HPF.out, show decide (ws.length = 0) = false by simpa using HN.out]; simp)
            · gi_wp2_with fail
              exact pr_ret (y := false) (ds := []) (Nat.le_refl _) (by omega) (Nat.le_refl _) rfl rfl HX.out.yes HX.out.err HX.out.below (by rw [HPF.out, show decide (least ≤ 0) = false by simpa using hl0]; rfl)
          · have hy1 : (m.years == (0 : Int)) = false := by simpa using hy
            have hpf : provesB m least ws = (!(!(costW ws (firstS m)).isSome || decide ((costW ws (firstS m)).getD 0 < least)) && ws.all fun x => (rowsS m).all (rowProves m (costW ws) (stW x) x.c)) := by unfold provesB; rw [HOK.out, if_neg hy]; rfl
            have HPF := Lib.hid hpf
            have HY := Lib.hid hy
            have m5 := blk6 HX.out.model
            obtain ⟨m0, m1, m2, m3, m4, m5⟩ := m5
            have qm : W.cell? ⟨w2.heap.size + 1 + 1, 0, none⟩ = some (.map (some (w2.heap.size + 1))) := by rw [cell_blk HX.out.mbox]; rfl
            clear hpf hy
            gi_wp2_with fail
            have hq : ∀ w4, Grows W w4 → _ := fun w4 hw4 => And.intro (blk6 (HX.out.later hw4).model) (And.intro (show w4.cell? ⟨w2.heap.size + 1 + 1, 0, none⟩ = some (.map (some (w2.heap.size + 1))) by rw [cell_blk (HX.out.later hw4).mbox]; rfl) ((HX.out.later hw4).map.toMap.look (firstS m) (firstS_ok hm).wf))
            have HQ := Lib.hid hq
            clear hq m0 m1 m2 m3 m4 m5 qm k1 k2 f1 f2
            refine wpIn_region_rg_tail 8 Grows (fun | 2 => .ex (stV (firstS m)) | _ => .fn) (by kernel_rfl) (fun _ => trivial) (by kernel_rfl) Grows.refl growsT (by intro i; split <;> trivial) ?_
            iterate 2 (refine rg_step fun K hK => ?_; apply rg_fn rfl; (intro w4 hw; obtain ⟨⟨m0, m1, m2, m3, m4, m5⟩, qm, hlk⟩ := HQ.out w4 hw.undrew; go_simp; try rfl); go_simp; (try with_reducible refine hK _ _ ?_); try clear hK K)
            refine rg_step fun K hK => ?_
            apply rg_call (.inl rfl) rfl
            · intro w4 hw
              go_simp
              exact ⟨rfl, rfl⟩
            · intro w4 hw
              refine (first_calls m (.slice sA m.slopes.length sc) (.slice cA m.crafts.length cc) (.slice mA m.crafts.length mcap) m.years m.visit m.hands w4 hm.few (((HSL.out.below HX.out.below).below (hw.undrew.mono (by omega))).mono (by have := hw.undrew.size; have := HX.out.below.size; omega))).mono ?_
              rintro e w5 ⟨rfl, hb⟩
              exact ⟨rfl, hb⟩
            go_simp
            (try with_reducible refine hK _ _ ?_)
            try clear hK K
            iterate 5 (refine rg_step fun K hK => ?_; apply rg_fn rfl; (intro w4 hw; obtain ⟨⟨m0, m1, m2, m3, m4, m5⟩, qm, hlk⟩ := HQ.out w4 hw.undrew; go_simp; try rfl); go_simp; (try with_reducible refine hK _ _ ?_); try clear hK K)
            refine rg_nil ?_
            intro w5 hw5 _
            replace hw5 := hw5.undrew
            simp only [List.drop_succ_cons, List.drop_zero]
            have hx5 := HX.out.later hw5
            have hz5 := hw5.size
            have k1 : w5.cell? ⟨w.heap.size + 1, 0, none⟩ = some (.bool false) := by rw [cell_blk hx5.yes]; rfl
            have k2 : w5.cell? ⟨w.heap.size + 1 + 1, 0, none⟩ = some (.int .i64 0) := by rw [cell_blk hx5.err]; rfl
            have f1 := frozen_blk hx5.yes 0
            have f2 := frozen_blk hx5.err 0
            have m5 := blk6 hx5.model
            obtain ⟨m0, m1, m2, m3, m4, m5⟩ := m5
            have qm : w5.cell? ⟨w2.heap.size + 1 + 1, 0, none⟩ = some (.map (some (w2.heap.size + 1))) := by rw [cell_blk hx5.mbox]; rfl
            have HX5 := Lib.hid hx5
            clear HQ hw5 hx5
            generalize hfs : (costW ws (firstS m)).isSome = q at *
            generalize hfn : (costW ws (firstS m)).getD 0 = n at *
            have HFS := Lib.hid (And.intro hfs hfn)
            clear hfs hfn
            cases q
            · gi_wp2_with fail
              exact pr_ret (y := false) (ds := []) (Nat.le_refl _) (by omega) (Nat.le_refl _) rfl rfl HX5.out.yes HX5.out.err HX5.out.below (by rw [HPR.out, HPF.out]; rfl)
            · by_cases hnl : n < least
              · gi_wp2_with fail
                exact pr_ret (y := false) (ds := []) (Nat.le_refl _) (by omega) (Nat.le_refl _) rfl rfl HX5.out.yes HX5.out.err HX5.out.below (by rw [HPR.out, HPF.out]; simp [hnl])
              · have hpf2 : provesB m least ws = ws.all fun x => (rowsS m).all (rowProves m (costW ws) (stW x) x.c) := by rw [HPF.out]; simp [hnl]
                have HPF2 := Lib.hid hpf2
                clear hpf2
                have hms := HX5.out.map
                rw [List.take_length] at hms
                have HMS := Lib.hid hms
                clear hms
                gi_wp2_with (gi_at_range; refine wpListIn_range_st rfl _ rfl (by rfl) HMS.out (RowsDone m (costW ws)) ?_; intro D W6 cnt0 left0 hsr0 hb6 hz6)
                (try go_frame)
                have HSR0 := Lib.hid hsr0
                have HB6 := Lib.hid hb6
                clear hsr0 hb6 k1 k2 f1 f2 m0 m1 m2 m3 m4 m5 qm
                refine wpIn_loop_ghost (fun nn a W' => ∃ (left : Lit → Bool) (ds : List Deferred), StRange W' (w2.heap.size + 1) w5.heap.size ws.length (costW ws) D (RowsDone m (costW ws)) nn left ∧ Below w5.heap.size w5 W' ∧ w5.heap.size < W'.heap.size ∧ Marks (w5.heap.size + 1) W' W'.heap.size ds ∧
                  Fits (fun u => { tmps := #[u 0, .int .i64 least, u 2, .pointer (some ⟨w.heap.size, 0, none⟩), u 4, u 5, .pointer (some ⟨w.heap.size + 1, 0, none⟩), .pointer (some ⟨w.heap.size + 1 + 1, 0, none⟩), u 8, .pointer (some ⟨w2.heap.size, 0, none⟩), .pointer (some ⟨w2.heap.size + 1 + 1, 0, none⟩), .pointer (some ⟨w2.heap.size + 1 + 1 + 1, 0, none⟩), u 12, u 13, u 14, u 15, u 16, u 17, u 18, u 19, u 20, u 21, u 22, u 23, u 24, u 25, u 26, u 27, u 28, u 29, u 30, u 31, u 32, u 33, u 34, u 35, u 36, u 37, u 38, u 39, u 40, u 41, u 42, u 43, u 44, u 45, u 46, u 47, u 48, u 49, u 50, u 51, u 52, u 53, u 54, u 55, u 56, u 57, u 58, u 59, u 60, u 61, u 62, u 63, u 64, u 65, u 66, u 67, u 68, u 69, u 70, u 71, u 72, u 73, u 74, u 75, u 76, u 77, u 78, u 79, u 80, u 81, u 82, u 83, u 84, u 85, u 86, u 87, u 88, u 89, u 90, u 91, u 92, u 93, u 94, u 95, u 96, u 97, u 98, u 99, u 100, u 101, u 102, u 103, u 104, u 105, u 106, u 107, u 108, u 109, u 110, u 111, u 112, u 113, u 114, u 115, u 116, u 117, u 118, u 119, u 120, u 121, u 122, u 123, u 124, u 125, u 126, u 127, .pointer (some ⟨w5.heap.size, 0, none⟩), u 129, u 130, u 131, u 132, u 133, u 134, u 135, u 136, u 137, u 138, u 139, u 140, u 141, u 142, u 143, u 144, u 145, u 146, u 147, u 148, u 149, u 150, u 151, u 152, u 153, u 154, u 155, u 156, u 157, u 158, u 159, u 160, u 161, u 162, u 163, u 164, u 165, u 166, u 167, u 168, u 169], defers := ds }) a) cnt0 ?start ?round
                case start => exact ⟨left0, [], HSR0.out, HB6.out, by omega, by show w5.heap.size + 1 ≤ _; omega, rfl⟩
                case round =>
                  rintro cnt a W7 ⟨left, ds, hsr, hb7, hz7, hmk, hfit⟩
                  obtain ⟨u, rfl⟩ := hfit.open_
                  clear hfit HSR0 HB6
                  dsimp only
                  have HSR := Lib.hid hsr
                  have HB7 := Lib.hid hb7
                  have HMK := Lib.hid hmk
                  clear hsr hb7 hmk
                  gi_wp2_with (gi_at_next; refine wpListIn_next_st rfl _ rfl (by rfl) HSR.out ?_ ?_)
                  · intro hdone
                    have hx7 := HX5.out.later HB7.out
                    have k1 : W7.cell? ⟨w.heap.size + 1, 0, none⟩ = some (.bool false) := by rw [cell_blk hx7.yes]; rfl
                    have k2 : W7.cell? ⟨w.heap.size + 1 + 1, 0, none⟩ = some (.int .i64 0) := by rw [cell_blk hx7.err]; rfl
                    have f1 := frozen_blk hx7.yes 0
                    have f2 := frozen_blk hx7.err 0
                    have htrue : provesB m least ws = true := by
                      rw [HPF2.out, List.all_eq_true]
                      intro x hx
                      obtain ⟨i, hi⟩ := List.getElem?_of_mem hx
                      have hil := (List.getElem?_eq_some_iff.1 hi).1
                      have hwo := (okAt_spec (listOk_at HOK.out hil) hil).1
                      rw [(List.getElem?_eq_some_iff.1 hi).2] at hwo
                      exact hdone _ (stW_ok hm hwo).wf _ (costW_at (listOk_apart HOK.out) x hx)
                    have HT := Lib.hid htrue
                    have HX7 := Lib.hid hx7
                    clear hx7 htrue hdone
                    gi_wp2_with fail
                    exact pr_ret (y := true) HMK.out (by omega) (by omega) rfl rfl HX7.out.yes HX7.out.err HX7.out.below (by rw [HPR.out, HT.out])
                  · intro s c W8 cnt' left' hs hsc hlt hnext hrg hmap hbel hz8e hen
                    have hz8 : W8.heap.size ≤ W7.heap.size := Nat.le_of_eq hz8e
                    have hz8b : W7.heap.size ≤ W8.heap.size := Nat.le_of_eq hz8e.symm
                    clear hz8e
                    obtain ⟨x, hxm, hxs, hxc⟩ := costW_dom hsc
                    have hwo : woOk m x = true := by
                      obtain ⟨i, hi⟩ := List.getElem?_of_mem hxm
                      have hil := (List.getElem?_eq_some_iff.1 hi).1
                      have hwo := (okAt_spec (listOk_at HOK.out hil) hil).1
                      rw [(List.getElem?_eq_some_iff.1 hi).2] at hwo
                      exact hwo
                    have hso : s.Ok m := hxs ▸ stW_ok hm hwo
                    have hsy : s.y < m.years := by
                      have := outB_false.1 (woOk_spec hwo).1
                      rw [← hxs]; show x.y < _; omega
                    have hb8 : Below w5.heap.size w5 W8 := HB7.out.trans (hbel.below (by omega) (fun j hj => by omega))
                    have hmk8 := HMK.out.bel hbel (fun j h1 h2 h3 => by omega)
                    have HB8 := Lib.hid hb8
                    have HMK8 := Lib.hid hmk8
                    have HNEXT := Lib.hid hnext
                    have HMAP := Lib.hid hmap
                    have HSC := Lib.hid (And.intro hsc (And.intro hxm (And.intro hxs hxc)))
                    have HRG := Lib.hid hrg
                    simp only [stV] at hen ⊢
                    obtain ⟨W9, hW9⟩ : ∃ W9, W9 = (W8.alloc (.cells #[.int .i64 s.y, .int .i64 s.a, .int .i64 s.b, .int .i64 s.c, .int .i64 s.d] 95)).alloc (.cells #[.int .i64 c] 3) := ⟨_, rfl⟩
                    have bW9 : Below W8.heap.size W8 W9 := by rw [hW9]; exact (below1 _ _).alloc (by simp) _
                    have zW9 : W9.heap.size = W8.heap.size + 2 := by rw [hW9]; simp
                    have gs9 : W9.heap[W8.heap.size]? = some (.cells #[.int .i64 s.y, .int .i64 s.a, .int .i64 s.b, .int .i64 s.c, .int .i64 s.d] 95 (0, 0)) := by rw [hW9]; exact (Below.heap_alloc _ _ _ (by simp)).trans (heap_alloc_self _ _)
                    have gc9 : W9.heap[W8.heap.size + 1]? = some (.cells #[.int .i64 c] 3 (0, 0)) := by rw [hW9]; simpa using heap_alloc_self (W8.alloc _) _
                    have zW9a : W9.heap.size ≤ W8.heap.size + 2 := Nat.le_of_eq zW9
                    have zW9b : W8.heap.size + 2 ≤ W9.heap.size := Nat.le_of_eq zW9.symm
                    clear zW9
                    have hx9 := (HX5.out.later hb8).later (bW9.mono (Nat.le_refl _))
                    have m5 := blk6 hx9.model
                    rw [hW9] at m5
                    have HX9 := Lib.hid hx9
                    have HG9 := Lib.hid (And.intro gs9 gc9)
                    have HB9 := Lib.hid bW9
                    have HW9 := Lib.hid hW9
                    clear hx9 gs9 gc9 bW9 hW9
                    clear hb8 hmk8 hnext hmap hbel hrg hsc hxm hxs hxc HB7 HMK HSR
                    obtain ⟨m0, m1, m2, m3, m4, m5⟩ := m5
                    gi_wp2_with fail
                    rw [← HW9.out]
                    clear m0 m1 m2 m3 m4 m5
                    refine wpIn_rangeRows m ⟨hm.some, hm.few⟩ hm.crafts sA cA mA sc m.crafts.length cc mcap rfl
                      (fun _ k W' => Below W9.heap.size W9 W' ∧ ∀ r ∈ (rowsS m).take k, rowProves m (costW ws) s c r = true)
                      (fun B c' _ W' => c' = .ret ∧ Below W9.heap.size W9 W' ∧ ∃ r ∈ rowsS m, rowProves m (costW ws) s c r = false)
                      ?_ ?_ ?_ 21 ?assign ?body ?done ?stop
                    case assign =>
                      intro l rv W K hK
                      gi_wp2_with fail
                      simpa using hK
                    · rintro B k W1 W2 hB ⟨h1, h2⟩ hbel
                      exact ⟨h1.trans (hbel.below h1.size (fun j hj => hj.1)), h2⟩
                    · rintro B c' k W1 W2 hB ⟨rfl, h1, h2⟩ hbel
                      exact ⟨rfl, h1.trans (hbel.below h1.size (fun j hj => hj.1)), h2⟩
                    · intro B W1 hB hBW hbel
                      exact ⟨hbel, by simp⟩
                    case done =>
                      rintro B W' hB ⟨h1, h2⟩ hD
                      rw [List.take_length] at h2
                      have hd : RowsDone m (costW ws) s c := by unfold RowsDone; rw [List.all_eq_true]; exact h2
                      have hsr' := ((HNEXT.out hd).kept HB9.out).kept h1
                      have hmk' := ((HMK8.out.below HB9.out (by omega)).below h1 (by omega)).push (D := W9.heap.size) (by omega) hD (lt_blk hD)
                      have hb' : Below w5.heap.size w5 W' := (HB8.out.trans (HB9.out.mono (by omega))).trans (h1.mono (by omega))
                      have hz' := h1.size
                      have HF := Lib.hid (And.intro hsr' (And.intro hb' hmk'))
                      clear h1 h2 hd hsr' hmk' hb' hD
                      gi_wp2_with fail
                      exact ⟨cnt', by omega, left', _, HF.out.1, HF.out.2.1, by omega, HF.out.2.2, rfl⟩
                    case stop =>
                      rintro B c' k W' hB hk1 hk2 ⟨rfl, h1, r, hr, hrf⟩ hD
                      have hmk' := ((HMK8.out.below HB9.out (by omega)).below h1 (by omega)).push (D := W9.heap.size) (by omega) hD (lt_blk hD)
                      have hb' : Below w5.heap.size w5 W' := (HB8.out.trans (HB9.out.mono (by omega))).trans (h1.mono (by omega))
                      have hx' := HX5.out.later hb'
                      have hfalse : provesB m least ws = false := by
                        obtain ⟨hsc, hxm, hxs, hxc⟩ := HSC.out
                        rw [HPF2.out, List.all_eq_false]
                        refine ⟨x, hxm, ?_⟩
                        rw [hxs, hxc, Bool.not_eq_true, List.all_eq_false]
                        exact ⟨r, hr, by rw [hrf]; simp⟩
                      have hz' := h1.size
                      have HF := Lib.hid (And.intro hx' (And.intro hmk' hfalse))
                      clear h1 hr hrf hmk' hb' hx' hfalse hD
                      gi_wp2_with fail
                      exact pr_ret0 (y := false) (e := 0) HF.out.2.1 (by omega) (by omega) rfl rfl HF.out.1.yes HF.out.1.err HF.out.1.below (by rw [HPR.out, HF.out.2.2])
                    case body =>
                      rintro l B k W10 rv row hB hBW hrow ⟨hb10, hno⟩ ⟨rA, rc, rfl, hrc⟩
                      have hrm : row ∈ rowsS m := List.mem_of_getElem? hrow
                      have hro := (rowsS_mem hrm).1
                      have hx10 := HX9.out.later hb10
                      have hz10 := hb10.size
                      have gs10 := blk_below hb10 HG9.out.1 (by omega)
                      have gc10 := blk_below hb10 HG9.out.2 (by omega)
                      obtain ⟨s0, s1, s2, s3, s4⟩ := blk5 gs10
                      obtain ⟨m0, m1, m2, m3, m4, m5⟩ := blk6 hx10.model
                      have hstep := step_calls m s (.slice cA m.crafts.length cc) _ _ rA rc row W10 hm hso hro ((HSL.out.below hx10.below).mono hx10.below.size) hx10.mc (hrc.mono hBW)
                      have hnx : ∀ b, rowProves m (costW ws) s c row = b → b = true → ∀ r ∈ (rowsS m).take (k + 1), rowProves m (costW ws) s c r = true := by
                        intro b hb hbt r hr
                        rw [List.take_add_one, hrow] at hr
                        rcases List.mem_append.1 hr with h1 | h1
                        · exact hno r h1
                        · have : r = row := by simpa using h1
                          rw [this, hb, hbt]
                      have hrp : rowProves m (costW ws) s c row = (!keptS m s row || !((decide ((stepS m s row).y < m.years) && !(costW ws (stepS m s row)).isSome) || decide (c > costS m row + (costW ws (stepS m s row)).getD 0))) := rfl
                      have HSTEP := Lib.hid hstep
                      have HNX := Lib.hid hnx
                      have HRP := Lib.hid hrp
                      have HX10 := Lib.hid hx10
                      have HG10 := Lib.hid (And.intro gs10 gc10)
                      have HB10 := Lib.hid hb10
                      have HRC := Lib.hid (hrc.mono hBW)
                      clear hstep hnx hrp hx10 gs10 gc10 hb10 hrc hno hrow
                      generalize hkq : keptS m s row = q at *
                      have HKQ := Lib.hid hkq
                      clear hkq
                      cases q
                      · gi_wp2_with (gi_at_call 42; refine (CallsIn.inRound l (callsIn_wide.2 HSTEP.out)).mono ?_; rintro e w11 ⟨rfl, hb11⟩; have HB11 := Lib.hid hb11; clear hb11)
                        have hbw := HB11.out.trans ((below1 w11 (.cells #[.int .i64 (stepS m s row).y, .int .i64 (stepS m s row).a, .int .i64 (stepS m s row).b, .int .i64 (stepS m s row).c, .int .i64 (stepS m s row).d] 95)).mono HB11.out.size)
                        exact ⟨KeptMid.of_bel (S := fun _ => False) (Bel.of_below hbw) hBW (fun j h => h.elim), HB10.out.trans (hbw.mono hz10), HNX.out _ HRP.out rfl⟩
                      · have hto : (stepS m s row).Ok m := stepS_ok hm hso row (by have := hm.years; omega)
                        have hlkE := fun w11 (hb11 : Below W10.heap.size W10 w11) => ((HX10.out.later (hb11.trans ((below1 w11 (.cells #[.int .i64 (stepS m s row).y, .int .i64 (stepS m s row).a, .int .i64 (stepS m s row).b, .int .i64 (stepS m s row).c, .int .i64 (stepS m s row).d] 95)).mono hb11.size))).map.toMap.look (stepS m s row) hto.wf)
                        have hqm := fun w11 (hb11 : Below W10.heap.size W10 w11) => (show (w11.alloc (.cells #[.int .i64 (stepS m s row).y, .int .i64 (stepS m s row).a, .int .i64 (stepS m s row).b, .int .i64 (stepS m s row).c, .int .i64 (stepS m s row).d] 95)).cell? ⟨w2.heap.size + 1 + 1, 0, none⟩ = some (.map (some (w2.heap.size + 1))) by rw [cell_blk (HX10.out.later (hb11.trans ((below1 w11 (.cells #[.int .i64 (stepS m s row).y, .int .i64 (stepS m s row).a, .int .i64 (stepS m s row).b, .int .i64 (stepS m s row).c, .int .i64 (stepS m s row).d] 95)).mono hb11.size))).mbox]; rfl)
                        simp only [stV, List.take_length] at hlkE
                        have hcb := costS_bd hm hro
                        have hrest : 0 ≤ (costW ws (stepS m s row)).getD 0 ∧ (costW ws (stepS m s row)).getD 0 ≤ 2000000000 := by
                          cases hcw : costW ws (stepS m s row) with
                          | none => simp
                          | some c2 =>
                            obtain ⟨x2, hx2, _, hc2⟩ := costW_dom hcw
                            obtain ⟨i, hi⟩ := List.getElem?_of_mem hx2
                            have hil := (List.getElem?_eq_some_iff.1 hi).1
                            have hwo2 := (okAt_spec (listOk_at HOK.out hil) hil).1
                            rw [(List.getElem?_eq_some_iff.1 hi).2] at hwo2
                            have := outB_false.1 (woOk_spec hwo2).2.2.1
                            show 0 ≤ c2 ∧ c2 ≤ 2000000000
                            omega
                        generalize hfs2 : (costW ws (stepS m s row)).isSome = ok at *
                        generalize hfn2 : (costW ws (stepS m s row)).getD 0 = rest at *
                        have HLK := Lib.hid hlkE
                        have HQM := Lib.hid hqm
                        have HFS2 := Lib.hid (And.intro hfs2 hfn2)
                        have hadd : IntKind.i64.wrap (costS m row + rest) = costS m row + rest := IntWalk.i64_in _ (by omega)
                        have HADD := Lib.hid hadd
                        clear hlkE hqm hcb hrest hfs2 hfn2 hadd hto
                        gi_wp2_with (gi_at_call 42; refine (CallsIn.inRound l (callsIn_wide.2 HSTEP.out)).mono ?_; rintro e w11 ⟨rfl, hb11⟩; have hlk := HLK.out w11 hb11; have qm := HQM.out w11 hb11; have HB11 := Lib.hid hb11; clear hb11)
                        obtain ⟨W12, hW12⟩ : ∃ W12, W12 = w11.alloc (.cells #[.int .i64 (stepS m s row).y, .int .i64 (stepS m s row).a, .int .i64 (stepS m s row).b, .int .i64 (stepS m s row).c, .int .i64 (stepS m s row).d] 95) := ⟨_, rfl⟩
                        have gt12 : W12.heap[w11.heap.size]? = some (.cells #[.int .i64 (stepS m s row).y, .int .i64 (stepS m s row).a, .int .i64 (stepS m s row).b, .int .i64 (stepS m s row).c, .int .i64 (stepS m s row).d] 95 (0, 0)) := by rw [hW12]; exact heap_alloc_self _ _
                        have hb12 : Below W10.heap.size W10 W12 := by rw [hW12]; exact HB11.out.trans ((below1 w11 _).mono HB11.out.size)
                        rw [← hW12]
                        have hz12 := hb12.size
                        have hx12 := HX10.out.later hb12
                        have hgc12 := blk_below hb12 HG10.out.2 (lt_blk HG10.out.2)
                        have HX12 := Lib.hid hx12
                        have HGT := Lib.hid (And.intro gt12 hgc12)
                        have HB12 := Lib.hid hb12
                        have hq : ∀ w4, Grows W12 w4 → _ := fun w4 hw4 => And.intro (blk5 (blk_below hw4 HGT.out.1 (lt_blk HGT.out.1))) (And.intro (blk5 (HX12.out.later hw4).works) (And.intro (show w4.cell? ⟨W8.heap.size + 1, 0, none⟩ = some (.int .i64 c) by rw [cell_blk (blk_below hw4 HGT.out.2 (lt_blk HGT.out.2))]; rfl) (blk6 (HX12.out.later hw4).model)))
                        have hcost := fun w4 (hw4 : Grows W12 w4) => cost_calls m (.slice sA m.slopes.length sc) (.slice cA m.crafts.length cc) (.slice mA m.crafts.length mcap) rA rc row w4 hm hro ((HSL.out.below (HX12.out.later hw4).below).mono (HX12.out.later hw4).below.size) (HX12.out.later hw4).mc ((HRC.out.below (HB12.out.trans (hw4.mono hz12))).mono (Nat.le_trans hz12 (Below.size hw4)))
                        have HQ := Lib.hid hq
                        have HCOST := Lib.hid hcost
                        clear gt12 hb12 hW12 hx12 hgc12 hq hcost hlk qm s0 s1 s2 s3 s4 m0 m1 m2 m3 m4 m5
                        by_cases hpy : (stepS m s row).y < m.years
                        · cases ok
                          · have hrp2 : rowProves m (costW ws) s c row = false := by rw [HRP.out]; simp [hpy]
                            have HRP2 := Lib.hid hrp2
                            clear hrp2
                            refine wpIn_region_rg Grows (fun | 13 => .ex (.int .i64 (costS m row)) | _ => .fn) (by kernel_rfl) (fun _ => trivial) (by kernel_rfl) Grows.refl growsT (by intro i; split <;> trivial) ?_
                            iterate 10 (refine rg_step fun K hK => ?_; apply rg_fn rfl; (intro w4 hw; obtain ⟨⟨a0, a1, a2, a3, a4⟩, ⟨x0, x1, x2, x3, x4⟩, cc0, ⟨m0, m1, m2, m3, m4, m5⟩⟩ := HQ.out w4 hw.undrew; go_simp; try rfl); go_simp; (try with_reducible refine hK _ _ ?_); try clear hK K)
                            iterate 7 (refine rg_step fun K hK => ?_; apply rg_skip rfl; go_simp; (try with_reducible refine hK _ _ ?_); try clear hK K)
                            iterate 1 (refine rg_step fun K hK => ?_; apply rg_fn rfl; (intro w4 hw; go_simp; try rfl); go_simp; (try with_reducible refine hK _ _ ?_); try clear hK K)
                            refine rg_nil ?_
                            intro w13 hw13 _
                            replace hw13 := hw13.undrew
                            have hz13 := Below.size hw13
                            have hb13 := HB12.out.trans (hw13.mono hz12)
                            have hx13 := HX12.out.later hw13
                            have k1 : w13.cell? ⟨w.heap.size + 1, 0, none⟩ = some (.bool false) := by rw [cell_blk hx13.yes]; rfl
                            have k2 : w13.cell? ⟨w.heap.size + 1 + 1, 0, none⟩ = some (.int .i64 0) := by rw [cell_blk hx13.err]; rfl
                            have f1 := frozen_blk hx13.yes 0
                            have f2 := frozen_blk hx13.err 0
                            have HSM1 := Lib.hid (setCell_same (i := 0) (v := .bool false) hx13.yes rfl)
                            have HSM2 := Lib.hid (setCell_same (i := 0) (v := .int .i64 0) hx13.err rfl)
                            have H13 := Lib.hid hb13
                            clear hw13 hx13 hb13 HQ HCOST
                            gi_wp2_with fail
                            rw [HSM1.out, HSM2.out]
                            exact ⟨KeptMid.of_bel (S := fun _ => False) (Bel.of_below H13.out) hBW (fun j h => h.elim), rfl, HB10.out.trans (H13.out.mono hz10), row, hrm, HRP2.out⟩
                          · by_cases hgt : c > costS m row + rest
                            · have hrp2 : rowProves m (costW ws) s c row = false := by rw [HRP.out]; simp [hgt]
                              have HRP2 := Lib.hid hrp2
                              clear hrp2
                              refine wpIn_region_rg Grows (fun | 13 => .ex (.int .i64 (costS m row)) | _ => .fn) (by kernel_rfl) (fun _ => trivial) (by kernel_rfl) Grows.refl growsT (by intro i; split <;> trivial) ?_
                              iterate 13 (refine rg_step fun K hK => ?_; apply rg_fn rfl; (intro w4 hw; obtain ⟨⟨a0, a1, a2, a3, a4⟩, ⟨x0, x1, x2, x3, x4⟩, cc0, ⟨m0, m1, m2, m3, m4, m5⟩⟩ := HQ.out w4 hw.undrew; go_simp; try rfl); go_simp; (try with_reducible refine hK _ _ ?_); try clear hK K)
                              refine rg_step fun K hK => ?_
                              apply rg_call (.inr ⟨l, rfl⟩) rfl
                              · intro w4 hw
                                go_simp
                                exact ⟨rfl, rfl⟩
                              · intro w4 hw
                                refine (HCOST.out w4 hw.undrew).mono ?_
                                rintro e w5 ⟨he, hb⟩
                                exact ⟨he, hb⟩
                              go_simp
                              (try with_reducible refine hK _ _ ?_)
                              try clear hK K
                              iterate 4 (refine rg_step fun K hK => ?_; apply rg_fn rfl; (intro w4 hw; have hadd := HADD.out; obtain ⟨⟨a0, a1, a2, a3, a4⟩, ⟨x0, x1, x2, x3, x4⟩, cc0, ⟨m0, m1, m2, m3, m4, m5⟩⟩ := HQ.out w4 hw.undrew; go_simp; try rfl); go_simp; (try with_reducible refine hK _ _ ?_); try clear hK K)
                              refine rg_nil ?_
                              intro w13 hw13 _
                              replace hw13 := hw13.undrew
                              have hz13 := Below.size hw13
                              have hb13 := HB12.out.trans (hw13.mono hz12)
                              have hx13 := HX12.out.later hw13
                              have k1 : w13.cell? ⟨w.heap.size + 1, 0, none⟩ = some (.bool false) := by rw [cell_blk hx13.yes]; rfl
                              have k2 : w13.cell? ⟨w.heap.size + 1 + 1, 0, none⟩ = some (.int .i64 0) := by rw [cell_blk hx13.err]; rfl
                              have f1 := frozen_blk hx13.yes 0
                              have f2 := frozen_blk hx13.err 0
                              have HSM1 := Lib.hid (setCell_same (i := 0) (v := .bool false) hx13.yes rfl)
                              have HSM2 := Lib.hid (setCell_same (i := 0) (v := .int .i64 0) hx13.err rfl)
                              have H13 := Lib.hid hb13
                              clear hw13 hx13 hb13 HQ HCOST
                              gi_wp2_with fail
                              rw [HSM1.out, HSM2.out]
                              exact ⟨KeptMid.of_bel (S := fun _ => False) (Bel.of_below H13.out) hBW (fun j h => h.elim), rfl, HB10.out.trans (H13.out.mono hz10), row, hrm, HRP2.out⟩
                            · have hrp2 : rowProves m (costW ws) s c row = true := by rw [HRP.out]; simp []; omega
                              have HRP2 := Lib.hid hrp2
                              clear hrp2
                              refine wpIn_region_rg Grows (fun | 13 => .ex (.int .i64 (costS m row)) | _ => .fn) (by kernel_rfl) (fun _ => trivial) (by kernel_rfl) Grows.refl growsT (by intro i; split <;> trivial) ?_
                              iterate 13 (refine rg_step fun K hK => ?_; apply rg_fn rfl; (intro w4 hw; obtain ⟨⟨a0, a1, a2, a3, a4⟩, ⟨x0, x1, x2, x3, x4⟩, cc0, ⟨m0, m1, m2, m3, m4, m5⟩⟩ := HQ.out w4 hw.undrew; go_simp; try rfl); go_simp; (try with_reducible refine hK _ _ ?_); try clear hK K)
                              refine rg_step fun K hK => ?_
                              apply rg_call (.inr ⟨l, rfl⟩) rfl
                              · intro w4 hw
                                go_simp
                                exact ⟨rfl, rfl⟩
                              · intro w4 hw
                                refine (HCOST.out w4 hw.undrew).mono ?_
                                rintro e w5 ⟨he, hb⟩
                                exact ⟨he, hb⟩
                              go_simp
                              (try with_reducible refine hK _ _ ?_)
                              try clear hK K
                              iterate 4 (refine rg_step fun K hK => ?_; apply rg_fn rfl; (intro w4 hw; have hadd := HADD.out; obtain ⟨⟨a0, a1, a2, a3, a4⟩, ⟨x0, x1, x2, x3, x4⟩, cc0, ⟨m0, m1, m2, m3, m4, m5⟩⟩ := HQ.out w4 hw.undrew; go_simp; try rfl); go_simp; (try with_reducible refine hK _ _ ?_); try clear hK K)
                              refine rg_nil ?_
                              intro w13 hw13 _
                              replace hw13 := hw13.undrew
                              have hz13 := Below.size hw13
                              have hb13 := HB12.out.trans (hw13.mono hz12)
                              have hx13 := HX12.out.later hw13
                              have k1 : w13.cell? ⟨w.heap.size + 1, 0, none⟩ = some (.bool false) := by rw [cell_blk hx13.yes]; rfl
                              have k2 : w13.cell? ⟨w.heap.size + 1 + 1, 0, none⟩ = some (.int .i64 0) := by rw [cell_blk hx13.err]; rfl
                              have f1 := frozen_blk hx13.yes 0
                              have f2 := frozen_blk hx13.err 0
                              have HSM1 := Lib.hid (setCell_same (i := 0) (v := .bool false) hx13.yes rfl)
                              have HSM2 := Lib.hid (setCell_same (i := 0) (v := .int .i64 0) hx13.err rfl)
                              have H13 := Lib.hid hb13
                              clear hw13 hx13 hb13 HQ HCOST
                              gi_wp2_with fail
                              exact ⟨KeptMid.of_bel (S := fun _ => False) (Bel.of_below H13.out) hBW (fun j h => h.elim), HB10.out.trans (H13.out.mono hz10), HNX.out _ HRP2.out rfl⟩
                        · by_cases hgt : c > costS m row + rest
                          · have hrp2 : rowProves m (costW ws) s c row = false := by rw [HRP.out]; simp [hgt]
                            have HRP2 := Lib.hid hrp2
                            clear hrp2
                            refine wpIn_region_rg Grows (fun | 13 => .ex (.int .i64 (costS m row)) | _ => .fn) (by kernel_rfl) (fun _ => trivial) (by kernel_rfl) Grows.refl growsT (by intro i; split <;> trivial) ?_
                            iterate 6 (refine rg_step fun K hK => ?_; apply rg_fn rfl; (intro w4 hw; obtain ⟨⟨a0, a1, a2, a3, a4⟩, ⟨x0, x1, x2, x3, x4⟩, cc0, ⟨m0, m1, m2, m3, m4, m5⟩⟩ := HQ.out w4 hw.undrew; go_simp; try rfl); go_simp; (try with_reducible refine hK _ _ ?_); try clear hK K)
                            iterate 2 (refine rg_step fun K hK => ?_; apply rg_skip rfl; go_simp; (try with_reducible refine hK _ _ ?_); try clear hK K)
                            iterate 5 (refine rg_step fun K hK => ?_; apply rg_fn rfl; (intro w4 hw; obtain ⟨⟨a0, a1, a2, a3, a4⟩, ⟨x0, x1, x2, x3, x4⟩, cc0, ⟨m0, m1, m2, m3, m4, m5⟩⟩ := HQ.out w4 hw.undrew; go_simp; try rfl); go_simp; (try with_reducible refine hK _ _ ?_); try clear hK K)
                            refine rg_step fun K hK => ?_
                            apply rg_call (.inr ⟨l, rfl⟩) rfl
                            · intro w4 hw
                              go_simp
                              exact ⟨rfl, rfl⟩
                            · intro w4 hw
                              refine (HCOST.out w4 hw.undrew).mono ?_
                              rintro e w5 ⟨he, hb⟩
                              exact ⟨he, hb⟩
                            go_simp
                            (try with_reducible refine hK _ _ ?_)
                            try clear hK K
                            iterate 4 (refine rg_step fun K hK => ?_; apply rg_fn rfl; (intro w4 hw; have hadd := HADD.out; obtain ⟨⟨a0, a1, a2, a3, a4⟩, ⟨x0, x1, x2, x3, x4⟩, cc0, ⟨m0, m1, m2, m3, m4, m5⟩⟩ := HQ.out w4 hw.undrew; go_simp; try rfl); go_simp; (try with_reducible refine hK _ _ ?_); try clear hK K)
                            refine rg_nil ?_
                            intro w13 hw13 _
                            replace hw13 := hw13.undrew
                            have hz13 := Below.size hw13
                            have hb13 := HB12.out.trans (hw13.mono hz12)
                            have hx13 := HX12.out.later hw13
                            have k1 : w13.cell? ⟨w.heap.size + 1, 0, none⟩ = some (.bool false) := by rw [cell_blk hx13.yes]; rfl
                            have k2 : w13.cell? ⟨w.heap.size + 1 + 1, 0, none⟩ = some (.int .i64 0) := by rw [cell_blk hx13.err]; rfl
                            have f1 := frozen_blk hx13.yes 0
                            have f2 := frozen_blk hx13.err 0
                            have HSM1 := Lib.hid (setCell_same (i := 0) (v := .bool false) hx13.yes rfl)
                            have HSM2 := Lib.hid (setCell_same (i := 0) (v := .int .i64 0) hx13.err rfl)
                            have H13 := Lib.hid hb13
                            clear hw13 hx13 hb13 HQ HCOST
                            gi_wp2_with fail
                            rw [HSM1.out, HSM2.out]
                            exact ⟨KeptMid.of_bel (S := fun _ => False) (Bel.of_below H13.out) hBW (fun j h => h.elim), rfl, HB10.out.trans (H13.out.mono hz10), row, hrm, HRP2.out⟩
                          · have hrp2 : rowProves m (costW ws) s c row = true := by rw [HRP.out]; simp [hpy]; omega
                            have HRP2 := Lib.hid hrp2
                            clear hrp2
                            refine wpIn_region_rg Grows (fun | 13 => .ex (.int .i64 (costS m row)) | _ => .fn) (by kernel_rfl) (fun _ => trivial) (by kernel_rfl) Grows.refl growsT (by intro i; split <;> trivial) ?_
                            iterate 6 (refine rg_step fun K hK => ?_; apply rg_fn rfl; (intro w4 hw; obtain ⟨⟨a0, a1, a2, a3, a4⟩, ⟨x0, x1, x2, x3, x4⟩, cc0, ⟨m0, m1, m2, m3, m4, m5⟩⟩ := HQ.out w4 hw.undrew; go_simp; try rfl); go_simp; (try with_reducible refine hK _ _ ?_); try clear hK K)
                            iterate 2 (refine rg_step fun K hK => ?_; apply rg_skip rfl; go_simp; (try with_reducible refine hK _ _ ?_); try clear hK K)
                            iterate 5 (refine rg_step fun K hK => ?_; apply rg_fn rfl; (intro w4 hw; obtain ⟨⟨a0, a1, a2, a3, a4⟩, ⟨x0, x1, x2, x3, x4⟩, cc0, ⟨m0, m1, m2, m3, m4, m5⟩⟩ := HQ.out w4 hw.undrew; go_simp; try rfl); go_simp; (try with_reducible refine hK _ _ ?_); try clear hK K)
                            refine rg_step fun K hK => ?_
                            apply rg_call (.inr ⟨l, rfl⟩) rfl
                            · intro w4 hw
                              go_simp
                              exact ⟨rfl, rfl⟩
                            · intro w4 hw
                              refine (HCOST.out w4 hw.undrew).mono ?_
                              rintro e w5 ⟨he, hb⟩
                              exact ⟨he, hb⟩
                            go_simp
                            (try with_reducible refine hK _ _ ?_)
                            try clear hK K
                            iterate 4 (refine rg_step fun K hK => ?_; apply rg_fn rfl; (intro w4 hw; have hadd := HADD.out; obtain ⟨⟨a0, a1, a2, a3, a4⟩, ⟨x0, x1, x2, x3, x4⟩, cc0, ⟨m0, m1, m2, m3, m4, m5⟩⟩ := HQ.out w4 hw.undrew; go_simp; try rfl); go_simp; (try with_reducible refine hK _ _ ?_); try clear hK K)
                            refine rg_nil ?_
                            intro w13 hw13 _
                            replace hw13 := hw13.undrew
                            have hz13 := Below.size hw13
                            have hb13 := HB12.out.trans (hw13.mono hz12)
                            have hx13 := HX12.out.later hw13
                            have k1 : w13.cell? ⟨w.heap.size + 1, 0, none⟩ = some (.bool false) := by rw [cell_blk hx13.yes]; rfl
                            have k2 : w13.cell? ⟨w.heap.size + 1 + 1, 0, none⟩ = some (.int .i64 0) := by rw [cell_blk hx13.err]; rfl
                            have f1 := frozen_blk hx13.yes 0
                            have f2 := frozen_blk hx13.err 0
                            have HSM1 := Lib.hid (setCell_same (i := 0) (v := .bool false) hx13.yes rfl)
                            have HSM2 := Lib.hid (setCell_same (i := 0) (v := .int .i64 0) hx13.err rfl)
                            have H13 := Lib.hid hb13
                            clear hw13 hx13 hb13 HQ HCOST
                            gi_wp2_with fail
                            exact ⟨KeptMid.of_bel (S := fun _ => False) (Bel.of_below H13.out) hBW (fun j h => h.elim), HB10.out.trans (H13.out.mono hz10), HNX.out _ HRP2.out rfl⟩
  · have hne : (checkS m != 0) = true := by simpa using hc
    have hne2 : (!(checkS m == 0)) = true := by simpa using hc
    have hpr : provesS m least ws = (false, checkS m) := by unfold provesS; rw [if_neg hc]
    have HPR := Lib.hid hpr
    clear hpr hc
    gi_wp2_with fail
    rw [← HW0.out]
    refine (callsIn_wide.2 HCHK.out).mono ?_
    rintro e w1 ⟨rfl, hb1⟩
    obtain ⟨g0, g1, g2⟩ := HG.out
    have k1 := blk_below hb1 g1 (by omega)
    have k2 := blk_below hb1 g2 (by omega)
    have z1 := hb1.size
    have HB1 := Lib.hid (HB0.out.trans (hb1.mono (by omega)))
    have c1 : w1.cell? ⟨w.heap.size + 1, 0, none⟩ = some (.bool false) := by rw [cell_blk k1]; rfl
    have c2 : w1.cell? ⟨w.heap.size + 1 + 1, 0, none⟩ = some (.int .i64 0) := by rw [cell_blk k2]; rfl
    have f1 := frozen_blk k1 0
    have f2 := frozen_blk k2 0
    have K1 := Lib.hid (And.intro k1 k2)
    clear k1 k2 hb1 g0 g1 g2
    gi_wp2_with fail
    exact pr_ret (b := w1.heap.size) (hi := w1.heap.size) (ds := []) (Nat.le_refl _) (by omega) (Nat.le_refl _) rfl rfl K1.out.1 K1.out.2 HB1.out HPR.out
end Go.Proofs.YtcbhldfipfcjaaaGreatDoor
