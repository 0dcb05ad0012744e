/- Cheapest. -/
import Derived.Test.YtnbnhcoaggpmaaaOp
import Derived.Test.YtnbnhcoaggpmaaaMv
import Derived.Test.YtnbnhcoaggpmaaaPb

namespace Go.Proofs.Ytnbnhcoaggpmaaa
open Go Go.RowKit Go.Shelf
set_option maxRecDepth 100000
attribute [local go_sem] Oper.semAt_some run_store_func

def CheapPost (m : Wk) (w : World) (e : Ending) (w' : World) : Prop :=
  ∃ v, e = .returned (.tuple #[v, .int .i64 (cheapS m).2.1, .bool (cheapS m).2.2.1, .int .i64 (cheapS m).2.2.2]) ∧ RowsAt w' w'.heap.size v (cheapS m).1 ∧ Below w.heap.size w w'

/-- What the rounds of Cheapest keep. -/
structure ChInv (m : Wk) (L : List St) (sA cA mA : Option Addr) (sc cc mc : Nat) (w : World) (n0 B b7 b8 b11 mb xb vb kb j : Nat) (W : World) (v : Value) : Prop where
  below : Below w.heap.size w W
  works : W.heap[w.heap.size]? = some (.cells #[.slice sA m.slopes.length sc, .slice cA m.crafts.length cc, .int .i64 m.years, .int .i64 m.visit, .int .i64 m.hands] 49 (0, 0))
  plan : W.heap[w.heap.size + 1]? = some (.cells #[v] 50 (0, 0))
  rows : OwnRows W B v (planTo m j)
  model : W.heap[b7]? = some (.cells #[.slice sA m.slopes.length sc, .slice cA m.crafts.length cc, .int .i64 m.years, .int .i64 m.visit, .int .i64 m.hands, .slice mA m.crafts.length mc] 75 (0, 0))
  st : W.heap[b8]? = some (.cells #[.int .i64 (chS m j).y, .int .i64 (chS m j).a, .int .i64 (chS m j).b, .int .i64 (chS m j).c, .int .i64 (chS m j).d] 79 (0, 0))
  fval : W.heap[b11]? = some (.cells #[valueV mb xb vb] 84 (0, 0))
  env : Env m L n0 mb xb vb kb sA cA mA sc m.crafts.length cc mc W
  lt : EnvLt n0 mb xb vb kb B
  le : B ≤ W.heap.size
  p1 : w.heap.size + 2 ≤ b7
  p2 : b7 < b8
  p3 : b8 < b11
  p4 : b11 < B
/-- What lies below B lies as it lay; the rows too. -/
theorem ChInv.kept {m : Wk} {L : List St} {sA cA mA : Option Addr} {sc cc mc : Nat} {w : World} {n0 B b7 b8 b11 mb xb vb kb j : Nat} {W W' : World} {v : Value} (h : ChInv m L sA cA mA sc cc mc w n0 B b7 b8 b11 mb xb vb kb j W v) (hb : Below B W W') (hr : OwnRows W' B v (planTo m j)) :
    ChInv m L sA cA mA sc cc mc w n0 B b7 b8 b11 mb xb vb kb j W' v where
  below := h.below.trans (hb.mono (by have := h.p1; have := h.p2; have := h.p3; have := h.p4; omega))
  works := blk_below hb h.works (by have := h.p1; have := h.p2; have := h.p3; have := h.p4; omega)
  plan := blk_below hb h.plan (by have := h.p1; have := h.p2; have := h.p3; have := h.p4; omega)
  rows := hr
  model := blk_below hb h.model (by have := h.p2; have := h.p3; have := h.p4; omega)
  st := blk_below hb h.st (by have := h.p3; have := h.p4; omega)
  fval := blk_below hb h.fval h.p4
  env := h.env.below hb h.lt
  lt := h.lt
  le := Nat.le_trans h.le hb.size
  p1 := h.p1
  p2 := h.p2
  p3 := h.p3
  p4 := h.p4
/-- A call of value. -/
theorem ChInv.learnt {m : Wk} {L : List St} {sA cA mA : Option Addr} {sc cc mc : Nat} {w : World} {n0 B b7 b8 b11 mb xb vb kb j : Nat} {W W' : World} {v : Value} {y : Int} (h : ChInv m L sA cA mA sc cc mc w n0 B b7 b8 b11 mb xb vb kb j W v) (hl : Learnt m L kb y W W') (hw : w.heap.size ≤ n0) :
    ChInv m L sA cA mA sc cc mc w n0 B b7 b8 b11 mb xb vb kb j W' v := by
  have hkm : ∃ es clock, W.heap[kb]? = some (.map es clock) := by obtain ⟨L0, hL0⟩ := h.env.memo; exact hL0.map.obj
  have hk0 := h.env.at0
  exact { below := h.below.trans (hl.1.below (n := w.heap.size) (by have := h.p1; have := h.p2; have := h.p3; have := h.p4; have := h.le; omega) (fun k e => by omega))
          works := hl.blk hkm h.works
          plan := hl.blk hkm h.plan
          rows := h.rows.kept fun k cs t hB hc _ => (hl.blk hkm hc).trans hc.symm
          model := hl.blk hkm h.model
          st := hl.blk hkm h.st
          fval := hl.blk hkm h.fval
          env := h.env.learnt hl (by have := h.lt.n0; have := h.le; omega)
          lt := h.lt
          le := Nat.le_trans h.le hl.1.size
          p1 := h.p1
          p2 := h.p2
          p3 := h.p3
          p4 := h.p4 }

/-- Plan and state, stored anew. -/
def stored (W : World) (n b8 : Nat) (v : Value) (s : St) : World :=
  (((((W.setCell ⟨n + 1, 0, none⟩ v).setCell ⟨b8, 0, none⟩ (.int .i64 s.y)).setCell ⟨b8, 1, none⟩ (.int .i64 s.a)).setCell ⟨b8, 2, none⟩ (.int .i64 s.b)).setCell ⟨b8, 3, none⟩ (.int .i64 s.c)).setCell ⟨b8, 4, none⟩ (.int .i64 s.d)
theorem stored_other (W : World) (n b8 : Nat) (v : Value) (s : St) (k : Nat) (h1 : k ≠ n + 1) (h2 : k ≠ b8) : (stored W n b8 v s).heap[k]? = W.heap[k]? :=
  (Below.heap_setCell _ _ _ _ h2).trans ((Below.heap_setCell _ _ _ _ h2).trans ((Below.heap_setCell _ _ _ _ h2).trans ((Below.heap_setCell _ _ _ _ h2).trans ((Below.heap_setCell _ _ _ _ h2).trans (Below.heap_setCell _ _ _ _ h1)))))
theorem stored_size (W : World) (n b8 : Nat) (v : Value) (s : St) : (stored W n b8 v s).heap.size = W.heap.size := by simp [stored, World.setCell]
theorem stored_below (W : World) (n b8 : Nat) (v : Value) (s : St) {B : Nat} (h1 : B ≤ n + 1) (h2 : B ≤ b8) : Below B W (stored W n b8 v s) :=
  ((((((Below.refl _ _).setCell (p := ⟨n + 1, 0, none⟩) h1 _).setCell (p := ⟨b8, 0, none⟩) h2 _).setCell (p := ⟨b8, 1, none⟩) h2 _).setCell (p := ⟨b8, 2, none⟩) h2 _).setCell (p := ⟨b8, 3, none⟩) h2 _).setCell (p := ⟨b8, 4, none⟩) h2 _
theorem ints_noIface {cs : Array Value} (h : ∃ x0 x1 x2 x3 x4 : Int, cs = #[.int .i64 x0, .int .i64 x1, .int .i64 x2, .int .i64 x3, .int .i64 x4]) (j : Nat) (u : Value) (hu : cs[j]? = some u) (T : TypeId) (x : Value) : u ≠ .iface T x := by
  obtain ⟨x0, x1, x2, x3, x4, rfl⟩ := h
  match j, hu with
  | 0, hu => simp at hu; subst hu; simp
  | 1, hu => simp at hu; subst hu; simp
  | 2, hu => simp at hu; subst hu; simp
  | 3, hu => simp at hu; subst hu; simp
  | 4, hu => simp at hu; subst hu; simp
  | j + 5, hu => simp at hu
theorem ChInv.push {m : Wk} {L : List St} {sA cA mA : Option Addr} {sc cc mc : Nat} {w : World} {n0 B b7 b8 b11 mb xb vb kb j : Nat} {W W' : World} {v v' : Value} (h : ChInv m L sA cA mA sc cc mc w n0 B b7 b8 b11 mb xb vb kb j W v) (hb : Below B W W') (hr : OwnRows W' B v' (planTo m (j + 1)))
    (hsl : SlopesAt w w.heap.size (.slice sA m.slopes.length sc) m.slopes) (hn0 : w.heap.size ≤ n0) (s : St) (hs : s = chS m (j + 1)) : ChInv m L sA cA mA sc cc mc w n0 B b7 b8 b11 mb xb vb kb (j + 1) (stored W' w.heap.size b8 v' s) v' := by
  have hp1 := h.p1
  have hp2 := h.p2
  have hp3 := h.p3
  have hp4 := h.p4
  have hbW : Below w.heap.size w W' := h.below.trans (hb.mono (by omega))
  have e := stored_other W' w.heap.size b8 v' s
  obtain ⟨vs, hv1, _⟩ := h.rows
  obtain ⟨A0, n0', c0, rfl⟩ := own_slice hv1
  have kpl := blk_below hb h.plan (by omega)
  have kst := blk_below hb h.st (by omega)
  have hslc : ∀ (j : Nat) (u : Value), (#[Value.slice A0 n0' c0] : Array Value)[j]? = some u → ∀ T x, u ≠ .iface T x := fun j u hu T x => by
    match j, hu with
    | 0, hu => simp at hu; subst hu; simp
    | j + 1, hu => simp at hu
  have k0 := (Below.heap_setCell W' ⟨w.heap.size + 1, 0, none⟩ v' b8 (by show b8 ≠ w.heap.size + 1; omega)).trans kst
  have k1 := heap_set k0 0 (.int .i64 s.y)
  have k2 := heap_set k1 1 (.int .i64 s.a)
  have k3 := heap_set k2 2 (.int .i64 s.b)
  have k4 := heap_set k3 3 (.int .i64 s.c)
  have k5 := heap_set k4 4 (.int .i64 s.d)
  have d79 : (79 : TypeId) ≠ 75 ∧ (79 : TypeId) ≠ 120 ∧ (79 : TypeId) ≠ 84 := by decide
  have sl : ∀ X : World, Below w.heap.size W' X → SlopesAt X n0 (.slice sA m.slopes.length sc) m.slopes := fun X hX => (hsl.below (hbW.trans hX)).mono hn0
  have b1 : Below w.heap.size W' (W'.setCell ⟨w.heap.size + 1, 0, none⟩ v') := (Below.refl _ _).setCell (by show w.heap.size ≤ w.heap.size + 1; omega) _
  have b2 := b1.setCell (p := ⟨b8, 0, none⟩) (by show w.heap.size ≤ b8; omega) (.int .i64 s.y)
  have b3 := b2.setCell (p := ⟨b8, 1, none⟩) (by show w.heap.size ≤ b8; omega) (.int .i64 s.a)
  have b4 := b3.setCell (p := ⟨b8, 2, none⟩) (by show w.heap.size ≤ b8; omega) (.int .i64 s.b)
  have b5 := b4.setCell (p := ⟨b8, 3, none⟩) (by show w.heap.size ≤ b8; omega) (.int .i64 s.c)
  have b6 := b5.setCell (p := ⟨b8, 4, none⟩) (by show w.heap.size ≤ b8; omega) (.int .i64 s.d)
  have e1 := (h.env.below hb h.lt).setCell kpl (by decide) hslc v' (sl _ b1)
  have e2 := e1.setCell k0 d79 (ints_noIface ⟨_, _, _, _, _, rfl⟩) _ (sl _ b2)
  have e3 := e2.setCell k1 d79 (ints_noIface ⟨_, _, _, _, _, rfl⟩) _ (sl _ b3)
  have e4 := e3.setCell k2 d79 (ints_noIface ⟨_, _, _, _, _, rfl⟩) _ (sl _ b4)
  have e5 := e4.setCell k3 d79 (ints_noIface ⟨_, _, _, _, _, rfl⟩) _ (sl _ b5)
  have e6 := e5.setCell k4 d79 (ints_noIface ⟨_, _, _, _, _, rfl⟩) _ (sl _ b6)
  subst hs
  refine ⟨hbW.trans b6, (e _ (by omega) (by omega)).trans (blk_below hb h.works (by omega)), ?_, hr.kept (fun k cs t hB _ _ => e k (by omega) (by omega)), (e _ (by omega) (by omega)).trans (blk_below hb h.model (by omega)), ?_, (e _ (by omega) (by omega)).trans (blk_below hb h.fval (by omega)), e6, h.lt, by rw [stored_size]; exact Nat.le_trans h.le hb.size, hp1, hp2, hp3, hp4⟩
  · refine (Below.heap_setCell _ _ _ _ (by show _ ≠ b8; omega)).trans ((Below.heap_setCell _ _ _ _ (by show _ ≠ b8; omega)).trans ((Below.heap_setCell _ _ _ _ (by show _ ≠ b8; omega)).trans ((Below.heap_setCell _ _ _ _ (by show _ ≠ b8; omega)).trans ((Below.heap_setCell _ _ _ _ (by show _ ≠ b8; omega)).trans ?_))))
    rw [heap_set kpl]; rfl
  · exact k5

set_option maxHeartbeats 8000000 in
theorem cheap_calls (m : Wk) (sl cr : Value) (w : World) (hsl : SlopesAt w w.heap.size sl m.slopes) (hcr : CraftsAt w w.heap.size cr m.crafts) :
    Calls Try.prog 8 #[.agg #[sl, cr, .int .i64 m.years, .int .i64 m.visit, .int .i64 m.hands]] w (CheapPost m w) := by
  refine (callsIn_wide (n := 10)).1 ?_
  have hFw : ∀ f, Fence.wide.fn f := fun _ => trivial
  obtain ⟨w0, hw0⟩ : ∃ w0, w0 = (w.alloc (.cells #[sl, cr, .int .i64 m.years, .int .i64 m.visit, .int .i64 m.hands] 49)).alloc (.cells #[.slice none 0 0] 50) := ⟨_, rfl⟩
  have z0 : w0.heap.size = w.heap.size + 2 := by rw [hw0]; simp
  have b0 : Below w.heap.size w w0 := by rw [hw0]; exact (below1 _ _).alloc (by simp) _
  have g0 : w0.heap[w.heap.size]? = some (.cells #[sl, cr, .int .i64 m.years, .int .i64 m.visit, .int .i64 m.hands] 49 (0, 0)) := by
    rw [hw0]; exact (Below.heap_alloc _ _ _ (by simp)).trans (heap_alloc_self _ _)
  have g1 : w0.heap[w.heap.size + 1]? = some (.cells #[.slice none 0 0] 50 (0, 0)) := by
    rw [hw0]; simpa using heap_alloc_self (w.alloc _) _
  have hchk := check_calls m sl cr w0 ((hsl.below b0).mono (by omega)) ((hcr.below b0).mono (by omega))
  have HW0 := Lib.hid hw0
  have HCHK := Lib.hid hchk
  have HB0 := Lib.hid b0
  have HG := Lib.hid (And.intro g0 g1)
  clear hw0 hchk b0 g0 g1
  refine callsIn_of_wp_marks Try.func8 rfl trivial ?_ rfl
  simp only [Try.ntmps8, List.size_toArray, List.length_cons, List.length_nil, Nat.reduceAdd, Nat.reduceSub, Array.replicate_succ, Array.replicate_zero, List.push_toArray, List.append_toArray, List.nil_append, List.cons_append]
  by_cases hc : checkS m = 0
  · have hm := checkS_ok hc
    obtain ⟨sA, sc, rfl, _, _⟩ := id hsl
    obtain ⟨cA, cc, rfl, _, _⟩ := id hcr
    have HSL := Lib.hid hsl
    have HCR := Lib.hid hcr
    have HCK := Lib.hid hc
    rw [hc] at HCHK
    clear hsl hcr hc
    gi_wp2_with fail
    rw [← HW0.out]
    refine (callsIn_wide.2 HCHK.out).mono ?_
    rintro e w1 ⟨rfl, hb1⟩
    obtain ⟨g0, g1⟩ := HG.out
    have k0 := blk_below hb1 g0 (by omega)
    have k1 := blk_below hb1 g1 (by omega)
    obtain ⟨x0, x1, x2, x3, x4⟩ := blk5 k0
    have z1 := hb1.size
    have HB1 := Lib.hid (HB0.out.trans (hb1.mono (by omega)))
    have K := Lib.hid (And.intro k0 k1)
    clear hb1 g0 g1 k0 k1 HCHK HB0 HG HW0
    gi_wp2_with fail
    refine (callsIn_wide.2 (modelOf_calls m.crafts sA m.slopes.length sc (.slice cA m.crafts.length cc) m.years m.visit m.hands w1 hm.crafts ((HCR.out.below HB1.out).mono (by omega)))).mono ?_
    rintro e w2 ⟨mc, rfl, hmc2, hb2⟩
    obtain ⟨mA, mcap, rfl, _⟩ := id hmc2
    clear x0 x1 x2 x3 x4
    gi_wp2_with fail
    obtain ⟨w3, hw3⟩ : ∃ w3, w3 = w2.alloc (.cells #[.slice sA m.slopes.length sc, .slice cA m.crafts.length cc, .int .i64 m.years, .int .i64 m.visit, .int .i64 m.hands, .slice mA m.crafts.length mcap] 75) := ⟨_, rfl⟩
    rw [← hw3]
    have hb3 : Below w2.heap.size w2 w3 := by rw [hw3]; exact below1 _ _
    have m3 : w3.heap[w2.heap.size]? = some (.cells #[.slice sA m.slopes.length sc, .slice cA m.crafts.length cc, .int .i64 m.years, .int .i64 m.visit, .int .i64 m.hands, .slice mA m.crafts.length mcap] 75 (0, 0)) := by rw [hw3]; exact heap_alloc_self _ _
    have z2 := hb2.size
    have z3 : w3.heap.size = w2.heap.size + 1 := by rw [hw3]; simp
    have hb13 := hb2.trans (hb3.mono hb2.size)
    have HB3 := Lib.hid (HB1.out.trans (hb13.mono (by omega)))
    refine (callsIn_wide.2 (first_calls m (.slice sA m.slopes.length sc) (.slice cA m.crafts.length cc) (.slice mA m.crafts.length mcap) m.years m.visit m.hands w3 hm.few ((HSL.out.below HB3.out).mono (by omega)))).mono ?_
    rintro e w4 ⟨rfl, hb4⟩
    have z4 := hb4.size
    obtain ⟨w5, hw5⟩ : ∃ w5, w5 = w4.alloc (.cells #[.int .i64 (firstS m).y, .int .i64 (firstS m).a, .int .i64 (firstS m).b, .int .i64 (firstS m).c, .int .i64 (firstS m).d] 79) := ⟨_, rfl⟩
    have hb5 : Below w4.heap.size w4 w5 := by rw [hw5]; exact below1 _ _
    have s5 : w5.heap[w4.heap.size]? = some (.cells #[.int .i64 (firstS m).y, .int .i64 (firstS m).a, .int .i64 (firstS m).b, .int .i64 (firstS m).c, .int .i64 (firstS m).d] 79 (0, 0)) := by rw [hw5]; exact heap_alloc_self _ _
    have z5 : w5.heap.size = w4.heap.size + 1 := by rw [hw5]; simp
    have hb35 := hb4.trans (hb5.mono hb4.size)
    have m5 := blk_below hb35 m3 (by omega)
    have HB5 := Lib.hid (HB3.out.trans (hb35.mono (by omega)))
    have K5 := Lib.hid (And.intro (blk_below hb35 (blk_below hb13 K.out.1 (lt_blk K.out.1)) (by omega)) (blk_below hb35 (blk_below hb13 K.out.2 (lt_blk K.out.2)) (by omega)))
    have MC5 := Lib.hid (((hmc2.below hb3).below (hb35.mono (by omega))).mono (show w2.heap.size ≤ w5.heap.size by omega))
    have hst := states_calls m hm (firstS m) (firstS_ok hm) (by show (0 : Int) ≤ m.years; exact hm.years.1) sA cA mA sc m.crafts.length cc mcap w5 ((HSL.out.below HB5.out).mono (by omega)) MC5.out
    have ym3 := blk6 m3
    have M5 := Lib.hid m5
    have S5 := Lib.hid s5
    have HST := Lib.hid hst
    have HW5 := Lib.hid hw5
    clear hb2 hb3 hb13 hb4 hb5 hb35 hw3 hw5 m5 s5 hst m3 hmc2 ym3 K HB1 HB3
    have y0 := blk6 M5.out
    have y1 := blk5 S5.out
    rw [HW5.out] at y0 y1
    obtain ⟨m0, m1, m2, m3, m4, m5⟩ := y0
    obtain ⟨s0, s1, s2, s3, s4⟩ := y1
    gi_wp2_with fail
    rw [← HW5.out]
    refine (callsIn_wide.2 HST.out).mono ?_
    rintro e w6 ⟨hb6, hpost⟩
    have z6 := hb6.size
    have HB6 := Lib.hid (HB5.out.trans (hb6.mono (by omega)))
    have k0 := blk_below hb6 K5.out.1 (lt_blk K5.out.1)
    have k1 := blk_below hb6 K5.out.2 (lt_blk K5.out.2)
    have m6 := blk_below hb6 M5.out (lt_blk M5.out)
    have s6 := blk_below hb6 S5.out (lt_blk S5.out)
    have MC6 := Lib.hid ((MC5.out.below hb6).mono hb6.size)
    clear m0 m1 m2 m3 m4 m5 s0 s1 s2 s3 s4 HST MC5 K5 M5 S5 HW5
    rcases hpost with ⟨hmany, rfl⟩ | ⟨hfew, lv, L, rfl, hperm, _⟩
    · have c1 : w6.cell? ⟨w.heap.size + 1, 0, none⟩ = some (.slice none 0 0) := by rw [cell_blk k1]; rfl
      have f1 := frozen_blk k1 0
      have hch : cheapS m = ([], 0, false, 3) := by unfold cheapS; rw [if_pos HCK.out, if_pos hmany]
      have HCH := Lib.hid hch
      have K1 := Lib.hid k1
      have HSM := Lib.hid (setCell_same (i := 0) (v := .slice none 0 0) k1 rfl)
      clear k1 hch hmany k0 m6 s6
      gi_wp2_with fail
      rw [HSM.out]
      refine bodyPostM_ret (b := w6.heap.size) (hi := w6.heap.size) (ds := []) (Nat.le_refl _) fun w' hw' => ?_
      have d1 : w'.cell? ⟨w.heap.size + 1, 0, none⟩ = some (.slice none 0 0) := by rw [cell_blk (hw'.cells K1.out)]; rfl
      exact ⟨.tuple #[.slice none 0 0, .int .i64 0, .bool false, .int .i64 3], by simp [results, Try.results8, go_sem, d1], .slice none 0 0, by rw [HCH.out], by rw [HCH.out]; exact RowsAt.nil _ _, HB6.out.trans (hw'.below (by omega) (Nat.le_refl _))⟩
    · have hlen : L.length ≤ 2000 := by rw [hperm.length_eq]; exact hfew
      have hT := allS_shut hm (firstS_ok hm) (show (firstS m).y ≤ m.years from hm.years.1) hperm hlen
      have hfT : firstS m ∈ L := hperm.mem_iff.2 (allS_self _ _)
      have hvc := values_calls m L sA cA mA sc m.crafts.length cc mcap w6 ((HSL.out.below HB6.out).mono (by omega)) MC6.out
      have HVC := Lib.hid hvc
      have HT := Lib.hid hT
      have HPERM := Lib.hid hperm
      have HFEW := Lib.hid hfew
      have K6 := Lib.hid (And.intro k0 (And.intro k1 (And.intro m6 s6)))
      obtain ⟨m0, m1, m2, m3, m4, m5⟩ := blk6 m6
      clear hvc hT hperm hfew k0 k1 m6 s6 hlen
      gi_wp2_with fail
      refine (callsIn_wide.2 HVC.out).mono ?_
      rintro e w7 ⟨mb, xb, vb, kb, rfl, henv, hb7⟩
      have z7 := hb7.size
      obtain ⟨w8, hw8⟩ : ∃ w8, w8 = w7.alloc (.cells #[valueV mb xb vb] 84) := ⟨_, rfl⟩
      have hb8 : Below w7.heap.size w7 w8 := by rw [hw8]; exact below1 _ _
      have f8 : w8.heap[w7.heap.size]? = some (.cells #[valueV mb xb vb] 84 (0, 0)) := by rw [hw8]; exact heap_alloc_self _ _
      have z8 : w8.heap.size = w7.heap.size + 1 := by rw [hw8]; simp
      have hb68 := hb7.trans (hb8.mono hb7.size)
      have HB8 := Lib.hid (HB6.out.trans (hb68.mono (by omega)))
      have hlt7 := henv.lt hb7.size
      have HENV8 := Lib.hid (henv.below hb8 hlt7)
      have K8 := Lib.hid (And.intro (blk_below hb68 K6.out.1 (lt_blk K6.out.1)) (And.intro (blk_below hb68 K6.out.2.1 (lt_blk K6.out.2.1)) (And.intro (blk_below hb68 K6.out.2.2.1 (lt_blk K6.out.2.2.1)) (blk_below hb68 K6.out.2.2.2 (lt_blk K6.out.2.2.2)))))
      have F8 := Lib.hid f8
      have HLT7 := Lib.hid hlt7
      have HW8 := Lib.hid hw8
      have y1 := blk5 K8.out.2.2.2
      have y2 : w8.cell? ⟨w7.heap.size, 0, none⟩ = some (valueV mb xb vb) := by rw [cell_blk f8]; rfl
      rw [hw8] at y1 y2
      unfold valueV at y1 y2
      obtain ⟨s0, s1, s2, s3, s4⟩ := y1
      clear henv hb7 hb8 hw8 f8 hb68 hlt7 HVC K6 m0 m1 m2 m3 m4 m5 MC6
      unfold valueV
      gi_wp2_with fail
      have hw8' := HW8.out
      unfold valueV at hw8'
      rw [← hw8']
      clear hw8' s0 s1 s2 s3 s4 y2
      refine (callsIn_wide.2 (value_in m hm L HT.out w6.heap.size mb xb vb kb sA cA mA sc m.crafts.length cc mcap _ (firstS m) w8 rfl hfT (by omega) HENV8.out)).mono ?_
      rintro e w9 ⟨rfl, hl9⟩
      have hkm8 : ∃ es clock, w8.heap[kb]? = some (.map es clock) := by obtain ⟨L0, hL0⟩ := HENV8.out.memo; exact hL0.map.obj
      have hB9 : Below w.heap.size w w9 := HB8.out.trans (hl9.1.below (by omega) (fun k e => by have := HENV8.out.at0; omega))
      have z9 := hl9.1.size
      by_cases hv : 2000000000 ≤ valS m (firstS m)
      · have k1 := hl9.blk hkm8 K8.out.2.1
        have c1 : w9.cell? ⟨w.heap.size + 1, 0, none⟩ = some (.slice none 0 0) := by rw [cell_blk k1]; rfl
        have f1 := frozen_blk k1 0
        have hch : cheapS m = ([], 0, false, 0) := by unfold cheapS; rw [if_pos HCK.out, if_neg (by have := HFEW.out; omega), if_pos hv]
        have HCH := Lib.hid hch
        have K1 := Lib.hid k1
        have HB9 := Lib.hid hB9
        have HSM := Lib.hid (setCell_same (i := 0) (v := .slice none 0 0) k1 rfl)
        clear k1 hch hl9 hkm8 hB9
        gi_wp2_with fail
        rw [HSM.out]
        refine bodyPostM_ret (b := w9.heap.size) (hi := w9.heap.size) (ds := []) (Nat.le_refl _) fun w' hw' => ?_
        have d1 : w'.cell? ⟨w.heap.size + 1, 0, none⟩ = some (.slice none 0 0) := by rw [cell_blk (hw'.cells K1.out)]; rfl
        exact ⟨.tuple #[.slice none 0 0, .int .i64 0, .bool false, .int .i64 0], by simp [results, Try.results8, go_sem, d1], .slice none 0 0, by rw [HCH.out], by rw [HCH.out]; exact RowsAt.nil _ _, HB9.out.trans (hw'.below (by omega) (Nat.le_refl _))⟩
      · have hvl : valS m (firstS m) < 2000000000 := by omega
        have hI9 : ChInv m L sA cA mA sc cc mcap w w6.heap.size w8.heap.size w2.heap.size w4.heap.size w7.heap.size mb xb vb kb 0 w9 (.slice none 0 0) := by
          have h8 : ChInv m L sA cA mA sc cc mcap w w6.heap.size w8.heap.size w2.heap.size w4.heap.size w7.heap.size mb xb vb kb 0 w8 (.slice none 0 0) :=
            ⟨HB8.out, K8.out.1, K8.out.2.1, OwnRows.nil _ _, K8.out.2.2.1, K8.out.2.2.2, F8.out, HENV8.out, ⟨by omega, by have := HLT7.out.mb; omega, by have := HLT7.out.xb; omega, by have := HLT7.out.vb; omega, by have := HLT7.out.kb; omega⟩, Nat.le_refl _, by omega, by omega, by omega, by omega⟩
          exact h8.learnt hl9 (by omega)
        have HI9 := Lib.hid hI9
        have hw06 : w.heap.size ≤ w6.heap.size := by omega
        clear hI9 hl9 hkm8 hB9 K8 F8 HENV8 HLT7 HB8 HW8 hv
        gi_wp2_with fail
        refine wpIn_loop_ghost (fun n a W => ∃ (j : Nat) (v : Value) (ds : List Deferred), ChInv m L sA cA mA sc cc mcap w w6.heap.size w8.heap.size w2.heap.size w4.heap.size w7.heap.size mb xb vb kb j W v ∧ Marks w8.heap.size W W.heap.size ds ∧ n = 41 - j ∧ (j : Int) ≤ m.years ∧
          Fits (fun u => { tmps := #[u 0, .pointer (some ⟨w.heap.size, 0, none⟩), .pointer (some ⟨w.heap.size + 1, 0, none⟩), .int .i64 (valS m (firstS m)), .bool false, .int .i64 0, u 6, .pointer (some ⟨w2.heap.size, 0, none⟩), .pointer (some ⟨w4.heap.size, 0, none⟩), u 9, u 10, .pointer (some ⟨w7.heap.size, 0, none⟩), u 12, u 13, u 14, u 15, u 16, u 17, u 18, u 19, u 20, u 21, u 22, u 23, u 24, u 25, u 26, u 27, u 28, u 29, u 30, u 31, u 32, u 33, u 34, u 35, u 36, u 37, u 38, u 39, u 40, u 41, u 42, u 43, u 44, u 45, u 46, u 47, u 48, u 49, u 50, u 51, u 52, u 53, u 54, u 55, u 56, u 57, u 58, u 59, u 60, u 61, u 62, u 63, u 64, u 65, u 66, u 67, u 68, u 69, u 70, u 71, u 72, u 73, u 74, u 75], defers := ds }) a) 41 ?start ?round
        case start => exact ⟨0, _, [], HI9.out, by show w8.heap.size ≤ _; omega, rfl, hm.years.1, rfl⟩
        case round =>
          rintro n a W ⟨j, v, ds, hinv, hmarks, rfl, hjy, hfit⟩
          obtain ⟨u, rfl⟩ := hfit.open_
          clear hfit HI9
          dsimp only
          have hch := chS_ok hm hvl j hjy
          obtain ⟨s0, s1, s2, s3, s4⟩ := blk5 hinv.st
          obtain ⟨x0, x1, x2, x3, x4⟩ := blk5 hinv.works
          obtain ⟨m0, m1, m2, m3, m4, m5⟩ := blk6 hinv.model
          have hle := hinv.le
          have hp1 := hinv.p1
          have hp2 := hinv.p2
          have hp3 := hinv.p3
          have hp4 := hinv.p4
          have hy40 := hm.years
          by_cases hlt : (j : Int) < m.years
          · have hyl : (chS m j).y < m.years := by rw [hch.y]; exact hlt
            have HI := Lib.hid hinv
            have HCHJ := Lib.hid hch
            clear hinv hch
            gi_wp2_with fail
            have hkm0 : ∃ es clock, W.heap[kb]? = some (.map es clock) := by obtain ⟨L0, hL0⟩ := HI.out.env.memo; exact hL0.map.obj
            refine wpIn_rangeRows m ⟨hm.some, hm.few⟩ hm.crafts sA cA mA sc m.crafts.length cc mcap rfl
              (fun _ k W' => Learnt m L kb 0 W W' ∧ ∀ r ∈ (rowsS m).take k, isBest m (chS m j) r = false)
              (fun B c _ W' => c = .exit 2 ∧ ∃ v', ChInv m L sA cA mA sc cc mcap w w6.heap.size w8.heap.size w2.heap.size w4.heap.size w7.heap.size mb xb vb kb (j + 1) W' v' ∧ OwnP (fun k => k < W.heap.size ∨ B ≤ k) W' w8.heap.size v' (planTo m (j + 1)) ∧ Marks w8.heap.size W' W.heap.size ds ∧ W.heap.size ≤ W'.heap.size)
              ?_ ?_ ?_ 12 ?assign ?body ?done ?stop
            case assign =>
              intro l rv W K hK
              gi_wp2_with fail
              simpa using hK
            · rintro B k W1 W2 hB ⟨h1, h2⟩ hbel
              exact ⟨h1.later (by have := HI.out.lt.kb; omega) hbel (fun j hj => hj.1), h2⟩
            · rintro B c k W1 W2 hB ⟨rfl, v', h1, h2, h3, h4⟩ hbel
              have hbw : Below W.heap.size W1 W2 := hbel.below h4 (fun k hk => hk.1)
              have hP : OwnP (fun k => k < W.heap.size ∨ B ≤ k) W2 w8.heap.size v' (planTo m (j + 1)) := h2.kept fun k cs t hp _ hc _ => hbel.block k (lt_blk hc) (fun hk => by rcases hp with hp | hp <;> have := hk.1 <;> have := hk.2 <;> omega)
              exact ⟨rfl, v', h1.kept (hbw.mono hle) hP.own, hP, h3.below hbw (Nat.le_refl _), Nat.le_trans h4 hbel.size⟩
            · intro B W1 hB hBW hbel
              exact ⟨Learnt.of_below hbel (by have := HI.out.lt.kb; omega), by simp⟩
            case done =>
              rintro B W' hB ⟨h1, h2⟩ hD
              have hp := (chS_pick HCHJ.out hlt).1
              rw [pickS_none h2] at hp
              cases hp
            case stop =>
              rintro B c k W' hB hk1 hk2 ⟨rfl, v', h1, h2, h3, h4⟩ hD
              have hmk := h3.push (Nat.le_refl _) hD (lt_blk hD)
              have HX := Lib.hid (And.intro h1 hmk)
              clear h1 h2 h3 h4 hD hmk m0 m1 m2 m3 m4 m5 s0 s1 s2 s3 s4 x0 x1 x2 x3 x4
              gi_wp2_with fail
              exact ⟨41 - (j + 1), by omega, j + 1, v', _, HX.out.1, HX.out.2, rfl, by omega, rfl⟩
            case body =>
              rintro l B k W3 rv row hB hBW hrow ⟨hl3, hno⟩ ⟨rA, rc, rfl, hrc⟩
              have hI3 := HI.out.learnt hl3 hw06
              have hrm : row ∈ rowsS m := List.mem_of_getElem? hrow
              have hro := (rowsS_mem hrm).1
              have hsT : chS m j ∈ L := HPERM.out.mem_iff.2 HCHJ.out.all
              have hso := HT.out.ok _ hsT
              have hz3 := hl3.1.size
              obtain ⟨a0, a1, a2, a3, a4⟩ := blk5 hI3.st
              obtain ⟨q0, q1, q2, q3, q4, q5⟩ := blk6 hI3.model
              have hstep := step_calls m (chS m j) (.slice cA m.crafts.length cc) _ _ rA rc row W3 hm hso hro (hI3.env.slopes.mono (by have := hI3.lt.n0; have := hI3.le; omega)) (hI3.env.crafts.mono (by have := hI3.lt.n0; have := hI3.le; omega)) (hrc.mono hBW)
              have HSTEP := Lib.hid hstep
              have HI3 := Lib.hid hI3
              have HRC := Lib.hid hrc
              have HROW := Lib.hid hrow
              have HNO := Lib.hid hno
              have HL3 := Lib.hid hl3
              clear hstep hI3 hrc hrow hno hl3 m0 m1 m2 m3 m4 m5 s0 s1 s2 s3 s4 x0 x1 x2 x3 x4
              gi_wp2_with (gi_at_call 24; refine (CallsIn.inRound l (callsIn_wide.2 HSTEP.out)).mono ?_; rintro e w10 ⟨rfl, hb10⟩)
              obtain ⟨W4, hW4⟩ : ∃ W4, W4 = w10.alloc (.cells #[.int .i64 (stepS m (chS m j) row).y, .int .i64 (stepS m (chS m j) row).a, .int .i64 (stepS m (chS m j) row).b, .int .i64 (stepS m (chS m j) row).c, .int .i64 (stepS m (chS m j) row).d] 79) := ⟨_, rfl⟩
              have hb34 : Below W3.heap.size W3 W4 := by rw [hW4]; exact hb10.trans ((below1 _ _).mono hb10.size)
              have t4 : W4.heap[w10.heap.size]? = some (.cells #[.int .i64 (stepS m (chS m j) row).y, .int .i64 (stepS m (chS m j) row).a, .int .i64 (stepS m (chS m j) row).b, .int .i64 (stepS m (chS m j) row).c, .int .i64 (stepS m (chS m j) row).d] 79 (0, 0)) := by rw [hW4]; exact heap_alloc_self _ _
              rw [← hW4]
              have hz10 := hb10.size
              have hlW : Learnt m L kb 0 W3 W4 := Learnt.of_below hb34 (by have := HI3.out.lt.kb; have := HI3.out.le; omega)
              have hI4 := HI3.out.learnt hlW hw06
              have hkm4 : ∃ es clock, W4.heap[kb]? = some (.map es clock) := by obtain ⟨L0, hL0⟩ := hI4.env.memo; exact hL0.map.obj
              have hz4 := hb34.size
              have hz4l := lt_blk t4
              clear hW4 hb10 a0 a1 a2 a3 a4 q0 q1 q2 q3 q4 q5
              have hns : ∀ b, isBest m (chS m j) row = b → isBest m (chS m j) row = b := fun _ h => h
              have hbq : isBest m (chS m j) row = (keptS m (chS m j) row && decide (costS m row + valS m (stepS m (chS m j) row) = valS m (chS m j))) := rfl
              have HBQ := Lib.hid hbq
              have hnx : keptS m (chS m j) row = true → stepS m (chS m j) row ∈ L := fun hk => HT.out.next _ hsT hyl row hrm hk
              have HNX := Lib.hid hnx
              have HLW := Lib.hid hlW
              have HI4 := Lib.hid hI4
              have HT4 := Lib.hid t4
              have HB34 := Lib.hid hb34
              have hskip : isBest m (chS m j) row = false → ∀ r ∈ (rowsS m).take (k + 1), isBest m (chS m j) r = false := by
                intro hb r hr
                rw [List.take_add_one, HROW.out] at hr
                rcases List.mem_append.1 hr with h1 | h1
                · exact HNO.out r h1
                · have : r = row := by simpa using h1
                  rw [this]; exact hb
              have HSKIP := Lib.hid hskip
              clear hbq hnx hlW hI4 t4 hb34 hskip hns
              generalize hkq : keptS m (chS m j) row = q at *
              have HKQ := Lib.hid hkq
              clear hkq
              cases q
              · refine wpIn_region_rg (Learnt m L kb 0) (fun _ => .fn) (by kernel_rfl) (fun _ => trivial) (by kernel_rfl) (Learnt.refl _ _ _ _) (fun _ _ _ h k => h.trans k) (fun _ => trivial) ?_
                iterate 2 (refine rg_step fun K hK => ?_; apply rg_fn rfl; (intro w4 hw; go_simp; try rfl); go_simp; (try with_reducible refine hK _ _ ?_); try clear hK K)
                iterate 11 (refine rg_step fun K hK => ?_; apply rg_skip rfl; go_simp; (try with_reducible refine hK _ _ ?_); try clear hK K)
                iterate 1 (refine rg_step fun K hK => ?_; apply rg_fn rfl; (intro w4 hw; go_simp; try rfl); go_simp; (try with_reducible refine hK _ _ ?_); try clear hK K)
                refine rg_nil ?_
                intro w5 hw5 _
                have HL5 := Lib.hid hw5.undrew
                clear hw5
                gi_wp2_with fail
                have hbW := HL3.out.trans (HLW.out.trans HL5.out)
                have hbW2 : Learnt m L kb 0 W3 w5 := HLW.out.trans HL5.out
                exact ⟨KeptMid.of_bel hbW2.1 hBW (fun i hi hm2 => by have := hm2.1; have := HI.out.lt.kb; omega), hbW, HSKIP.out (by rw [HBQ.out]; rfl)⟩
              · have hT2 := HNX.out rfl
                have hcb := costS_bd hm hro
                have hvb2 := valS_bd hm (stepS m (chS m j) row)
                have hadd : IntKind.i64.wrap (costS m row + valS m (stepS m (chS m j) row)) = costS m row + valS m (stepS m (chS m j) row) := IntWalk.i64_in _ (by omega)
                have hq : ∀ w5, Learnt m L kb 0 W4 w5 → _ := fun w5 hw5 => And.intro (blk6 (hw5.blk hkm4 HI4.out.model)) (And.intro (blk5 (hw5.blk hkm4 HT4.out)) (And.intro (blk5 (hw5.blk hkm4 HI4.out.st)) (show w5.cell? ⟨w7.heap.size, 0, none⟩ = some (.func (.func 55) #[] #[.pointer (some ⟨mb, 0, none⟩), .pointer (some ⟨xb, 0, none⟩), .pointer (some ⟨vb, 0, none⟩)]) by rw [cell_blk (hw5.blk hkm4 HI4.out.fval)]; rfl)))
                have hkm3 : ∃ es clock, W3.heap[kb]? = some (.map es clock) := by obtain ⟨L0, hL0⟩ := HI3.out.env.memo; exact hL0.map.obj
                have hcost := fun w5 (hw5 : Learnt m L kb 0 W4 w5) => cost_calls m (.slice sA m.slopes.length sc) (.slice cA m.crafts.length cc) (.slice mA m.crafts.length mcap) rA rc row w5 hm hro
                  ((HI4.out.learnt hw5 hw06).env.slopes.mono (by have := (HI4.out.learnt hw5 hw06).lt.n0; have := (HI4.out.learnt hw5 hw06).le; omega)) ((HI4.out.learnt hw5 hw06).env.crafts.mono (by have := (HI4.out.learnt hw5 hw06).lt.n0; have := (HI4.out.learnt hw5 hw06).le; omega))
                  ((HRC.out.learnt (HLW.out.trans hw5) hkm3 hBW).mono (by have := hw5.1.size; omega))
                have hval := fun w5 (hw5 : Learnt m L kb 0 W4 w5) (x : St) (hx : x ∈ L) => value_in m hm L HT.out w6.heap.size mb xb vb kb sA cA mA sc m.crafts.length cc mcap _ x w5 rfl hx (by have := (HI4.out.learnt hw5 hw06).lt.n0; have := (HI4.out.learnt hw5 hw06).le; omega) (HI4.out.learnt hw5 hw06).env
                have hys : (0 : Int) ≤ (chS m j).y := by rw [HCHJ.out.y]; omega
                have HQ := Lib.hid hq
                have HCOST := Lib.hid hcost
                have HVAL := Lib.hid hval
                have HADD := Lib.hid hadd
                have HT2 := Lib.hid hT2
                clear hq hcost hval hadd hT2 hcb hvb2 hkm3
                refine wpIn_region_rg (Learnt m L kb 0) (fun | 4 => .ex (.int .i64 (costS m row)) | 7 => .ex (.int .i64 (valS m (stepS m (chS m j) row))) | 11 => .ex (.int .i64 (valS m (chS m j))) | _ => .fn) (by kernel_rfl) (fun _ => trivial) (by kernel_rfl) (Learnt.refl _ _ _ _) (fun _ _ _ h k => h.trans k) (by intro i; split <;> trivial) ?_
                iterate 4 (refine rg_step fun K hK => ?_; apply rg_fn rfl; (intro w4 hw; obtain ⟨⟨q0, q1, q2, q3, q4, q5⟩, ⟨b0, b1, b2, b3, b4⟩, ⟨a0, a1, a2, a3, a4⟩, bv⟩ := HQ.out w4 hw.undrew; go_simp; try rfl); go_simp; (try with_reducible refine hK _ _ ?_); try clear hK K)
                refine rg_step fun K hK => ?_
                apply rg_call (.inr ⟨l, rfl⟩) rfl
                · intro w4 hw
                  go_simp
                  exact ⟨rfl, rfl⟩
                · intro w4 hw
                  refine (HCOST.out w4 hw.undrew).mono ?_
                  rintro e w5 ⟨he, hb⟩
                  exact ⟨he, Learnt.of_below hb (by have := (HI4.out.learnt hw.undrew hw06).lt.kb; have := (HI4.out.learnt hw.undrew hw06).le; omega)⟩
                go_simp
                (try with_reducible refine hK _ _ ?_)
                try clear hK K
                iterate 2 (refine rg_step fun K hK => ?_; apply rg_fn rfl; (intro w4 hw; obtain ⟨⟨q0, q1, q2, q3, q4, q5⟩, ⟨b0, b1, b2, b3, b4⟩, ⟨a0, a1, a2, a3, a4⟩, bv⟩ := HQ.out w4 hw.undrew; go_simp; try rfl); go_simp; (try with_reducible refine hK _ _ ?_); try clear hK K)
                refine rg_step fun K hK => ?_
                apply rg_call (.inr ⟨l, rfl⟩) rfl
                · intro w4 hw
                  go_simp
                  exact ⟨rfl, rfl⟩
                · intro w4 hw
                  refine (HVAL.out w4 hw.undrew _ HT2.out).mono ?_
                  rintro e w5 ⟨he, hb⟩
                  exact ⟨he, hb.mono (by rw [stepS_y]; omega)⟩
                go_simp
                (try with_reducible refine hK _ _ ?_)
                try clear hK K
                iterate 3 (refine rg_step fun K hK => ?_; apply rg_fn rfl; (intro w4 hw; have hadd := HADD.out; obtain ⟨⟨q0, q1, q2, q3, q4, q5⟩, ⟨b0, b1, b2, b3, b4⟩, ⟨a0, a1, a2, a3, a4⟩, bv⟩ := HQ.out w4 hw.undrew; go_simp; try rfl); go_simp; (try with_reducible refine hK _ _ ?_); try clear hK K)
                refine rg_step fun K hK => ?_
                apply rg_call (.inr ⟨l, rfl⟩) rfl
                · intro w4 hw
                  go_simp
                  exact ⟨rfl, rfl⟩
                · intro w4 hw
                  refine (HVAL.out w4 hw.undrew _ hsT).mono ?_
                  rintro e w5 ⟨he, hb⟩
                  exact ⟨he, hb.mono hys⟩
                go_simp
                (try with_reducible refine hK _ _ ?_)
                try clear hK K
                iterate 2 (refine rg_step fun K hK => ?_; apply rg_fn rfl; (intro w4 hw; go_simp; try rfl); go_simp; (try with_reducible refine hK _ _ ?_); try clear hK K)
                refine rg_nil ?_
                intro w5 hw5 _
                have hbW2 : Learnt m L kb 0 W3 w5 := HLW.out.trans hw5.undrew
                have hbW := HL3.out.trans hbW2
                have hI5 := HI4.out.learnt hw5.undrew hw06
                have t5 := hw5.undrew.blk hkm4 HT4.out
                have hz5 := hw5.undrew.1.size
                have hkm3 : ∃ es clock, W3.heap[kb]? = some (.map es clock) := by obtain ⟨L0, hL0⟩ := HI3.out.env.memo; exact hL0.map.obj
                have hrc5 := HRC.out.learnt hbW2 hkm3 hBW
                have HBW := Lib.hid hbW
                have HBW2 := Lib.hid hbW2
                have HI5 := Lib.hid hI5
                have HT5 := Lib.hid t5
                have HRC5 := Lib.hid hrc5
                clear hbW hbW2 hI5 t5 hrc5 hw5 HQ HCOST HVAL HI4 HT4 hkm4 hkm3
                by_cases hbe : costS m row + valS m (stepS m (chS m j) row) = valS m (chS m j)
                · have hbt : isBest m (chS m j) row = true := by rw [HBQ.out]; simp [hbe]
                  have HBT := Lib.hid hbt
                  have hbe2 : (costS m row + valS m (stepS m (chS m j) row) == valS m (chS m j)) = true := by simpa using hbe
                  clear hbt hbe
                  gi_wp2_with fail
                  have hq : ∀ w4, Grows w5 w4 → _ := fun w4 hw4 => (show w4.cell? ⟨w.heap.size + 1, 0, none⟩ = some v by rw [cell_blk (blk_below hw4 HI5.out.plan (lt_blk HI5.out.plan))]; rfl)
                  have HQ := Lib.hid hq
                  clear hq
                  refine wpIn_region_rg_tail 4 Grows (fun | 2 => .any sliceV (fun _ v w4 => w4.ownsRow w5.heap.size 3 1 v row.length (row.map (Value.int .i64))) | 3 => .any anyV (fun l v w4 => ∃ b, v = .slice (some ⟨b, 0, none⟩) 1 1 ∧ w4.heap[b]? = some (.cells l.toArray 41 (0, 0))) | _ => .fn) (by kernel_rfl) (fun _ => trivial) (by kernel_rfl) Grows.refl growsT
                    (by intro i; split <;> first | trivial | exact (fun l v w1 w2 h h1 => own_below h1 h (fun k hk => (own_blk_lt h1 k hk).2)) | exact (fun l v w1 w2 h ⟨b, h2, h3⟩ => ⟨b, h2, blk_below h h3 (lt_blk h3)⟩)) ?_
                  iterate 2 (refine rg_step fun K hK => ?_; apply rg_fn rfl; (intro w4 hw; have q4 := HQ.out w4 hw.undrew; go_simp; try rfl); go_simp; (try with_reducible refine hK _ _ ?_); try clear hK K)
                  refine rg_step fun K hK => ?_
                  apply rg_call_any (.inr ⟨l, rfl⟩) rfl
                  · intro w4 hw
                    go_simp
                    exact ⟨rfl, rfl⟩
                  · intro w4 hw
                    refine (clone_calls (.slice rA row.length rc) row w4 w4.heap.size ⟨rA, rc, rfl, (HRC5.out.below (hw.undrew.mono (by omega))).mono (by have := hw.undrew.size; omega)⟩ (by rw [hro.len]; have := hm.few; omega)).mono ?_
                    rintro e w6 ⟨v', he, ho, hb⟩
                    exact ⟨v', he, hb, own_slice ho, own_mono ho hw.undrew.size⟩
                  rintro v9 ⟨A9, n9, c9, rfl⟩
                  go_simp
                  (try with_reducible refine hK _ _ ?_)
                  try clear hK K
                  refine rg_step fun K hK => ?_
                  apply rg_any rfl
                  · intro w4 hw
                    refine ⟨.slice (some ⟨w4.heap.size, 0, none⟩) 1 1, w4.alloc (.cells #[.slice A9 n9 c9] 41), ?_, below1 _ _, trivial, ⟨_, rfl, heap_alloc_self _ _⟩⟩
                    go_simp
                    try rfl
                  rintro v10 _
                  go_simp
                  (try with_reducible refine hK _ _ ?_)
                  try clear hK K
                  refine rg_nil ?_
                  rintro w12 hw12 ⟨hown9, b, rfl, hblk⟩
                  replace hblk : w12.heap[b]? = some (.cells #[.slice A9 n9 c9] 41 (0, 0)) := hblk
                  replace hw12 := hw12.undrew
                  have hz12 := hw12.size
                  have hI12 := HI5.out.kept (hw12.mono (by have := HI5.out.le; omega)) (HI5.out.rows.below hw12)
                  have t12 := blk_below hw12 HT5.out (by have := HBW2.out.1.size; omega)
                  -- the rows of the plan, and where they lie
                  have hPW := HI.out.rows.toP.imp (q := fun k => k < W.heap.size ∨ B ≤ k) (fun k hk => .inl hk.2)
                  have hP5 : OwnP (fun k => k < W.heap.size ∨ B ≤ k) w5 w8.heap.size v (planTo m j) := hPW.kept fun k cs t _ _ hc _ => (HBW.out.blk hkm0 hc).trans hc.symm
                  obtain ⟨vs, hv1, hv2, hv3⟩ := hP5.below hw12
                  rw [planTo_length] at hv1
                  have hvW : ∀ i, v.ownBlock = some i → i < W.heap.size := fun i hi => by
                    obtain ⟨vs', hv', _⟩ := HI.out.rows
                    exact (own_blk_lt hv' i hi).2
                  have hle12 := hI12.le
                  have HI12 := Lib.hid hI12
                  have HT12 := Lib.hid t12
                  have HV := Lib.hid (And.intro hv2 (And.intro hv3 hvW))
                  have HO9 := Lib.hid (own_mono hown9 (show w8.heap.size ≤ w5.heap.size by omega))
                  have HW12 := Lib.hid hw12
                  clear hI12 t12 hPW hP5 hv2 hv3 hvW hw12 HQ
                  have H9 := Lib.hid hown9
                  clear hown9
                  obtain ⟨A4, n4, c4, rfl⟩ := own_slice hv1
                  simp only [List.drop_succ_cons, List.drop_zero]
                  refine wpListIn_app2 w8.heap.size _ _ 50 41 (.slice none 0 0) 1 24 [.slice A9 n9 c9] (by rfl) (by rfl) Try.underlying50 infoRow rfl (by decide) (by decide) (.slice A4 n4 c4) j vs (by rfl) b (by rfl) hblk rfl (by simp [Value.oneCell']) hv1 (by omega) hle12 ?_
                  intro v11 w13 hown11 hg13 hat13 hb13
                  obtain ⟨A11, n11, c11, rfl⟩ := own_slice hown11
                  have kpl := blk_below hb13 HI12.out.plan (by omega)
                  have kst := blk_below hb13 HI12.out.st (by omega)
                  have kt : w13.heap[w10.heap.size]? = _ := (hg13.block w10.heap.size (lt_blk HT12.out) (fun e => by
                    obtain ⟨cur, hc⟩ := own_type hv1 _ e.symm
                    rw [HT12.out] at hc
                    simp at hc)).trans HT12.out
                  have cpl : w13.cell? ⟨w.heap.size + 1, 0, none⟩ = some (.slice A4 n4 c4) := (by rw [cell_blk kpl]; rfl)
                  have fpl := frozen_blk kpl 0
                  obtain ⟨a0, a1, a2, a3, a4⟩ := blk5 kst
                  obtain ⟨b0, b1, b2, b3, b4⟩ := blk5 kt
                  have fs0 := frozen_blk kst 0
                  have fs1 := frozen_blk kst 1
                  have fs2 := frozen_blk kst 2
                  have fs3 := frozen_blk kst 3
                  have fs4 := frozen_blk kst 4
                  have hz13 := hb13.size
                  have ne1 : ¬ w4.heap.size = w.heap.size + 1 := by omega
                  have ne2 : ¬ w.heap.size + 1 = w4.heap.size := by omega
                  have ne3 : ¬ w10.heap.size = w.heap.size + 1 := by omega
                  have ne4 : ¬ w.heap.size + 1 = w10.heap.size := by omega
                  have HX := Lib.hid (And.intro hown11 (And.intro hg13 (And.intro hat13 hb13)))
                  clear kpl kst kt hown11 hg13 hat13 hb13
                  gi_wp2_with fail
                  rw [← z8]
                  obtain ⟨hown11, hg13, hat13, hb13⟩ := HX.out
                  obtain ⟨hv2, hv3, hvW⟩ := HV.out
                  have hpick := pickS_first HROW.out HNO.out HBT.out
                  have hnext : chS m (j + 1) = stepS m (chS m j) row := by rw [chS, hpick]
                  have hpk : pkS m j = row := by unfold pkS; rw [hpick]; rfl
                  have hrows : OwnP (fun k => k < W.heap.size ∨ B ≤ k) w13 w8.heap.size (.slice A11 n11 c11) (planTo m (j + 1)) := by
                    rw [planTo_succ, hpk]
                    exact OwnP.snoc (by rw [planTo_length]; exact hv1) hv2 hv3 HO9.out (fun i hi => .inr (by have := (own_blk_lt H9.out i hi).1; omega)) (by rw [planTo_length]; exact hown11) hg13 hat13 (fun i hi => .inr (by omega))
                  have hI13 := HI12.out.push hb13 hrows.own HSL.out hw06 (stepS m (chS m j) row) hnext.symm
                  have hPf := hrows.kept (w' := stored w13 w.heap.size w4.heap.size (.slice A11 n11 c11) (stepS m (chS m j) row)) (fun i cs t hp hB _ _ => stored_other _ _ _ _ _ i (by omega) (by omega))
                  have mk5 := hmarks.bel HBW.out.1 (fun i h1 h2 e => by have := HI.out.lt.kb; omega)
                  have mk12 := mk5.below HW12.out (by omega)
                  have mk13 : Marks w8.heap.size w13 W.heap.size ds := mk12.kept fun i h1 h2 hk => (hg13.block i (lt_blk hk) (fun e => by
                    obtain ⟨cur, hc⟩ := own_type hv1 _ e.symm
                    rw [hk] at hc
                    simp at hc)).trans hk
                  have mkf : Marks w8.heap.size (stored w13 w.heap.size w4.heap.size (.slice A11 n11 c11) (stepS m (chS m j) row)) W.heap.size ds := mk13.kept fun i h1 h2 hk => (stored_other _ _ _ _ _ i (by omega) (by omega)).trans hk
                  have hw5B : B ≤ w5.heap.size := by omega
                  have hzf : (stored w13 w.heap.size w4.heap.size (.slice A11 n11 c11) (stepS m (chS m j) row)).heap.size = w13.heap.size := stored_size _ _ _ _ _
                  have hw13 := hg13.size
                  have hkm : KeptMid W.heap.size B W3 (stored w13 w.heap.size w4.heap.size (.slice A11 n11 c11) (stepS m (chS m j) row)) := by
                    refine ⟨by omega, fun i hi => ?_⟩
                    have hi1 := hi.1
                    have hi2 := hi.2
                    refine (stored_other _ _ _ _ _ i (by omega) (by omega)).trans ((hg13.block i (by omega) (fun e => ?_)).trans ((HW12.out.block i (by omega)).trans (HBW2.out.1.block i (by omega) (fun e => ?_))))
                    · have := hvW i e.symm; omega
                    · have := HI.out.lt.kb; omega
                  have hsz : W.heap.size ≤ (stored w13 w.heap.size w4.heap.size (.slice A11 n11 c11) (stepS m (chS m j) row)).heap.size := by omega
                  exact ⟨hkm, rfl, .slice A11 n11 c11, hI13, hPf, mkf, hsz⟩
                · have hbf : isBest m (chS m j) row = false := by rw [HBQ.out]; simp [hbe]
                  have HBF := Lib.hid hbf
                  have hbe2 : (costS m row + valS m (stepS m (chS m j) row) == valS m (chS m j)) = false := by simpa using hbe
                  clear hbf
                  gi_wp2_with fail
                  exact ⟨KeptMid.of_bel HBW2.out.1 hBW (fun i hi hm2 => by have := hm2.1; have := HI.out.lt.kb; omega), HBW.out, HSKIP.out HBF.out⟩
          · have hyl : ¬ (chS m j).y < m.years := by rw [hch.y]; exact hlt
            have HI := Lib.hid hinv
            have HCHJ := Lib.hid hch
            have hch2 : cheapS m = (planTo m j, valS m (firstS m), true, 0) := by
              unfold cheapS planS
              rw [if_pos HCK.out, if_neg (by have := HFEW.out; omega), if_neg (by omega), show m.years.toNat = j by omega]
            have HCH := Lib.hid hch2
            obtain ⟨vs, hv1, _⟩ := id hinv.rows
            obtain ⟨A11, n11, c11, rfl⟩ := own_slice hv1
            have c1 : W.cell? ⟨w.heap.size + 1, 0, none⟩ = some (.slice A11 n11 c11) := by rw [cell_blk hinv.plan]; rfl
            have f1 := frozen_blk hinv.plan 0
            have HSM := Lib.hid (setCell_same (i := 0) (v := .slice A11 n11 c11) hinv.plan rfl)
            clear hinv hch hch2 hv1 m0 m1 m2 m3 m4 m5 x0 x1 x3 x4 s1 s2 s3 s4
            gi_wp2_with fail
            rw [HSM.out]
            refine bodyPostM_ret hmarks fun w' hw' => ?_
            have d1 : w'.cell? ⟨w.heap.size + 1, 0, none⟩ = some (.slice A11 n11 c11) := by rw [cell_blk (hw'.cells HI.out.plan)]; rfl
            have hr : RowsAt w' w'.heap.size (.slice A11 n11 c11) (planTo m j) := by
              refine (HI.out.rows.kept fun k cs t _ hc _ => (hw'.cells hc).trans hc.symm).rows (by rw [planTo_length]; omega) (fun xs hx => ?_)
              obtain ⟨i, hi⟩ := List.getElem?_of_mem hx
              have hil := (List.getElem?_eq_some_iff.1 hi).1
              rw [planTo_length] at hil
              have : xs = pkS m i := by
                have h := hi
                unfold planTo at h
                rw [List.getElem?_map, List.getElem?_range hil] at h
                simpa using h.symm
              rw [this, (rowsS_mem (chS_pick (chS_ok hm hvl i (by omega)) (by omega)).2.1).1.len]
              have := hm.few
              omega
            exact ⟨.tuple #[.slice A11 n11 c11, .int .i64 (valS m (firstS m)), .bool true, .int .i64 0], by simp [results, Try.results8, go_sem, d1], _, by rw [HCH.out], by rw [HCH.out]; exact hr, HI.out.below.trans (hw'.below (by omega) hle)⟩
  · have hne : (checkS m != 0) = true := by simpa using hc
    have hne2 : (!(checkS m == 0)) = true := by simpa using hc
    have hch : cheapS m = ([], 0, false, checkS m) := by unfold cheapS; rw [if_neg hc]
    have HCH := Lib.hid hch
    clear hch hc
    gi_wp2_with fail
    rw [← HW0.out]
    refine (callsIn_wide.2 HCHK.out).mono ?_
    rintro e w1 ⟨rfl, hb1⟩
    obtain ⟨g0, g1⟩ := HG.out
    have k1 := blk_below hb1 g1 (by omega)
    have z1 := hb1.size
    have HB1 := Lib.hid (HB0.out.trans (hb1.mono (by omega)))
    have c1 : w1.cell? ⟨w.heap.size + 1, 0, none⟩ = some (.slice none 0 0) := by rw [cell_blk k1]; rfl
    have f1 := frozen_blk k1 0
    have K1 := Lib.hid k1
    have HSM := Lib.hid (setCell_same (i := 0) (v := .slice none 0 0) k1 rfl)
    clear k1 hb1 g0 g1
    gi_wp2_with fail
    rw [HSM.out]
    refine bodyPostM_ret (b := w1.heap.size) (hi := w1.heap.size) (ds := []) (Nat.le_refl _) fun w' hw' => ?_
    have d1 : w'.cell? ⟨w.heap.size + 1, 0, none⟩ = some (.slice none 0 0) := by rw [cell_blk (hw'.cells K1.out)]; rfl
    exact ⟨.tuple #[.slice none 0 0, .int .i64 0, .bool false, .int .i64 (checkS m)], by simp [results, Try.results8, go_sem, d1], .slice none 0 0, by rw [HCH.out], by rw [HCH.out]; exact RowsAt.nil _ _, HB1.out.trans (hw'.below (by omega) (Nat.le_refl _))⟩
end Go.Proofs.Ytnbnhcoaggpmaaa
