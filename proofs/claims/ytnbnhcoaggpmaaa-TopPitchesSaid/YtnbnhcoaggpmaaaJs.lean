/- TopPitches: the steeper face first. -/
import Derived.Test.YtnbnhcoaggpmaaaJr

namespace Go.Proofs.Ytnbnhcoaggpmaaa
open Go Go.RowKit Go.Shelf
set_option maxRecDepth 100000
attribute [local go_sem] Oper.semAt_some

theorem set7 {W : World} {b : Nat} {q : FaceS} {c0 : Value} (h : W.heap[b]? = some (faceO q c0)) (p : FaceS) (c : Value) :
    (((((((W.setCell ⟨b, 0, none⟩ (.string p.name)).setCell ⟨b, 1, none⟩ (.int .i64 p.side)).setCell ⟨b, 2, none⟩ (.int .i64 p.foot)).setCell ⟨b, 3, none⟩ (.int .i64 p.base)).setCell ⟨b, 4, none⟩ (.int .i64 p.rise)).setCell ⟨b, 5, none⟩ (.int .i64 p.run)).setCell ⟨b, 6, none⟩ (c)).heap[b]? = some (faceO p c) ∧ (∀ j, j ≠ b → (((((((W.setCell ⟨b, 0, none⟩ (.string p.name)).setCell ⟨b, 1, none⟩ (.int .i64 p.side)).setCell ⟨b, 2, none⟩ (.int .i64 p.foot)).setCell ⟨b, 3, none⟩ (.int .i64 p.base)).setCell ⟨b, 4, none⟩ (.int .i64 p.rise)).setCell ⟨b, 5, none⟩ (.int .i64 p.run)).setCell ⟨b, 6, none⟩ (c)).heap[j]? = W.heap[j]?) ∧ (((((((W.setCell ⟨b, 0, none⟩ (.string p.name)).setCell ⟨b, 1, none⟩ (.int .i64 p.side)).setCell ⟨b, 2, none⟩ (.int .i64 p.foot)).setCell ⟨b, 3, none⟩ (.int .i64 p.base)).setCell ⟨b, 4, none⟩ (.int .i64 p.rise)).setCell ⟨b, 5, none⟩ (.int .i64 p.run)).setCell ⟨b, 6, none⟩ (c)).heap.size = W.heap.size ∧ ∀ n, n ≤ b → Below n W (((((((W.setCell ⟨b, 0, none⟩ (.string p.name)).setCell ⟨b, 1, none⟩ (.int .i64 p.side)).setCell ⟨b, 2, none⟩ (.int .i64 p.foot)).setCell ⟨b, 3, none⟩ (.int .i64 p.base)).setCell ⟨b, 4, none⟩ (.int .i64 p.rise)).setCell ⟨b, 5, none⟩ (.int .i64 p.run)).setCell ⟨b, 6, none⟩ (c)) := by
  have ho : ∀ (w : World) (i : Nat) (v : Value) (j : Nat), j ≠ b → (w.setCell ⟨b, i, none⟩ v).heap[j]? = w.heap[j]? := fun w i v j h => Below.heap_setCell _ _ _ _ h
  refine ⟨?_, fun j hj => ?_, by simp [World.setCell], fun n hn => ?_⟩
  · unfold faceO at h ⊢
    rw [heap_set (heap_set (heap_set (heap_set (heap_set (heap_set (heap_set h 0 _) 1 _) 2 _) 3 _) 4 _) 5 _) 6 _]; rfl
  · rw [ho _ _ _ _ hj, ho _ _ _ _ hj, ho _ _ _ _ hj, ho _ _ _ _ hj, ho _ _ _ _ hj, ho _ _ _ _ hj, ho _ _ _ _ hj]
  · exact (((((((Below.refl n W).setCell (p := ⟨b, 0, none⟩) hn _).setCell (p := ⟨b, 1, none⟩) hn _).setCell (p := ⟨b, 2, none⟩) hn _).setCell (p := ⟨b, 3, none⟩) hn _).setCell (p := ⟨b, 4, none⟩) hn _).setCell (p := ⟨b, 5, none⟩) hn _).setCell (p := ⟨b, 6, none⟩) hn _
theorem PitS.swap {w V : World} {b15 b16 : Nat} {x y : FaceS} {cx cy : Value} {lo hi : Int} (h : PitS w b15 b16 x y cx cy lo hi V) : PitS w b15 b16 y x cy cx lo hi ((((((((((((((V.setCell ⟨b15, 0, none⟩ (.string y.name)).setCell ⟨b15, 1, none⟩ (.int .i64 y.side)).setCell ⟨b15, 2, none⟩ (.int .i64 y.foot)).setCell ⟨b15, 3, none⟩ (.int .i64 y.base)).setCell ⟨b15, 4, none⟩ (.int .i64 y.rise)).setCell ⟨b15, 5, none⟩ (.int .i64 y.run)).setCell ⟨b15, 6, none⟩ (cy)).setCell ⟨b16, 0, none⟩ (.string x.name)).setCell ⟨b16, 1, none⟩ (.int .i64 x.side)).setCell ⟨b16, 2, none⟩ (.int .i64 x.foot)).setCell ⟨b16, 3, none⟩ (.int .i64 x.base)).setCell ⟨b16, 4, none⟩ (.int .i64 x.rise)).setCell ⟨b16, 5, none⟩ (.int .i64 x.run)).setCell ⟨b16, 6, none⟩ (cx)) := by
  obtain ⟨s1, s2, s3, s4⟩ := set7 h.bx y cy
  have hlw := h.low
  have h16 := (s2 b16 (fun e => h.ne e.symm)).trans h.by_
  obtain ⟨t1, t2, t3, t4⟩ := set7 h16 x cx
  exact ⟨(h.below.trans (s4 _ (by omega))).trans (t4 _ (by omega)), (t2 _ (by omega)).trans ((s2 _ (by omega)).trans h.clim), (t2 _ h.ne).trans s1, t1, h.ne, h.low⟩
set_option maxHeartbeats 16000000 in
theorem rest_wp {body : Code} (hbody : Func.body Try.f3 = some body) (w V : World) (F O A B : Option Addr) (n fc m oc i j b15 b16 thick need years nA nB c d : Nat) (lo hi : Int) (x y : FaceS) (hS : PitS w b15 b16 x y (.slice A nA c) (.slice B nB d) lo hi V) (hx : RunOk x) (hy : RunOk y) (ht16 : thick ≤ 65535) (hn16 : need ≤ 65535) (hy8 : years ≤ 255)
    (a : Act) (ha : Fits (frP w F O n fc m oc i j b15 b16 thick need years lo hi) a) : Code.wp Try.prog (seqTail (seqTail (seqTail body))) (bodyPost Try.prog Try.f3 (TrueP w)) a V := by
  have hbd := hbody
  obtain ⟨u, rfl⟩ := ha.open_
  clear ha
  cases hbody
  simp only [seqTail, frP]
  have HS := Lib.hid hS
  have HSW := Lib.hid hS.swap
  obtain ⟨x0, x1, x2, x3, x4, x5, x6⟩ : (V.cell? ⟨b15, 0, none⟩ = some (.string x.name) ∧ V.cell? ⟨b15, 1, none⟩ = some (.int .i64 x.side) ∧ V.cell? ⟨b15, 2, none⟩ = some (.int .i64 x.foot) ∧ V.cell? ⟨b15, 3, none⟩ = some (.int .i64 x.base) ∧ V.cell? ⟨b15, 4, none⟩ = some (.int .i64 x.rise) ∧ V.cell? ⟨b15, 5, none⟩ = some (.int .i64 x.run) ∧ V.cell? ⟨b15, 6, none⟩ = some (.slice A nA c)) :=
    ⟨(cell_blk hS.bx 0).trans rfl, (cell_blk hS.bx 1).trans rfl, (cell_blk hS.bx 2).trans rfl, (cell_blk hS.bx 3).trans rfl, (cell_blk hS.bx 4).trans rfl, (cell_blk hS.bx 5).trans rfl, (cell_blk hS.bx 6).trans rfl⟩
  obtain ⟨y0, y1, y2, y3, y4, y5, y6⟩ : (V.cell? ⟨b16, 0, none⟩ = some (.string y.name) ∧ V.cell? ⟨b16, 1, none⟩ = some (.int .i64 y.side) ∧ V.cell? ⟨b16, 2, none⟩ = some (.int .i64 y.foot) ∧ V.cell? ⟨b16, 3, none⟩ = some (.int .i64 y.base) ∧ V.cell? ⟨b16, 4, none⟩ = some (.int .i64 y.rise) ∧ V.cell? ⟨b16, 5, none⟩ = some (.int .i64 y.run) ∧ V.cell? ⟨b16, 6, none⟩ = some (.slice B nB d)) :=
    ⟨(cell_blk hS.by_ 0).trans rfl, (cell_blk hS.by_ 1).trans rfl, (cell_blk hS.by_ 2).trans rfl, (cell_blk hS.by_ 3).trans rfl, (cell_blk hS.by_ 4).trans rfl, (cell_blk hS.by_ 5).trans rfl, (cell_blk hS.by_ 6).trans rfl⟩
  have fx := frozen_blk hS.bx
  have fy := frozen_blk hS.by_
  have hne := hS.ne
  have hne' : b16 ≠ b15 := fun e => hne e.symm
  clear hS
  obtain ⟨⟨r1, r2⟩, r3, r4⟩ := id hx
  obtain ⟨⟨s1, s2⟩, s3, s4⟩ := id hy
  have hp1 : x.rise * y.run ≤ 100 * 100 := Int.mul_le_mul (by omega) (by omega) (by omega) (by omega)
  have hp10 : 0 ≤ x.rise * y.run := Int.mul_nonneg (by omega) (by omega)
  have hp2 : y.rise * x.run ≤ 100 * 100 := Int.mul_le_mul (by omega) (by omega) (by omega) (by omega)
  have hp20 : 0 ≤ y.rise * x.run := Int.mul_nonneg (by omega) (by omega)
  have hle : x.rise * y.run < y.rise * x.run → x.rise * y.run ≤ y.rise * x.run := fun h => by omega
  have hge : ¬ x.rise * y.run < y.rise * x.run → y.rise * x.run ≤ x.rise * y.run := fun h => by omega
  have HLE := Lib.hid (And.intro hle hge)
  obtain ⟨P1, hP1⟩ : ∃ P, x.rise * y.run = P := ⟨_, rfl⟩
  obtain ⟨P2, hP2⟩ : ∃ P, y.rise * x.run = P := ⟨_, rfl⟩
  rw [hP1] at hp1 hp10
  rw [hP2] at hp2 hp20
  have HPP := Lib.hid (And.intro hP1 hP2)
  clear hle hge r1 r2 r3 r4 s1 s2 s3 s4
  refine wp_opaque1 ?_
  intro C hC
  have HC := Lib.hid hC
  clear hC
  by_cases hlt : P1 < P2
  · go_wp2_with fail
    have hP := HPP.out
    rw [HC.out]
    exact rest2_wp hbd w _ F O n fc m oc i j b15 b16 thick need years lo hi y x _ _ HSW.out hy hx (HLE.out.1 (by rw [hP.1, hP.2]; exact hlt)) ht16 hn16 hy8 _ rfl
  · go_wp2_with fail
    have hP := HPP.out
    rw [HC.out]
    exact rest2_wp hbd w _ F O n fc m oc i j b15 b16 thick need years lo hi x y _ _ HS.out hx hy (HLE.out.2 (by rw [hP.1, hP.2]; omega)) ht16 hn16 hy8 _ rfl
end Go.Proofs.Ytnbnhcoaggpmaaa
