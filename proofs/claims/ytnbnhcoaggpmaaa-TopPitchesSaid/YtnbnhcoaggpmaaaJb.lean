/- Roofs: what their arguments hold, and searches through them. -/
import Derived.Test.YtnbnhcoaggpmaaaJa

namespace Go.Proofs.Ytnbnhcoaggpmaaa
open Go Go.RowKit Go.Shelf
set_option maxRecDepth 100000
attribute [local go_sem] Oper.semAt_some

structure FaceS where
  name : ByteArray
  side : Int
  foot : Int
  base : Int
  rise : Int
  run : Int
  corners : List (Int × Int)
structure OpenS where
  name : ByteArray
  face : Int
  lx : Int
  ly : Int
  hx : Int
  hy : Int
def AtsAt (w : World) (n0 : Nat) (v : Value) (ps : List (Int × Int)) : Prop := ∃ A c, v = .slice A ps.length c ∧ ps.length ≤ 9223372036854775807 ∧ ps.length ≤ c ∧
  (ps ≠ [] → ∃ b o, A = some ⟨b, o, none⟩ ∧ b < n0 ∧ ∀ (i : Nat) p, ps[i]? = some p → w.cell? ⟨b, o + i * 2, none⟩ = some (.int .i64 p.1) ∧ w.cell? ⟨b, o + i * 2 + 1, none⟩ = some (.int .i64 p.2))
theorem AtsAt.below {w w' : World} {n0 : Nat} {v : Value} {ps : List (Int × Int)} (h : AtsAt w n0 v ps) (hb : Below n0 w w') : AtsAt w' n0 v ps := by
  obtain ⟨A, c, e, h1, h2, h3⟩ := h
  refine ⟨A, c, e, h1, h2, fun hn => ?_⟩
  obtain ⟨b, o, e1, hlt, hc⟩ := h3 hn
  exact ⟨b, o, e1, hlt, fun i p hp => ⟨(hb.cell (p := ⟨b, o + i * 2, none⟩) hlt).trans (hc i p hp).1, (hb.cell (p := ⟨b, o + i * 2 + 1, none⟩) hlt).trans (hc i p hp).2⟩⟩
theorem AtsAt.mono {w : World} {n0 n1 : Nat} {v : Value} {ps : List (Int × Int)} (h : AtsAt w n0 v ps) (hn : n0 ≤ n1) : AtsAt w n1 v ps := by
  obtain ⟨A, c, e, h1, h2, h3⟩ := h
  refine ⟨A, c, e, h1, h2, fun hne => ?_⟩
  obtain ⟨b, o, e1, hlt, hc⟩ := h3 hne
  exact ⟨b, o, e1, by omega, hc⟩
theorem AtsAt.take {w : World} {n0 : Nat} {A : Option Addr} {n c : Nat} {ps : List (Int × Int)} (h : AtsAt w n0 (.slice A n c) ps) (k : Nat) (hk : k ≤ ps.length) : AtsAt w n0 (.slice A k c) (ps.take k) := by
  obtain ⟨A', c', e, h1, h2, h3⟩ := h
  simp only [Value.slice.injEq] at e
  obtain ⟨rfl, rfl, rfl⟩ := e
  have hl : (ps.take k).length = k := by rw [List.length_take]; omega
  refine ⟨A, c, by rw [hl], by omega, by omega, fun hne => ?_⟩
  obtain ⟨b, o, e1, hlt, hc⟩ := h3 (fun e => hne (by rw [e]; simp))
  refine ⟨b, o, e1, hlt, fun i p hp => ?_⟩
  rw [List.getElem?_take] at hp
  split at hp
  · exact hc i p hp
  · cases hp
def FaceCells (w : World) (b o : Nat) (n0 : Nat) (p : FaceS) : Prop := w.cell? ⟨b, o, none⟩ = some (.string p.name) ∧ w.cell? ⟨b, o + 1, none⟩ = some (.int .i64 p.side) ∧ w.cell? ⟨b, o + 2, none⟩ = some (.int .i64 p.foot) ∧ w.cell? ⟨b, o + 3, none⟩ = some (.int .i64 p.base) ∧
  w.cell? ⟨b, o + 4, none⟩ = some (.int .i64 p.rise) ∧ w.cell? ⟨b, o + 5, none⟩ = some (.int .i64 p.run) ∧ ∃ cv, w.cell? ⟨b, o + 6, none⟩ = some cv ∧ AtsAt w n0 cv p.corners
theorem FaceCells.below {w w' : World} {b o n0 : Nat} {p : FaceS} (h : FaceCells w b o n0 p) (hb : Below n0 w w') (hlt : b < n0) : FaceCells w' b o n0 p := by
  obtain ⟨h0, h1, h2, h3, h4, h5, cv, h6, h7⟩ := h
  have hc : ∀ i, w'.cell? ⟨b, i, none⟩ = w.cell? ⟨b, i, none⟩ := fun i => hb.cell (p := ⟨b, i, none⟩) hlt
  exact ⟨(hc _).trans h0, (hc _).trans h1, (hc _).trans h2, (hc _).trans h3, (hc _).trans h4, (hc _).trans h5, cv, (hc _).trans h6, h7.below hb⟩
theorem FaceCells.mono {w : World} {b o n0 n1 : Nat} {p : FaceS} (h : FaceCells w b o n0 p) (hn : n0 ≤ n1) : FaceCells w b o n1 p := by
  obtain ⟨h0, h1, h2, h3, h4, h5, cv, h6, h7⟩ := h
  exact ⟨h0, h1, h2, h3, h4, h5, cv, h6, h7.mono hn⟩
def OpenCells (w : World) (b o : Nat) (_n0 : Nat) (p : OpenS) : Prop := w.cell? ⟨b, o, none⟩ = some (.string p.name) ∧ w.cell? ⟨b, o + 1, none⟩ = some (.int .i64 p.face) ∧ w.cell? ⟨b, o + 2, none⟩ = some (.int .i64 p.lx) ∧ w.cell? ⟨b, o + 3, none⟩ = some (.int .i64 p.ly) ∧
  w.cell? ⟨b, o + 4, none⟩ = some (.int .i64 p.hx) ∧ w.cell? ⟨b, o + 5, none⟩ = some (.int .i64 p.hy)
theorem OpenCells.below {w w' : World} {b o n0 : Nat} {p : OpenS} (h : OpenCells w b o n0 p) (hb : Below n0 w w') (hlt : b < n0) : OpenCells w' b o n0 p := by
  obtain ⟨h0, h1, h2, h3, h4, h5⟩ := h
  have hc : ∀ i, w'.cell? ⟨b, i, none⟩ = w.cell? ⟨b, i, none⟩ := fun i => hb.cell (p := ⟨b, i, none⟩) hlt
  exact ⟨(hc _).trans h0, (hc _).trans h1, (hc _).trans h2, (hc _).trans h3, (hc _).trans h4, (hc _).trans h5⟩
theorem OpenCells.mono {w : World} {b o n0 n1 : Nat} {p : OpenS} (h : OpenCells w b o n0 p) (_ : n0 ≤ n1) : OpenCells w b o n1 p := h
def FacesAt (w : World) (n0 : Nat) (v : Value) (ps : List FaceS) : Prop := ∃ A c, v = .slice A ps.length c ∧ ps.length ≤ 9223372036854775807 ∧ ps.length ≤ c ∧
  (ps ≠ [] → ∃ b o, A = some ⟨b, o, none⟩ ∧ b < n0 ∧ ∀ (i : Nat) p, ps[i]? = some p → FaceCells w b (o + i * 7) n0 p)
theorem FacesAt.below {w w' : World} {n0 : Nat} {v : Value} {ps : List FaceS} (h : FacesAt w n0 v ps) (hb : Below n0 w w') : FacesAt w' n0 v ps := by
  obtain ⟨A, c, e, h1, h2, h3⟩ := h
  refine ⟨A, c, e, h1, h2, fun hn => ?_⟩
  obtain ⟨b, o, e1, hlt, hc⟩ := h3 hn
  exact ⟨b, o, e1, hlt, fun i p hp => (hc i p hp).below hb hlt⟩
theorem FacesAt.mono {w : World} {n0 n1 : Nat} {v : Value} {ps : List FaceS} (h : FacesAt w n0 v ps) (hn : n0 ≤ n1) : FacesAt w n1 v ps := by
  obtain ⟨A, c, e, h1, h2, h3⟩ := h
  refine ⟨A, c, e, h1, h2, fun hne => ?_⟩
  obtain ⟨b, o, e1, hlt, hc⟩ := h3 hne
  exact ⟨b, o, e1, by omega, fun i p hp => (hc i p hp).mono hn⟩
theorem FacesAt.take {w : World} {n0 : Nat} {A : Option Addr} {n c : Nat} {ps : List FaceS} (h : FacesAt w n0 (.slice A n c) ps) (k : Nat) (hk : k ≤ ps.length) : FacesAt w n0 (.slice A k c) (ps.take k) := by
  obtain ⟨A', c', e, h1, h2, h3⟩ := h
  simp only [Value.slice.injEq] at e
  obtain ⟨rfl, rfl, rfl⟩ := e
  have hl : (ps.take k).length = k := by rw [List.length_take]; omega
  refine ⟨A, c, by rw [hl], by omega, by omega, fun hne => ?_⟩
  obtain ⟨b, o, e1, hlt, hc⟩ := h3 (fun e => hne (by rw [e]; simp))
  refine ⟨b, o, e1, hlt, fun i p hp => ?_⟩
  rw [List.getElem?_take] at hp
  split at hp
  · exact hc i p hp
  · cases hp
def OpensAt (w : World) (n0 : Nat) (v : Value) (ps : List OpenS) : Prop := ∃ A c, v = .slice A ps.length c ∧ ps.length ≤ 9223372036854775807 ∧ ps.length ≤ c ∧
  (ps ≠ [] → ∃ b o, A = some ⟨b, o, none⟩ ∧ b < n0 ∧ ∀ (i : Nat) p, ps[i]? = some p → OpenCells w b (o + i * 6) n0 p)
theorem OpensAt.below {w w' : World} {n0 : Nat} {v : Value} {ps : List OpenS} (h : OpensAt w n0 v ps) (hb : Below n0 w w') : OpensAt w' n0 v ps := by
  obtain ⟨A, c, e, h1, h2, h3⟩ := h
  refine ⟨A, c, e, h1, h2, fun hn => ?_⟩
  obtain ⟨b, o, e1, hlt, hc⟩ := h3 hn
  exact ⟨b, o, e1, hlt, fun i p hp => (hc i p hp).below hb hlt⟩
theorem OpensAt.mono {w : World} {n0 n1 : Nat} {v : Value} {ps : List OpenS} (h : OpensAt w n0 v ps) (hn : n0 ≤ n1) : OpensAt w n1 v ps := by
  obtain ⟨A, c, e, h1, h2, h3⟩ := h
  refine ⟨A, c, e, h1, h2, fun hne => ?_⟩
  obtain ⟨b, o, e1, hlt, hc⟩ := h3 hne
  exact ⟨b, o, e1, by omega, fun i p hp => (hc i p hp).mono hn⟩
theorem OpensAt.take {w : World} {n0 : Nat} {A : Option Addr} {n c : Nat} {ps : List OpenS} (h : OpensAt w n0 (.slice A n c) ps) (k : Nat) (hk : k ≤ ps.length) : OpensAt w n0 (.slice A k c) (ps.take k) := by
  obtain ⟨A', c', e, h1, h2, h3⟩ := h
  simp only [Value.slice.injEq] at e
  obtain ⟨rfl, rfl, rfl⟩ := e
  have hl : (ps.take k).length = k := by rw [List.length_take]; omega
  refine ⟨A, c, by rw [hl], by omega, by omega, fun hne => ?_⟩
  obtain ⟨b, o, e1, hlt, hc⟩ := h3 (fun e => hne (by rw [e]; simp))
  refine ⟨b, o, e1, hlt, fun i p hp => ?_⟩
  rw [List.getElem?_take] at hp
  split at hp
  · exact hc i p hp
  · cases hp
end Go.Proofs.Ytnbnhcoaggpmaaa
