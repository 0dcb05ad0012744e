/- MendEasier: the row. -/
import Derived.Test.YtccplobhfokcgaaRd
import Derived.Deep.RegionHeld3
import Derived.Deep.AppendLies
import Derived.Deep.DeepCutAuto
import Derived.Test.YtccplobhfokcgaaPn
import Derived.Deep.CutBlock
import Derived.Test.YtccplobhfokcgaaLc
import Derived.Deep.Matrix
import Derived.Deep.Slices
import Derived.Deep.Fields
import Derived.ChangeSame
import Derived.Lib.SmallJoins
import Derived.ProofKit
import Derived.ChangeSlices
import Derived.Test.YtccplobhfokcgaaRows
import Derived.WalkKit
import Derived.OpenShut
import Derived.ShutString
import Derived.ChangeOld
import Derived.Below

/- The specification's Copy. -/
namespace Go.Proofs.Ytccplobhfokcgaa
open Go Go.RowKit Go.Shelf
set_option maxRecDepth 100000

def cellsC (cs : List Craft) : List Value := cs.flatMap fun c => [.int .i64 c.add, .int .i64 c.price, .bool c.strip]
theorem cellsC_length : ∀ cs : List Craft, (cellsC cs).length = cs.length * 3
  | [] => rfl
  | c :: cs => by
    have := cellsC_length cs
    simp only [cellsC, List.flatMap_cons, List.length_append, List.length_cons, List.length_nil] at this ⊢
    omega
theorem infoCraftS : (Try.prog.info? 57).map (fun i => (i.zero, i.size, i.bytes)) = some (some (.agg #[.int .i64 0, .int .i64 0, .bool false]), 3, 24) := by kernel_rfl
theorem cellsC_at : ∀ {cs : List Craft} {i : Nat} {c : Craft}, cs[i]? = some c → (cellsC cs)[i * 3]? = some (.int .i64 c.add) ∧ (cellsC cs)[i * 3 + 1]? = some (.int .i64 c.price) ∧ (cellsC cs)[i * 3 + 2]? = some (.bool c.strip)
  | [], i, c, h => by simp at h
  | x :: cs, 0, c, h => by
    simp at h
    subst h
    exact ⟨rfl, rfl, rfl⟩
  | x :: cs, i + 1, c, h => by
    have ih := cellsC_at (cs := cs) (i := i) (c := c) (by simpa using h)
    have e : ∀ j, (cellsC (x :: cs))[(i + 1) * 3 + j]? = (cellsC cs)[i * 3 + j]? := fun j => by
      rw [show (i + 1) * 3 + j = (i * 3 + j) + 3 by omega]; rfl
    exact ⟨(e 0).trans ih.1, (e 1).trans ih.2.1, (e 2).trans ih.2.2⟩
/-- The cells of crafts. -/
theorem CraftsAt.cells {w : World} {n0 : Nat} {v : Value} {cs : List Craft} (h : CraftsAt w n0 v cs) (hne : cs ≠ []) : ∃ b o c, v = .slice (some ⟨b, o, none⟩) cs.length c ∧ b < n0 ∧ (∀ j u, (cellsC cs)[j]? = some u → w.cell? ⟨b, o + j, none⟩ = some u) ∧ ∀ u ∈ cellsC cs, u.oneCell' = true := by
  obtain ⟨A, c, rfl, _, hr⟩ := h
  obtain ⟨b, o, rfl, hb, hc⟩ := hr hne
  have hat : ∀ j u, (cellsC cs)[j]? = some u → w.cell? ⟨b, o + j, none⟩ = some u ∧ u.oneCell' = true := by
    intro j u hj
    have hjl := (List.getElem?_eq_some_iff.1 hj).1
    rw [cellsC_length] at hjl
    have hi : j / 3 < cs.length := by omega
    obtain ⟨h1, h2, h3⟩ := hc (j / 3) _ (List.getElem?_eq_getElem hi)
    obtain ⟨c0, c1, c2⟩ := cellsC_at (List.getElem?_eq_getElem hi)
    rcases (by omega : j % 3 = 0 ∨ j % 3 = 1 ∨ j % 3 = 2) with e | e | e
    · have e2 : j = j / 3 * 3 := by omega
      rw [e2] at hj ⊢
      rw [c0] at hj
      cases hj
      exact ⟨h1, rfl⟩
    · have e2 : j = j / 3 * 3 + 1 := by omega
      rw [e2] at hj ⊢
      rw [c1] at hj
      cases hj
      exact ⟨h2, rfl⟩
    · have e2 : j = j / 3 * 3 + 2 := by omega
      rw [e2] at hj ⊢
      rw [c2] at hj
      cases hj
      exact ⟨h3, rfl⟩
  refine ⟨b, o, c, rfl, hb, fun j u hj => (hat j u hj).1, fun u hu => ?_⟩
  obtain ⟨j, hj⟩ := List.getElem?_of_mem hu
  exact (hat j u hj).2
/-- The cells of slopes, given what tells their takes. -/
def cellsSl : List Slope → List Value → List Value
  | x :: ss, u :: us => .int .i64 x.now :: .int .i64 x.need :: .int .i64 x.full :: .int .i64 x.size :: u :: cellsSl ss us
  | _, _ => []
theorem cellsSl_length : ∀ (ss : List Slope) (us : List Value), us.length = ss.length → (cellsSl ss us).length = ss.length * 5
  | [], [], _ => rfl
  | x :: ss, u :: us, h => by
    have := cellsSl_length ss us (by simpa using h)
    simp only [cellsSl, List.length_cons, this]
    omega
theorem cellsSl_snoc (x : Slope) (u : Value) : ∀ (ss : List Slope) (us : List Value), us.length = ss.length → cellsSl (ss ++ [x]) (us ++ [u]) = cellsSl ss us ++ [.int .i64 x.now, .int .i64 x.need, .int .i64 x.full, .int .i64 x.size, u]
  | [], [], _ => rfl
  | y :: ss, v :: us, h => by
    have := cellsSl_snoc x u ss us (by simpa using h)
    simp only [List.cons_append, cellsSl, this]
theorem cellsSl_at {x : Slope} {u : Value} : ∀ (ss : List Slope) (us : List Value) (i : Nat), ss[i]? = some x → us[i]? = some u →
    (cellsSl ss us)[i * 5]? = some (.int .i64 x.now) ∧ (cellsSl ss us)[i * 5 + 1]? = some (.int .i64 x.need) ∧ (cellsSl ss us)[i * 5 + 2]? = some (.int .i64 x.full) ∧ (cellsSl ss us)[i * 5 + 3]? = some (.int .i64 x.size) ∧ (cellsSl ss us)[i * 5 + 4]? = some u
  | [], _, i, h, _ => by simp at h
  | y :: ss, [], i, _, h => by simp at h
  | y :: ss, v :: us, 0, h, k => by
    simp at h k
    subst h; subst k
    exact ⟨rfl, rfl, rfl, rfl, rfl⟩
  | y :: ss, v :: us, i + 1, h, k => by
    have ih := cellsSl_at ss us i (by simpa using h) (by simpa using k)
    have e : ∀ j, (cellsSl (y :: ss) (v :: us))[(i + 1) * 5 + j]? = (cellsSl ss us)[i * 5 + j]? := fun j => by
      rw [show (i + 1) * 5 + j = (i * 5 + j) + 5 by omega]; rfl
    exact ⟨(e 0).trans ih.1, (e 1).trans ih.2.1, (e 2).trans ih.2.2.1, (e 3).trans ih.2.2.2.1, (e 4).trans ih.2.2.2.2⟩
/-- A list of slopes of one's own; each one's takes lie in a block of their own. -/
def OwnSl (w : World) (B : Nat) (v : Value) (ss : List Slope) : Prop := ∃ (us : List Value) (ks : List Nat), us.length = ss.length ∧ ks.length = ss.length ∧ ks.Nodup ∧ w.ownsRow B 55 5 v ss.length (cellsSl ss us) ∧
  ∀ (i : Nat) (s : Slope), ss[i]? = some s → ∃ k c, ks[i]? = some k ∧ us[i]? = some (.slice (some ⟨k, 0, none⟩) s.takes.length c) ∧ w.ownsRow B 3 1 (.slice (some ⟨k, 0, none⟩) s.takes.length c) s.takes.length (s.takes.map (Value.int .i64))
theorem OwnSl.nil (w : World) (B : Nat) : OwnSl w B (.slice none 0 0) [] := ⟨[], [], rfl, rfl, List.nodup_nil, ⟨rfl, .inl ⟨rfl, rfl⟩⟩, fun i s h => by simp at h⟩
theorem OwnSl.kept {w w' : World} {B : Nat} {v : Value} {ss : List Slope} (h : OwnSl w B v ss) (hk : ∀ k cs t, B ≤ k → w.heap[k]? = some (.cells cs t (0, 0)) → (t = 3 ∨ t = 55) → w'.heap[k]? = w.heap[k]?) : OwnSl w' B v ss := by
  obtain ⟨us, ks, h1, h2, h3, h4, h5⟩ := h
  refine ⟨us, ks, h1, h2, h3, own_kept h4 (fun k e => ?_), fun i s hs => ?_⟩
  · obtain ⟨cur, hc⟩ := own_type h4 k e
    exact hk k cur _ (own_blk_lt h4 k e).1 hc (.inr rfl)
  · obtain ⟨k, c, e1, e2, e3⟩ := h5 i s hs
    refine ⟨k, c, e1, e2, own_kept e3 (fun k' e => ?_)⟩
    obtain ⟨cur, hc⟩ := own_type e3 k' e
    exact hk k' cur _ (own_blk_lt e3 k' e).1 hc (.inl rfl)
/-- A slope more. -/
theorem OwnSl.snoc {W0 W w1 : World} {B k c : Nat} {v v1 : Value} {ss : List Slope} {us : List Value} {ks : List Nat} {x : Slope} (h1 : us.length = ss.length) (h2 : ks.length = ss.length) (h3 : ks.Nodup) (hlo : ∀ k ∈ ks, k < W0.heap.size)
    (h4 : W.ownsRow B 55 5 v ss.length (cellsSl ss us))
    (h5 : ∀ (i : Nat) (s : Slope), ss[i]? = some s → ∃ k c, ks[i]? = some k ∧ us[i]? = some (.slice (some ⟨k, 0, none⟩) s.takes.length c) ∧ W.ownsRow B 3 1 (.slice (some ⟨k, 0, none⟩) s.takes.length c) s.takes.length (s.takes.map (Value.int .i64)))
    (hu : W.ownsRow W0.heap.size 3 1 (.slice (some ⟨k, 0, none⟩) x.takes.length c) x.takes.length (x.takes.map (Value.int .i64))) (hB : B ≤ W0.heap.size)
    (hown : w1.ownsRow B 55 5 v1 (ss.length + 1) (cellsSl ss us ++ [.int .i64 x.now, .int .i64 x.need, .int .i64 x.full, .int .i64 x.size, .slice (some ⟨k, 0, none⟩) x.takes.length c])) (hg : W.grownBy w1 v.ownBlock) : OwnSl w1 B v1 (ss ++ [x]) := by
  have key : ∀ {u : Value} {xs : List Int}, W.ownsRow B 3 1 u xs.length (xs.map (Value.int .i64)) → w1.ownsRow B 3 1 u xs.length (xs.map (Value.int .i64)) := fun {u xs} hu =>
    own_kept hu fun k hk => by
      obtain ⟨cur, hc⟩ := own_type hu k hk
      refine hg.block k (own_blk_lt hu k hk).2 (fun e => ?_)
      obtain ⟨cur2, hc2⟩ := own_type h4 k e.symm
      rw [hc] at hc2
      simp at hc2
  have hu' := own_mono hu hB
  have hk := (own_blk_lt hu k rfl).1
  refine ⟨us ++ [_], ks ++ [k], by simp [h1], by simp [h2], List.nodup_append.2 ⟨h3, by simp, fun a ha b hb2 => by have := hlo a ha; simp at hb2; omega⟩, by rw [List.length_append, cellsSl_snoc _ _ _ _ h1]; exact hown, fun i s hs => ?_⟩
  by_cases hi : i < ss.length
  · rw [List.getElem?_append_left hi] at hs
    obtain ⟨k', c', e1, e2, e3⟩ := h5 i s hs
    exact ⟨k', c', by rw [List.getElem?_append_left (by omega)]; exact e1, by rw [List.getElem?_append_left (by omega)]; exact e2, key e3⟩
  · rw [List.getElem?_append_right (by omega)] at hs
    have hz : i - ss.length = 0 := by
      have := (List.getElem?_eq_some_iff.1 hs).1
      simp at this; omega
    rw [hz] at hs
    have : x = s := by simpa using hs
    subst this
    exact ⟨k, c, by rw [List.getElem?_append_right (by omega), h2, hz]; rfl, by rw [List.getElem?_append_right (by omega), h1, hz]; rfl, key hu'⟩
theorem add_plain' (b o j : Nat) : (⟨b, o, none⟩ : Addr).add j = ⟨b, o + j, none⟩ := by unfold Addr.add; split <;> simp_all
theorem alloc_swap {W : World} {o o' : Obj} {p : Addr} (h : p.block < W.heap.size) : (W.alloc o').cell? p = (W.alloc o).cell? p := ((below1 W o').cell h).trans ((below1 W o).cell h).symm
theorem own_empty {w : World} {base b size : Nat} {t : TypeId} (h : w.heap[b]? = some (.cells #[] t (0, 0))) (hb : base ≤ b) : w.ownsRow base t size (.slice (some ⟨b, 0, none⟩) 0 0) 0 [] :=
  ⟨by simp, .inr ⟨b, 0, #[], rfl, hb, h, Nat.le_refl _, by simp [maxLen], by simp, by simp⟩⟩

/-- The box of a copy begun. -/
structure CopyBox (m : Wk) (w1 : World) (s3 : Value) (g : Nat) (cr' : Value) (wx : World) : Prop where
  ptr : s3 = .pointer (some ⟨g, 0, none⟩)
  at_ : w1.heap.size ≤ g
  box : wx.heap[g]? = some (.cells #[.slice none 0 0, cr', .int .i64 m.years, .int .i64 m.visit, .int .i64 m.hands] 25 (0, 0))
  own : wx.ownsRow w1.heap.size 57 3 cr' m.crafts.length (cellsC m.crafts)
  below : Below w1.heap.size w1 wx
def CopyBegun (m : Wk) (w1 : World) (s3 : Value) (wx : World) : Prop := ∃ g cr', CopyBox m w1 s3 g cr' wx
theorem copy_box_new {m : Wk} {w1 w7 : World} {gg cap : Nat} (hb : Below w1.heap.size w1 w7) (hown : w7.ownsRow w1.heap.size 57 3 (.slice (some ⟨gg, 0, none⟩) m.crafts.length cap) m.crafts.length (cellsC m.crafts)) :
    CopyBegun m w1 (.pointer (some ⟨w7.heap.size, 0, none⟩)) (w7.alloc (.cells #[.slice none 0 0, .slice (some ⟨gg, 0, none⟩) m.crafts.length cap, .int .i64 m.years, .int .i64 m.visit, .int .i64 m.hands] 25)) :=
  ⟨_, _, rfl, hb.size, heap_alloc_self _ _, own_below hown (below1 w7 _) (fun k hk => (own_blk_lt hown k hk).2), hb.trans ((below1 w7 _).mono hb.size)⟩
theorem copy_none1 {m : Wk} (h : m.crafts = []) (w1 : World) : CopyBegun m w1 (.pointer (some ⟨w1.heap.size + 1, 0, none⟩)) (((w1.alloc (.cells #[] 57)).alloc (.cells #[.slice none 0 0, .slice (some ⟨w1.heap.size, 0, none⟩) 0 0, .int .i64 m.years, .int .i64 m.visit, .int .i64 m.hands] 25)).drew) := by
  have g1 := heap_alloc_self (w1.alloc (.cells #[] 57)) (.cells #[.slice none 0 0, .slice (some ⟨w1.heap.size, 0, none⟩) 0 0, .int .i64 m.years, .int .i64 m.visit, .int .i64 m.hands] 25)
  have g2 := (Below.heap_alloc (w1.alloc (.cells #[] 57)) (.cells #[.slice none 0 0, .slice (some ⟨w1.heap.size, 0, none⟩) 0 0, .int .i64 m.years, .int .i64 m.visit, .int .i64 m.hands] 25) w1.heap.size (by simp)).trans (heap_alloc_self w1 (.cells #[] 57))
  refine ⟨_, .slice (some ⟨w1.heap.size, 0, none⟩) 0 0, rfl, by omega, by simpa [World.drew] using g1, ?_, ((below1 w1 _).alloc (by simp) _).drew⟩
  rw [h]
  exact own_empty (by simpa [World.drew] using g2) (Nat.le_refl _)
theorem copy_none2 {m : Wk} (h : m.crafts = []) (w1 : World) : CopyBegun m w1 (.pointer (some ⟨w1.heap.size, 0, none⟩)) (((w1.alloc (.cells #[.slice none 0 0, .slice (some ⟨w1.heap.size + 1, 0, none⟩) 0 0, .int .i64 m.years, .int .i64 m.visit, .int .i64 m.hands] 25)).alloc (.cells #[] 57)).drew) := by
  have g1 := heap_alloc_self (w1.alloc (.cells #[.slice none 0 0, .slice (some ⟨w1.heap.size + 1, 0, none⟩) 0 0, .int .i64 m.years, .int .i64 m.visit, .int .i64 m.hands] 25)) (.cells #[] 57)
  have g2 := (Below.heap_alloc (w1.alloc (.cells #[.slice none 0 0, .slice (some ⟨w1.heap.size + 1, 0, none⟩) 0 0, .int .i64 m.years, .int .i64 m.visit, .int .i64 m.hands] 25)) (.cells #[] 57) w1.heap.size (by simp)).trans (heap_alloc_self w1 _)
  refine ⟨_, .slice (some ⟨w1.heap.size + 1, 0, none⟩) 0 0, rfl, Nat.le_refl _, by simpa [World.drew] using g2, ?_, ((below1 w1 _).alloc (by simp) _).drew⟩
  rw [h]
  exact own_empty (by simpa [World.drew] using g1) (by omega)
theorem copy_box_set {m : Wk} {w1 w7 : World} {gg cap k : Nat} (hk : w1.heap.size ≤ k) (hne : gg ≠ k) (hb : Below w1.heap.size w1 w7) (hown : w7.ownsRow w1.heap.size 57 3 (.slice (some ⟨gg, 0, none⟩) m.crafts.length cap) m.crafts.length (cellsC m.crafts))
    (hg : w7.heap[k]? = some (.cells #[.slice none 0 0, .slice none 0 0, .int .i64 0, .int .i64 0, .int .i64 0] 25 (0, 0))) :
    CopyBegun m w1 (.pointer (some ⟨k, 0, none⟩)) (((((w7.setCell ⟨k, 0, none⟩ (.slice none 0 0)).setCell ⟨k, 1, none⟩ (.slice (some ⟨gg, 0, none⟩) m.crafts.length cap)).setCell ⟨k, 2, none⟩ (.int .i64 m.years)).setCell ⟨k, 3, none⟩ (.int .i64 m.visit)).setCell ⟨k, 4, none⟩ (.int .i64 m.hands)) := by
  refine ⟨k, .slice (some ⟨gg, 0, none⟩) m.crafts.length cap, rfl, hk, ?_, own_kept hown (fun j hj => ?_), ?_⟩
  · rw [heap_set (heap_set (heap_set (heap_set (heap_set hg 0 _) 1 _) 2 _) 3 _) 4 _]; rfl
  · have e : gg = j := by simpa [Value.ownBlock] using hj
    subst e
    rw [Below.heap_setCell _ _ _ _ hne, Below.heap_setCell _ _ _ _ hne, Below.heap_setCell _ _ _ _ hne, Below.heap_setCell _ _ _ _ hne, Below.heap_setCell _ _ _ _ hne]
  · exact ((((hb.setCell (p := ⟨k, 0, none⟩) hk _).setCell (p := ⟨k, 1, none⟩) hk _).setCell (p := ⟨k, 2, none⟩) hk _).setCell (p := ⟨k, 3, none⟩) hk _).setCell (p := ⟨k, 4, none⟩) hk _
theorem infoSlopeS : (Try.prog.info? 55).map (fun i => (i.zero, i.size, i.bytes)) = some (some (.agg #[.int .i64 0, .int .i64 0, .int .i64 0, .int .i64 0, .slice none 0 0]), 5, 56) := by kernel_rfl
/-- The copy at slope j. -/
structure CopyInv (m : Wk) (w1 : World) (g : Nat) (cr' v : Value) (j : Nat) (wr : World) : Prop where
  box : wr.heap[g]? = some (.cells #[v, cr', .int .i64 m.years, .int .i64 m.visit, .int .i64 m.hands] 25 (0, 0))
  slopes : OwnSl wr w1.heap.size v (m.slopes.take j)
  own : wr.ownsRow w1.heap.size 57 3 cr' m.crafts.length (cellsC m.crafts)
  below : Below w1.heap.size w1 wr
/-- A slope copied, with takes of its own. -/
structure SlopeCopy (wr : World) (x : Slope) (k c : Nat) (wx : World) : Prop where
  below : Below wr.heap.size wr wx
  box : wx.heap[wr.heap.size]? = some (.cells #[.int .i64 x.now, .int .i64 x.need, .int .i64 x.full, .int .i64 x.size, .slice (some ⟨k, 0, none⟩) x.takes.length c] 55 (0, 0))
  own : wx.ownsRow wr.heap.size 3 1 (.slice (some ⟨k, 0, none⟩) x.takes.length c) x.takes.length (x.takes.map (Value.int .i64))
def SlopeCopied (wr : World) (x : Slope) (wx : World) : Prop := ∃ k c, SlopeCopy wr x k c wx
theorem slope_copied {wr w7 : World} {x : Slope} {gg cap : Nat} {tv : Value} (hne : gg ≠ wr.heap.size) (hb : Below wr.heap.size wr w7)
    (h7 : w7.heap[wr.heap.size]? = some (.cells #[.int .i64 x.now, .int .i64 x.need, .int .i64 x.full, .int .i64 x.size, tv] 55 (0, 0)))
    (hown : w7.ownsRow wr.heap.size 3 1 (.slice (some ⟨gg, 0, none⟩) x.takes.length cap) x.takes.length (x.takes.map (Value.int .i64))) :
    SlopeCopied wr x (w7.setCell ⟨wr.heap.size, 4, none⟩ (.slice (some ⟨gg, 0, none⟩) x.takes.length cap)) := by
  refine ⟨gg, cap, hb.setCell (p := ⟨wr.heap.size, 4, none⟩) (Nat.le_refl _) _, (heap_set h7 4 _).trans rfl, own_kept hown (fun j hj => ?_)⟩
  have e : gg = j := by simpa [Value.ownBlock] using hj
  subst e
  exact Below.heap_setCell _ _ _ _ hne
/-- The round's end. -/
theorem copy_round {m : Wk} {w1 wr wx W w8 : World} {g k c : Nat} {cr' v v8 : Value} {j : Nat} {x : Slope} (hi : CopyInv m w1 g cr' v j wr) (hts : m.slopes.take (j + 1) = m.slopes.take j ++ [x]) (hj : (m.slopes.take j).length = j) (hc : SlopeCopy wr x k c wx)
    (hW : Below wx.heap.size wx W) {us : List Value} {ks : List Nat} (a1 : us.length = (m.slopes.take j).length) (a2 : ks.length = (m.slopes.take j).length) (a3 : ks.Nodup)
    (a4 : wr.ownsRow w1.heap.size 55 5 v (m.slopes.take j).length (cellsSl (m.slopes.take j) us))
    (a5 : ∀ (i : Nat) (s : Slope), (m.slopes.take j)[i]? = some s → ∃ k c, ks[i]? = some k ∧ us[i]? = some (.slice (some ⟨k, 0, none⟩) s.takes.length c) ∧ wr.ownsRow w1.heap.size 3 1 (.slice (some ⟨k, 0, none⟩) s.takes.length c) s.takes.length (s.takes.map (Value.int .i64)))
    (hown : w8.ownsRow w1.heap.size 55 5 v8 (j + 1) (cellsSl (m.slopes.take j) us ++ [.int .i64 x.now, .int .i64 x.need, .int .i64 x.full, .int .i64 x.size, .slice (some ⟨k, 0, none⟩) x.takes.length c])) (hg : W.grownBy w8 v.ownBlock) (hb8 : Below w1.heap.size W w8) (hg1 : w1.heap.size ≤ g) :
    w8.heap[g]? = some (.cells #[v, cr', .int .i64 m.years, .int .i64 m.visit, .int .i64 m.hands] 25 (0, 0)) ∧ CopyInv m w1 g cr' v8 (j + 1) (w8.setCell ⟨g, 0, none⟩ v8) := by
  have zi := hi.below.size
  have hrW : Below wr.heap.size wr W := hc.below.trans (hW.mono hc.below.size)
  have hgW : W.heap[g]? = some (.cells #[v, cr', .int .i64 m.years, .int .i64 m.visit, .int .i64 m.hands] 25 (0, 0)) := blk_below hrW hi.box (lt_blk hi.box)
  have hvW : ∀ b, v.ownBlock = some b → ∃ cur, W.heap[b]? = some (.cells cur 55 (0, 0)) := fun b hb => by
    obtain ⟨cur, hcu⟩ := own_type a4 b hb
    exact ⟨cur, blk_below hrW hcu (lt_blk hcu)⟩
  have hg8 : w8.heap[g]? = some (.cells #[v, cr', .int .i64 m.years, .int .i64 m.visit, .int .i64 m.hands] 25 (0, 0)) := by
    rw [hg.block g (lt_blk hgW) (fun e => ?_)]
    · exact hgW
    · obtain ⟨cur, hcu⟩ := hvW g e.symm
      rw [hgW] at hcu
      simp at hcu
  refine ⟨hg8, ?_⟩
  have hs := OwnSl.snoc (W0 := wr) (W := W) (x := x) (k := k) (c := c) a1 a2 a3 (fun k' hk' => by
    obtain ⟨i, hik⟩ := List.getElem?_of_mem hk'
    have hil := (List.getElem?_eq_some_iff.1 hik).1
    have hil2 : i < (m.slopes.take j).length := by omega
    obtain ⟨k2, c2, e1, _, e3⟩ := a5 i _ (List.getElem?_eq_getElem hil2)
    rw [hik] at e1
    cases e1
    exact (own_blk_lt e3 _ rfl).2) (own_below a4 hrW (fun k hk => (own_blk_lt a4 k hk).2)) (fun i s hs => by
    obtain ⟨k2, c2, e1, e2, e3⟩ := a5 i s hs
    exact ⟨k2, c2, e1, e2, own_below e3 hrW (fun k hk => (own_blk_lt e3 k hk).2)⟩) (own_below hc.own hW (fun k hk => (own_blk_lt hc.own k hk).2)) zi (by rw [hj]; exact hown) hg
  have hc0 := own_below hi.own hrW (fun k hk => (own_blk_lt hi.own k hk).2)
  have hs' : OwnSl (w8.setCell ⟨g, 0, none⟩ v8) w1.heap.size v8 (m.slopes.take j ++ [x]) := hs.kept (fun b cs t _ hb ht => Below.heap_setCell _ _ _ _ (fun e => by
    change b = g at e
    subst e
    rw [hg8] at hb
    rcases ht with ht | ht <;> subst ht <;> simp at hb))
  have hc8 : w8.ownsRow w1.heap.size 57 3 cr' m.crafts.length (cellsC m.crafts) := own_kept hc0 (fun b hb => hg.block b (own_blk_lt hc0 b hb).2 (fun e => by
    obtain ⟨cur, hcu⟩ := hvW b e.symm
    obtain ⟨cu2, hc2⟩ := own_type hc0 b hb
    rw [hc2] at hcu
    simp at hcu))
  refine ⟨(heap_set hg8 0 _).trans rfl, by rw [hts]; exact hs', own_kept hc8 (fun b hb => Below.heap_setCell _ _ _ _ (fun e => ?_)), ((hi.below.trans (hrW.mono zi)).trans hb8).setCell (p := ⟨g, 0, none⟩) hg1 _⟩
  change b = g at e
  subst e
  obtain ⟨cu2, hc2⟩ := own_type hc0 _ hb
  rw [hgW] at hc2
  simp at hc2
/-- What Copy gives. -/
def CopyPost (m : Wk) (w : World) (e : Ending) (w' : World) : Prop := ∃ v cr', e = .returned (.agg #[v, cr', .int .i64 m.years, .int .i64 m.visit, .int .i64 m.hands]) ∧ OwnSl w' w.heap.size v m.slopes ∧ w'.ownsRow w.heap.size 57 3 cr' m.crafts.length (cellsC m.crafts) ∧ Below w.heap.size w w'
theorem infoWorksZ : (Try.prog.info? 25).map (·.size) = some 5 := by kernel_rfl
theorem OwnSl.mono {w : World} {B B' : Nat} {v : Value} {ss : List Slope} (h : OwnSl w B v ss) (hb : B' ≤ B) : OwnSl w B' v ss := by
  obtain ⟨us, ks, h1, h2, h3, h4, h5⟩ := h
  refine ⟨us, ks, h1, h2, h3, own_mono h4 hb, fun i s hs => ?_⟩
  obtain ⟨k, c, e1, e2, e3⟩ := h5 i s hs
  exact ⟨k, c, e1, e2, own_mono e3 hb⟩
theorem copy_end {m : Wk} {w w1 wi : World} {g : Nat} {cr' v v0 v1 v2 v3 v4 : Value} (hi : CopyInv m w1 g cr' v m.slopes.length wi) (hz : w1.heap.size = w.heap.size + 2) (hb1 : Below w.heap.size w w1) :
    CopyPost m w (.returned (.agg #[v, cr', .int .i64 m.years, .int .i64 m.visit, .int .i64 m.hands])) (((((wi.setCell ⟨w.heap.size + 1, 0, none⟩ v0).setCell ⟨w.heap.size + 1, 1, none⟩ v1).setCell ⟨w.heap.size + 1, 2, none⟩ v2).setCell ⟨w.heap.size + 1, 3, none⟩ v3).setCell ⟨w.heap.size + 1, 4, none⟩ v4) := by
  have hk : ∀ k, w1.heap.size ≤ k → (((((wi.setCell ⟨w.heap.size + 1, 0, none⟩ v0).setCell ⟨w.heap.size + 1, 1, none⟩ v1).setCell ⟨w.heap.size + 1, 2, none⟩ v2).setCell ⟨w.heap.size + 1, 3, none⟩ v3).setCell ⟨w.heap.size + 1, 4, none⟩ v4).heap[k]? = wi.heap[k]? := fun k hk => by
    have hne : k ≠ w.heap.size + 1 := by omega
    rw [Below.heap_setCell _ _ _ _ hne, Below.heap_setCell _ _ _ _ hne, Below.heap_setCell _ _ _ _ hne, Below.heap_setCell _ _ _ _ hne, Below.heap_setCell _ _ _ _ hne]
  have hs := hi.slopes
  rw [List.take_length] at hs
  have hsz : w.heap.size ≤ w.heap.size + 1 := Nat.le_succ _
  refine ⟨v, cr', rfl, (hs.kept (fun k cs t hB _ _ => hk k hB)).mono (by omega), own_mono (own_kept hi.own (fun k e => hk k (own_blk_lt hi.own k e).1)) (by omega), ?_⟩
  exact ((((((hb1.trans (hi.below.mono (by omega))).setCell (p := ⟨w.heap.size + 1, 0, none⟩) hsz _).setCell (p := ⟨w.heap.size + 1, 1, none⟩) hsz _).setCell (p := ⟨w.heap.size + 1, 2, none⟩) hsz _).setCell (p := ⟨w.heap.size + 1, 3, none⟩) hsz _).setCell (p := ⟨w.heap.size + 1, 4, none⟩) hsz _)
set_option maxHeartbeats 8000000 in
theorem rcopy_calls (m : Wk) (sl cr : Value) (w : World) (hsl : SlopesAt w w.heap.size sl m.slopes) (hcr : CraftsAt w w.heap.size cr m.crafts) (hm4 : m.slopes.length ≤ 4) (hc4 : m.crafts.length ≤ 4) (hT : ∀ s ∈ m.slopes, s.takes.length ≤ 12) :
    Calls Try.prog 35 #[.agg #[sl, cr, .int .i64 m.years, .int .i64 m.visit, .int .i64 m.hands]] w (CopyPost m w) := by
  obtain ⟨sA, sc, rfl, _, hss⟩ := id hsl
  obtain ⟨cA, cc, rfl, _, hcc⟩ := id hcr
  obtain ⟨w0, hw0⟩ : ∃ w0, w0 = w.alloc (.cells #[.slice sA m.slopes.length sc, .slice cA m.crafts.length cc, .int .i64 m.years, .int .i64 m.visit, .int .i64 m.hands] 25) := ⟨_, rfl⟩
  have h0 := LawInv.start hsl hcr
  rw [← hw0] at h0
  have hzw : w0.heap.size = w.heap.size + 1 := by rw [hw0]; simp
  obtain ⟨w1, hw1⟩ : ∃ w1, w1 = w0.alloc (.cells #[.slice none 0 0, .slice none 0 0, .int .i64 0, .int .i64 0, .int .i64 0] 25) := ⟨_, rfl⟩
  have hzw1 : w1.heap.size = w.heap.size + 2 := by rw [hw1]; simp [hzw]
  have h1 := h0.later (show Below w0.heap.size w0 w1 by rw [hw1]; exact below1 _ _)
  have H1 := Lib.hid h1
  have HW0 := Lib.hid hw0
  have HW1 := Lib.hid hw1
  have HZ1 := Lib.hid hzw1
  have HZ0 := Lib.hid hzw
  have HCR := Lib.hid hcr
  have HSS := Lib.hid hss
  have HTK := Lib.hid hT
  clear hT h0 hw0 hw1 hsl h1 hzw1 hzw hcr hss hcc
  go_enter Try.func35, Try.ntmps35
  go_upto_region 1 with fail
  rw [← HW0.out, ← HW1.out]
  go_cut [0, 3] (fun _ s3 wx => CopyBegun m w1 s3 wx)
  case first =>
    obtain ⟨x0, x1, x2, x3, x4⟩ := blk5 H1.out.box
    have hza : w.heap.size + 2 ≤ w1.heap.size := Nat.le_of_eq HZ1.out.symm
    by_cases hne : m.crafts = []
    · have hl0 : m.crafts.length = 0 := by rw [hne]; rfl
      have HL0 := Lib.hid hl0
      have HNE := Lib.hid hne
      rw [hl0] at x1
      obtain ⟨z, hz⟩ : ∃ z, z = m.crafts.length := ⟨_, rfl⟩
      rw [hl0]
      have a1 : ∀ ob, (w1.alloc ob).cell? ⟨w.heap.size, 1, none⟩ = some (.slice cA 0 cc) := fun ob => ((below1 w1 ob).cell (p := ⟨w.heap.size, 1, none⟩) (show w.heap.size < w1.heap.size by omega)).trans x1
      have a2 : ∀ ob, (w1.alloc ob).cell? ⟨w.heap.size, 2, none⟩ = some (.int .i64 m.years) := fun ob => ((below1 w1 ob).cell (p := ⟨w.heap.size, 2, none⟩) (show w.heap.size < w1.heap.size by omega)).trans x2
      have a3 : ∀ ob, (w1.alloc ob).cell? ⟨w.heap.size, 3, none⟩ = some (.int .i64 m.visit) := fun ob => ((below1 w1 ob).cell (p := ⟨w.heap.size, 3, none⟩) (show w.heap.size < w1.heap.size by omega)).trans x3
      have a4 : ∀ ob, (w1.alloc ob).cell? ⟨w.heap.size, 4, none⟩ = some (.int .i64 m.hands) := fun ob => ((below1 w1 ob).cell (p := ⟨w.heap.size, 4, none⟩) (show w.heap.size < w1.heap.size by omega)).trans x4
      clear hne hl0 hz
      cases cA with
      | none =>
        go_region_held3 (fun w' => w'.cell? ⟨w.heap.size, 1, none⟩ = some (.slice none 0 cc) ∧ w'.cell? ⟨w.heap.size, 2, none⟩ = some (.int .i64 m.years) ∧ w'.cell? ⟨w.heap.size, 3, none⟩ = some (.int .i64 m.visit) ∧ w'.cell? ⟨w.heap.size, 4, none⟩ = some (.int .i64 m.hands))
          (go_keep)
          (fail)
        all_goals
          go_wp2_with fail
          go_meet
          first
          | exact copy_none1 HNE.out w1
          | exact copy_none2 HNE.out w1
      | some ad =>
        go_region_held3 (fun w' => w'.cell? ⟨w.heap.size, 1, none⟩ = some (.slice (some ad) 0 cc) ∧ w'.cell? ⟨w.heap.size, 2, none⟩ = some (.int .i64 m.years) ∧ w'.cell? ⟨w.heap.size, 3, none⟩ = some (.int .i64 m.visit) ∧ w'.cell? ⟨w.heap.size, 4, none⟩ = some (.int .i64 m.hands))
          (go_keep)
          (fail)
        all_goals
          go_wp2_with fail
          go_meet
          first
          | exact copy_none1 HNE.out w1
          | exact copy_none2 HNE.out w1
    · obtain ⟨cb, co, c9, e9, hcb, hcells, hone⟩ := CraftsAt.cells HCR.out hne
      cases e9
      have hcl := cellsC_length m.crafts
      have hpos : 0 < m.crafts.length := List.length_pos_iff.2 hne
      have hal : ∀ (p : Addr) (v : Value), p.block < w1.heap.size → w1.cell? p = some v → ∀ ob, (w1.alloc ob).cell? p = some v := fun p v hp hv ob => ((below1 w1 ob).cell hp).trans hv
      have a1 := hal ⟨w.heap.size, 1, none⟩ _ (show w.heap.size < w1.heap.size by omega) x1
      have a2 := hal ⟨w.heap.size, 2, none⟩ _ (show w.heap.size < w1.heap.size by omega) x2
      have a3 := hal ⟨w.heap.size, 3, none⟩ _ (show w.heap.size < w1.heap.size by omega) x3
      have a4 := hal ⟨w.heap.size, 4, none⟩ _ (show w.heap.size < w1.heap.size by omega) x4
      clear hal
      obtain ⟨i0, hi, hz0, hz1, hz2⟩ := info_parts infoCraftS
      have hcw := fun (W : World) (hW : Below w1.heap.size w1 W) j u (hu : (cellsC m.crafts)[j]? = some u) => ((H1.out.below.trans (hW.mono H1.out.below.size)).cell (p := ⟨cb, co + j, none⟩) hcb).trans (hcells j u hu)
      have HCW := Lib.hid hcw
      have HONE := Lib.hid hone
      clear hcw hone hcells
      have hn1 : w1.heap.size ≠ w.heap.size := by omega
      have hn2 : w1.heap.size + 1 ≠ w.heap.size := by omega
      have hv1 : some w.heap.size ≠ some w1.heap.size := by simp; omega
      have hv2 : some w.heap.size ≠ some (w1.heap.size + 1) := by simp; omega
      go_region_held3 (fun w' => w'.cell? ⟨w.heap.size, 1, none⟩ = some (.slice (some ⟨cb, co, none⟩) m.crafts.length cc) ∧ w'.cell? ⟨w.heap.size, 2, none⟩ = some (.int .i64 m.years) ∧ w'.cell? ⟨w.heap.size, 3, none⟩ = some (.int .i64 m.visit) ∧ w'.cell? ⟨w.heap.size, 4, none⟩ = some (.int .i64 m.hands))
        (first
          | go_keep
          | (go_split_ands
             refine ⟨?_, ?_, ?_, ?_⟩ <;> exact (alloc_swap (show w.heap.size < w7.heap.size from hn8)).trans (by assumption))
          | (go_split_ands
             all_goals exact (alloc_swap (show w.heap.size < w7.heap.size from hn8)).trans (by assumption))
          | (go_split_ands
             refine ⟨?_, ?_, ?_, ?_⟩
             · (rw [hgrow.cell_far _ (by simp [World.drew]; omega) (by first | exact hv1 | exact hv2)]; assumption)
             · (rw [hgrow.cell_far _ (by simp [World.drew]; omega) (by first | exact hv1 | exact hv2)]; assumption)
             · (rw [hgrow.cell_far _ (by simp [World.drew]; omega) (by first | exact hv1 | exact hv2)]; assumption)
             · (rw [hgrow.cell_far _ (by simp [World.drew]; omega) (by first | exact hv1 | exact hv2)]; assumption)))
        (first
          | (refine step_append_lies _ (by rfl) _ _ _ (by rfl) w1.heap.size 57 i0 _ 3 24 Try.underlying23 hi hz0 hz1 hz2 (by rfl) (by omega) (.slice (some ⟨w1.heap.size, 0, none⟩) 0 0) 0 [] (by rfl) (own_empty (heap_alloc_self w1 _) (by omega)) ⟨cb, co, none⟩ m.crafts.length cc (cellsC m.crafts) (by rfl) hcl (fun j u hu => by rw [add_plain']; exact HCW.out _ ((below1 w1 _).drew) j u hu) HONE.out hpos (by simp only [maxLen]; omega) (by omega) (by simp [World.drew] <;> omega) (w1.heap.size + 1) (by simp [World.drew]) ?_; intro gg cap w7 hown7 hgrow hat hlt; have hn7 : w7.heap.size ≠ w.heap.size := (by have h7 := hgrow.size; simp [World.drew] at h7; omega); have hn8 : (⟨w.heap.size, 1, none⟩ : Addr).block < w7.heap.size := (by have h7 := hgrow.size; simp [World.drew] at h7; show w.heap.size < w7.heap.size; omega))
          | (refine step_append_lies _ (by rfl) _ _ _ (by rfl) w1.heap.size 57 i0 _ 3 24 Try.underlying23 hi hz0 hz1 hz2 (by rfl) (by omega) (.slice (some ⟨w1.heap.size + 1, 0, none⟩) 0 0) 0 [] (by rfl) (own_empty ((by simpa [World.drew] using heap_alloc_self (w1.alloc _) _)) (by omega)) ⟨cb, co, none⟩ m.crafts.length cc (cellsC m.crafts) (by rfl) hcl (fun j u hu => by rw [add_plain']; exact HCW.out _ (((below1 w1 _).alloc (by simp) _).drew) j u hu) HONE.out hpos (by simp only [maxLen]; omega) (by omega) (by simp [World.drew] <;> omega) (w1.heap.size + 2) (by simp [World.drew]) ?_; intro gg cap w7 hown7 hgrow hat hlt; have hn7 : w7.heap.size ≠ w.heap.size := (by have h7 := hgrow.size; simp [World.drew] at h7; omega); have hn8 : (⟨w.heap.size, 1, none⟩ : Addr).block < w7.heap.size := (by have h7 := hgrow.size; simp [World.drew] at h7; show w.heap.size < w7.heap.size; omega); have g7 : w7.heap[w1.heap.size]? = some (.cells #[.slice none 0 0, .slice none 0 0, .int .i64 0, .int .i64 0, .int .i64 0] 25 (0, 0)) := (hgrow.block _ (by simp [World.drew]; try omega) (by simp [Value.ownBlock])).trans ((Below.heap_alloc _ _ _ (by simp)).trans (heap_alloc_self w1 _)); have q5 := blk5 g7; have fr7 := frozen_blk g7; obtain ⟨q0, q1, q2, q3, q4⟩ := q5)
          | (refine step_append_lies _ (by rfl) _ _ _ (by rfl) w1.heap.size 57 i0 _ 3 24 Try.underlying23 hi hz0 hz1 hz2 (by rfl) (by omega) (.slice (some ⟨w1.heap.size, 0, none⟩) 0 0) 0 [] (by rfl) (own_empty ((Below.heap_alloc _ _ _ (by simp [World.drew])).trans (heap_alloc_self w1 _)) (by omega)) ⟨cb, co, none⟩ m.crafts.length cc (cellsC m.crafts) (by rfl) hcl (fun j u hu => by rw [add_plain']; exact HCW.out _ (((below1 w1 _).alloc (by simp) _).drew) j u hu) HONE.out hpos (by simp only [maxLen]; omega) (by omega) (by simp [World.drew] <;> omega) (w1.heap.size + 2) (by simp [World.drew]) ?_; intro gg cap w7 hown7 hgrow hat hlt; have hn7 : w7.heap.size ≠ w.heap.size := (by have h7 := hgrow.size; simp [World.drew] at h7; omega); have hn8 : (⟨w.heap.size, 1, none⟩ : Addr).block < w7.heap.size := (by have h7 := hgrow.size; simp [World.drew] at h7; show w.heap.size < w7.heap.size; omega); have g7 : w7.heap[w1.heap.size + 1]? = some (.cells #[.slice none 0 0, .slice none 0 0, .int .i64 0, .int .i64 0, .int .i64 0] 25 (0, 0)) := (hgrow.block _ (by simp [World.drew]; try omega) (by simp [Value.ownBlock])).trans (by simpa [World.drew] using heap_alloc_self (w1.alloc _) _); have q5 := blk5 g7; have fr7 := frozen_blk g7; obtain ⟨q0, q1, q2, q3, q4⟩ := q5))
      · have hO7 : w7.ownsRow w1.heap.size 57 3 (.slice (some ⟨gg, 0, none⟩) m.crafts.length cap) m.crafts.length (cellsC m.crafts) := by simpa using hown7
        have hb7 : Below w1.heap.size w1 w7 := (((below1 w1 _).drew)).grown hgrow (by simp [World.drew]) (fun k hk => by cases hk; exact Nat.le_refl _)
        have HF := Lib.hid (copy_box_new hb7 hO7)
        go_wp2_with fail
        go_meet
        exact HF.out
      · have hO7 : w7.ownsRow w1.heap.size 57 3 (.slice (some ⟨gg, 0, none⟩) m.crafts.length cap) m.crafts.length (cellsC m.crafts) := by simpa using hown7
        have hb7 : Below w1.heap.size w1 w7 := ((((below1 w1 _).alloc (by simp) _).drew)).grown hgrow (by simp [World.drew]; try omega) (fun k hk => by cases hk; exact Nat.le_refl _)
        have hgg : gg ≠ w1.heap.size + 1 := by
          rcases hat with h | h
          · simp [Value.ownBlock] at h; omega
          · omega
        have HF := Lib.hid (copy_box_set (by omega) hgg hb7 hO7 g7)
        go_wp2_with fail
        go_meet
        exact HF.out
      · have hO7 : w7.ownsRow w1.heap.size 57 3 (.slice (some ⟨gg, 0, none⟩) m.crafts.length cap) m.crafts.length (cellsC m.crafts) := by simpa using hown7
        have hb7 : Below w1.heap.size w1 w7 := ((((below1 w1 _).alloc (by simp) _).drew)).grown hgrow (by simp [World.drew]; try omega) (fun k hk => by cases hk; try simp)
        have hgg : gg ≠ w1.heap.size := by
          rcases hat with h | h
          · simp [Value.ownBlock] at h; omega
          · omega
        have HF := Lib.hid (copy_box_set (by omega) hgg hb7 hO7 g7)
        go_wp2_with fail
        go_meet
        exact HF.out
  case rest =>
    obtain ⟨g, cr', rfl, hg1, hgb, hgo, hgw⟩ := hcut
    obtain ⟨w2, rfl⟩ : ∃ w2, w2 = wc := ⟨_, rfl⟩
    have z12 := hgw.size
    obtain ⟨cA2, cn2, cd2, rfl⟩ := own_slice hgo
    have HC0 : Hid (CopyInv m w1 g (.slice cA2 cn2 cd2) (.slice none 0 0) 0 w2) := Lib.hid ⟨hgb, by simpa using OwnSl.nil w2 w1.heap.size, hgo, hgw⟩
    clear hgb hgo hgw
    go_wp2_with fail
    go_loopw [4] (fun c wr => ∃ j : Nat, j ≤ m.slopes.length ∧ c = .int .i64 (j : Int) ∧ ∃ A n cc, Hid (CopyInv m w1 g (.slice cA2 cn2 cd2) (.slice A n cc) j wr)) (fun c _ => m.slopes.length - (intOf c).toNat)
    case atStart => exact ⟨0, Nat.zero_le _, rfl, _, _, _, HC0⟩
    case round =>
      obtain ⟨j, hj, rfl, A, n, cc2, HI⟩ := hrel
      obtain ⟨wi, rfl⟩ : ∃ wi, wi = wr := ⟨_, rfl⟩
      have hza : w.heap.size + 2 ≤ w1.heap.size := Nat.le_of_eq HZ1.out.symm
      have zi := HI.out.below.size
      have hbr : Below w.heap.size w wi := H1.out.below.trans (HI.out.below.mono (by omega))
      obtain ⟨x0, x1, x2, x3, x4⟩ := blk5 (blk_below HI.out.below H1.out.box (by omega))
      by_cases hjl : j < m.slopes.length
      · have hji : (j : Int) < (m.slopes.length : Int) := by omega
        have hj0 : (0 : Int) ≤ (j : Int) := by omega
        have hjadd : IntKind.i64.wrap ((j : Int) + 1) = (j : Int) + 1 := IntWalk.i64_in _ (by omega)
        have hgj : m.slopes[j]? = some m.slopes[j] := List.getElem?_eq_getElem hjl
        have hts : m.slopes.take (j + 1) = m.slopes.take j ++ [m.slopes[j]] := List.take_succ_eq_append_getElem hjl
        have hjt : (m.slopes.take j).length = j := by rw [List.length_take]; omega
        obtain ⟨sb, so, rfl, hsb, hcs⟩ := HSS.out (by intro e; rw [e] at hjl; simp at hjl)
        obtain ⟨t, ⟨tA, tc, rfl, htr⟩, c0, c1, c2, c3, c4⟩ := hcs j _ hgj
        have hk : ∀ i, wi.cell? ⟨sb, i, none⟩ = w.cell? ⟨sb, i, none⟩ := fun i => hbr.cell (p := ⟨sb, i, none⟩) hsb
        have d0 := (hk _).trans c0
        have d1 := (hk _).trans c1
        have d2 := (hk _).trans c2
        have d3 := (hk _).trans c3
        have d4 := (hk _).trans c4
        have HTR := Lib.hid htr
        have HTS := Lib.hid hts
        have hx12 : m.slopes[j].takes.length ≤ 12 := HTK.out _ (List.getElem_mem hjl)
        have HJT := Lib.hid hjt
        have HBR := Lib.hid hbr
        clear hcs c0 c1 c2 c3 c4 hk htr hgj
        generalize m.slopes[j] = x at *
        clear hts hjt hbr
        go_upto_region 6 with fail
        obtain ⟨w5, hw5⟩ : ∃ w5, w5 = wi.alloc (.cells #[.int .i64 x.now, .int .i64 x.need, .int .i64 x.full, .int .i64 x.size, .slice tA x.takes.length tc] 55) := ⟨_, rfl⟩
        rw [← hw5]
        have z5 : w5.heap.size = wi.heap.size + 1 := by rw [hw5]; simp
        have b5 : w5.heap[wi.heap.size]? = some (.cells #[.int .i64 x.now, .int .i64 x.need, .int .i64 x.full, .int .i64 x.size, .slice tA x.takes.length tc] 55 (0, 0)) := by rw [hw5]; exact heap_alloc_self _ _
        have hb5 : Below wi.heap.size wi w5 := by rw [hw5]; exact below1 _ _
        have HB5 := Lib.hid (And.intro hb5 b5)
        have HZ5 := Lib.hid z5
        clear hw5 z5 hb5 b5 d0 d1 d2 d3 d4
        go_cut [] (fun wx => SlopeCopied wi x wx)
        case first =>
          have HW5 : Hid (∀ ob, Below wi.heap.size wi (w5.alloc ob)) := Lib.hid (fun ob => HB5.out.1.trans ((below1 w5 ob).mono HB5.out.1.size))
          have HB6 : Hid (∀ ob, (w5.alloc ob).heap[wi.heap.size]? = some (.cells #[.int .i64 x.now, .int .i64 x.need, .int .i64 x.full, .int .i64 x.size, .slice tA x.takes.length tc] 55 (0, 0))) := Lib.hid (fun ob => (Below.heap_alloc w5 ob _ (by have := HZ5.out; omega)).trans HB5.out.2)
          have e4 : ∀ ob, (w5.alloc ob).cell? ⟨wi.heap.size, 4, none⟩ = some (.slice tA x.takes.length tc) := fun ob => by rw [cell_blk (HB6.out ob)]; rfl
          have f4 : ∀ ob, (w5.alloc ob).frozen? ⟨wi.heap.size, 4, none⟩ = false := fun ob => frozen_blk (HB6.out ob) 4
          have hzi : wi.heap.size + 1 ≤ w5.heap.size := Nat.le_of_eq HZ5.out.symm
          by_cases hne : x.takes = []
          · have hl0 : x.takes.length = 0 := by rw [hne]; rfl
            have HL0 := Lib.hid (And.intro hne hl0)
            have hfin : SlopeCopied wi x ((w5.alloc (.cells #[] 3)).setCell ⟨wi.heap.size, 4, none⟩ (.slice (some ⟨w5.heap.size, 0, none⟩) 0 0)) := by
              have h := slope_copied (wr := wi) (x := x) (gg := w5.heap.size) (cap := 0) (by omega) (HW5.out (.cells #[] 3)) (HB6.out _) (by rw [hl0, hne]; exact own_empty (heap_alloc_self w5 _) (by omega))
              rw [hl0] at h
              exact h
            have HFIN := Lib.hid hfin
            clear hfin
            rw [hl0] at e4
            clear hne hl0
            cases tA with
            | none =>
              go_wp2_with fail
              go_meet
              exact HFIN.out
            | some ad =>
              go_wp2_with fail
              go_meet
              exact HFIN.out
          · obtain ⟨tb, tf, rfl, htb, htc⟩ := HTR.out.2 (by simpa using hne)
            have hpos : 0 < x.takes.length := List.length_pos_iff.2 hne
            have hnews : ∀ ob k u, (x.takes.map (Value.int .i64))[k]? = some u → (w5.alloc ob).cell? ((⟨tb, tf, none⟩ : Addr).add k) = some u := by
              intro ob k u hu
              rw [add_plain']
              exact ((HBR.out.trans ((HW5.out ob).mono HBR.out.size)).cell (p := ⟨tb, tf + k, none⟩) htb).trans (htc k u hu)
            have HNEWS := Lib.hid hnews
            have hlen : x.takes.length ≤ 9223372036854775807 := by have := HTR.out.1; simpa using this
            obtain ⟨i0, hi, hz0, hz1, hz2⟩ := info_parts infoInt
            have hne5 : some wi.heap.size ≠ Value.ownBlock (.slice (some ⟨w5.heap.size, 0, none⟩) 0 0) := fun e => by
              have e2 : wi.heap.size = w5.heap.size := by injection e
              omega
            have HNE5 := Lib.hid hne5
            clear hnews htc hne5
            go_wp2_with (at_builtin; (refine wpList_append_lies _ rfl _ _ 36 rfl wi.heap.size 3 i0 (.int .i64 0) 1 8 Try.underlying36 hi hz0 hz1 hz2 rfl (by decide) _ 0 [] rfl (own_empty (heap_alloc_self w5 _) (by omega)) ⟨tb, tf, none⟩ x.takes.length tc (x.takes.map (Value.int .i64)) rfl (by simp) (HNEWS.out _) (by simp [Value.oneCell']) hpos (by simp only [maxLen]; omega) (by omega) (by simp; omega) (w5.heap.size + 1) (by simp) ?_); intro gg cap w7 hown7 hg7 hat7 hlt7; have b7 : w7.heap[wi.heap.size]? = some (.cells #[.int .i64 x.now, .int .i64 x.need, .int .i64 x.full, .int .i64 x.size, .slice (some ⟨tb, tf, none⟩) x.takes.length tc] 55 (0, 0)) := (hg7.block _ (by simp; omega) HNE5.out).trans (HB6.out _); have q5 := blk5 b7; have fr7 := frozen_blk b7; obtain ⟨q0, q1, q2, q3, q4⟩ := q5; have HO7 := Lib.hid (And.intro hown7 (And.intro hg7 (And.intro hat7 b7))); clear hown7 hg7 hat7 b7)
            obtain ⟨hown7, hg7, hat7, b7⟩ := HO7.out
            have hb7 : Below wi.heap.size wi w7 := (HW5.out _).grown hg7 (by simp; omega) (fun k hk => by
              have e2 : w5.heap.size = k := by injection hk
              omega)
            have hgg : gg ≠ wi.heap.size := by
              rcases hat7 with h | h
              · have e2 : w5.heap.size = gg := by injection h
                omega
              · omega
            have HFIN := Lib.hid (slope_copied hgg hb7 b7 (by simpa using hown7))
            go_wp2_with fail
            go_meet
            exact HFIN.out
        case rest =>
          obtain ⟨k, c, hc⟩ := hcut
          obtain ⟨wx, rfl⟩ : ∃ wx, wx = wc := ⟨_, rfl⟩
          obtain ⟨us, ks, a1, a2, a3, a4, a5⟩ := HI.out.slopes
          have zx := hc.below.size
          have hgx := blk_below hc.below HI.out.box (lt_blk HI.out.box)
          obtain ⟨g0, g1, g2, g3, g4⟩ := blk5 hgx
          obtain ⟨y0, y1, y2, y3, y4⟩ := blk5 hc.box
          have hHC := Lib.hid hc
          have HA := Lib.hid (And.intro a1 (And.intro a2 (And.intro a3 a5)))
          have HA4 := Lib.hid a4
          have a4' : ∀ W, Below wi.heap.size wi W → W.ownsRow w1.heap.size 55 5 (.slice A n cc2) j (cellsSl (m.slopes.take j) us) := fun W hW => by
            have := own_below a4 hW (fun k hk => (own_blk_lt a4 k hk).2)
            rwa [HJT.out] at this
          have HA4' := Lib.hid a4'
          clear a1 a2 a3 a4 a5 a4' hc hgx x0 x1 x2 x3 x4
          go_wp2_with (at_builtin; (refine wpList_app2 w1.heap.size _ _ 22 55 (.agg #[.int .i64 0, .int .i64 0, .int .i64 0, .int .i64 0, .slice none 0 0]) 5 56 [.int .i64 x.now, .int .i64 x.need, .int .i64 x.full, .int .i64 x.size, .slice (some ⟨k, 0, none⟩) x.takes.length c] (by rfl) (by rfl) Try.underlying22 infoSlopeS rfl (by decide) (by decide) (.slice A n cc2) j (cellsSl (m.slopes.take j) us) (by rfl) wx.heap.size (by rfl) (heap_alloc_self _ _) rfl (by simp [Value.oneCell']) (HA4'.out _ (hHC.out.below.trans ((below1 _ _).mono zx))) (by omega) (by simp; omega) ?_); intro v8 w8 hown8 hg8 hat8 hb8; obtain ⟨A8, n8, c8, rfl⟩ := own_slice hown8; have hrd := copy_round HI.out HTS.out HJT.out hHC.out (below1 wx (.cells #[.int .i64 x.now, .int .i64 x.need, .int .i64 x.full, .int .i64 x.size, .slice (some ⟨k, 0, none⟩) x.takes.length c] 55)) HA.out.1 HA.out.2.1 HA.out.2.2.1 HA4.out HA.out.2.2.2 hown8 hg8 hb8 hg1; obtain ⟨k8, hrd⟩ := hrd; have HRD := Lib.hid hrd; have fr8 := frozen_blk k8; obtain ⟨r0, r1, r2, r3, r4⟩ := blk5 k8; clear hown8 hg8 hat8 hb8 k8 hrd)
          go_round
          case rel => exact ⟨j + 1, by omega, by go_num, _, _, _, HRD⟩
          case measure => simp [intOf]; omega
      · obtain rfl : j = m.slopes.length := by omega
        have hji : ¬ ((m.slopes.length : Int) < (m.slopes.length : Int)) := by omega
        obtain ⟨g0, g1, g2, g3, g4⟩ := blk5 HI.out.box
        have hrb : w1.heap[w.heap.size + 1]? = some (.cells #[.slice none 0 0, .slice none 0 0, .int .i64 0, .int .i64 0, .int .i64 0] 25 (0, 0)) := by
          have h := heap_alloc_self w0 (.cells #[.slice none 0 0, .slice none 0 0, .int .i64 0, .int .i64 0, .int .i64 0] 25)
          rw [← HW1.out, HZ0.out] at h
          exact h
        have hrb2 := blk_below HI.out.below hrb (by omega)
        obtain ⟨r0, r1, r2, r3, r4⟩ := blk5 hrb2
        have fr := frozen_blk hrb2
        have HE := fun v0 v1 v2 v3 v4 => Lib.hid (copy_end (v0 := v0) (v1 := v1) (v2 := v2) (v3 := v3) (v4 := v4) HI.out HZ1.out H1.out.below)
        have HG : ∀ v0 v1 v2 v3 v4, Hid ((((((wi.setCell ⟨w.heap.size + 1, 0, none⟩ v0).setCell ⟨w.heap.size + 1, 1, none⟩ v1).setCell ⟨w.heap.size + 1, 2, none⟩ v2).setCell ⟨w.heap.size + 1, 3, none⟩ v3).setCell ⟨w.heap.size + 1, 4, none⟩ v4).heap[w.heap.size + 1]? = some (.cells #[v0, v1, v2, v3, v4] 25 (0, 0))) := fun v0 v1 v2 v3 v4 => Lib.hid (by rw [heap_set (heap_set (heap_set (heap_set (heap_set hrb2 0 _) 1 _) 2 _) 3 _) 4 _]; rfl)
        clear hrb hrb2
        go_wp2_with fail
        exact bodyPost_ret (results_cell_row (by rfl) _ _ (w.heap.size + 1) 25 _ (0, 0) _ (by rfl) (HG _ _ _ _ _).out Try.underlying25 (by rfl) infoWorksZ) (by rfl) (HE _ _ _ _ _).out
end Go.Proofs.Ytccplobhfokcgaa

/- The changed copy of works, in memory. -/
namespace Go.Proofs.Ytccplobhfokcgaa
open Go Go.RowKit Go.Shelf
set_option maxRecDepth 100000

theorem own_setG {w : World} {B k c n size : Nat} {t : TypeId} {xs : List Value} (h : w.ownsRow B t size (.slice (some ⟨k, 0, none⟩) n c) n xs) (s : Nat) (u : Value) :
    (w.setCell ⟨k, s, none⟩ u).ownsRow B t size (.slice (some ⟨k, 0, none⟩) n c) n (xs.set s u) := by
  have hl := h.1
  rcases h.2 with ⟨h1, _⟩ | ⟨g, cap, cur, hv, hB, hh, hc, hm, hsz, ht⟩
  · cases h1
  · cases hv
    refine ⟨by simpa using hl, .inr ⟨k, c, cur.setIfInBounds s u, rfl, hB, heap_set hh s _, hc, hm, by simpa using hsz, ?_⟩⟩
    rw [Array.toList_setIfInBounds, ← ht, List.take_set]
/-- What stands in an owned row's block. -/
theorem own_cells {w : World} {B k c n size : Nat} {t : TypeId} {xs : List Value} (h : w.ownsRow B t size (.slice (some ⟨k, 0, none⟩) n c) n xs) : ∀ j u, xs[j]? = some u → w.cell? ⟨k, j, none⟩ = some u := by
  intro j u hj
  rcases h.2 with ⟨h1, _⟩ | ⟨g, cap, cur, hv, hB, hh, hc, hm, hsz, ht⟩
  · cases h1
  · cases hv
    have hjl := (List.getElem?_eq_some_iff.1 hj).1
    rw [h.1] at hjl
    rw [cell_blk hh]
    rw [← ht, List.getElem?_take, if_pos hjl, Array.getElem?_toList] at hj
    exact hj
theorem own_frozen {w : World} {B k c n size : Nat} {t : TypeId} {xs : List Value} (h : w.ownsRow B t size (.slice (some ⟨k, 0, none⟩) n c) n xs) (i : Nat) : w.frozen? ⟨k, i, none⟩ = false := by
  obtain ⟨cur, hc⟩ := own_type h k rfl
  exact frozen_blk hc i
theorem own_slopesAt {w : World} {B : Nat} {v : Value} {ss : List Slope} (h : OwnSl w B v ss) (hl : ss.length ≤ 9223372036854775807) (hT : ∀ s ∈ ss, s.takes.length ≤ 9223372036854775807) : SlopesAt w w.heap.size v ss := by
  obtain ⟨us, ks, h1, h2, h3, h4, h5⟩ := h
  rcases id h4.2 with ⟨e, h0⟩ | ⟨g, cap, cur, e, hB, hh, hc, hm, hsz, ht⟩
  · subst e
    exact ⟨none, 0, by rw [h0], hl, fun hne => absurd (List.eq_nil_of_length_eq_zero h0) hne⟩
  · subst e
    refine ⟨some ⟨g, 0, none⟩, cap, rfl, hl, fun hne => ⟨g, 0, rfl, lt_blk hh, fun i s hs => ?_⟩⟩
    obtain ⟨k, c, e1, e2, e3⟩ := h5 i s hs
    obtain ⟨c0, c1, c2, c3, c4⟩ := cellsSl_at ss us i hs e2
    have hat := own_cells h4
    refine ⟨_, ⟨some ⟨k, 0, none⟩, c, rfl, by simpa using hT s (List.mem_of_getElem? hs), fun _ => ⟨k, 0, rfl, (own_blk_lt e3 k rfl).2, fun j u hu => ?_⟩⟩, ?_, ?_, ?_, ?_, ?_⟩
    · rw [Nat.zero_add]; exact own_cells e3 j u hu
    all_goals rw [Nat.zero_add]
    · exact hat _ _ c0
    · exact hat _ _ c1
    · exact hat _ _ c2
    · exact hat _ _ c3
    · exact hat _ _ c4
theorem own_craftsAt {w : World} {B : Nat} {v : Value} {cs : List Craft} (h : w.ownsRow B 57 3 v cs.length (cellsC cs)) (hl : cs.length ≤ 9223372036854775807) : CraftsAt w w.heap.size v cs := by
  rcases id h.2 with ⟨e, h0⟩ | ⟨g, cap, cur, e, hB, hh, hc, hm, hsz, ht⟩
  · subst e
    exact ⟨none, 0, by rw [h0], hl, fun hne => absurd (List.eq_nil_of_length_eq_zero h0) hne⟩
  · subst e
    refine ⟨some ⟨g, 0, none⟩, cap, rfl, hl, fun hne => ⟨g, 0, rfl, lt_blk hh, fun i s hs => ?_⟩⟩
    obtain ⟨c0, c1, c2⟩ := cellsC_at hs
    have hat := own_cells h
    simp only [Nat.zero_add]
    exact ⟨hat _ _ c0, hat _ _ c1, hat _ _ c2⟩
/-- What is known of one slope in a list of one's own. -/
structure SlAt (w : World) (b : Nat) (i : Nat) (x : Slope) (k c : Nat) : Prop where
  now : w.cell? ⟨b, i * 5, none⟩ = some (.int .i64 x.now)
  need : w.cell? ⟨b, i * 5 + 1, none⟩ = some (.int .i64 x.need)
  full : w.cell? ⟨b, i * 5 + 2, none⟩ = some (.int .i64 x.full)
  size : w.cell? ⟨b, i * 5 + 3, none⟩ = some (.int .i64 x.size)
  takes : w.cell? ⟨b, i * 5 + 4, none⟩ = some (.slice (some ⟨k, 0, none⟩) x.takes.length c)
  fr : ∀ j, w.frozen? ⟨b, j, none⟩ = false
  frk : ∀ j, w.frozen? ⟨k, j, none⟩ = false
  each : ∀ (j : Nat) (t : Int), x.takes[j]? = some t → w.cell? ⟨k, j, none⟩ = some (.int .i64 t)
  ne : k ≠ b
  blk : ∃ cur, w.heap[k]? = some (.cells cur 3 (0, 0))
theorem OwnSl.form {w : World} {B : Nat} {v : Value} {ss : List Slope} (h : OwnSl w B v ss) {i : Nat} {x : Slope} (hx : ss[i]? = some x) : ∃ b cc k c, v = .slice (some ⟨b, 0, none⟩) ss.length cc ∧ B ≤ b ∧ B ≤ k ∧ b < w.heap.size ∧ k < w.heap.size ∧ SlAt w b i x k c := by
  obtain ⟨us, ks, h1, h2, h3, h4, h5⟩ := h
  have hil := (List.getElem?_eq_some_iff.1 hx).1
  obtain ⟨k, c, e1, e2, e3⟩ := h5 i x hx
  obtain ⟨b, cc, rfl, hB, hlt⟩ := h4.form (by omega)
  obtain ⟨c0, c1, c2, c3, c4⟩ := cellsSl_at ss us i hx e2
  have hat := own_cells h4
  have hkb := own_blk_lt e3 k rfl
  refine ⟨b, cc, k, c, rfl, hB, hkb.1, hlt, hkb.2, hat _ _ c0, hat _ _ c1, hat _ _ c2, hat _ _ c3, hat _ _ c4, own_frozen h4, own_frozen e3, fun j t ht => own_cells e3 j _ (by rw [List.getElem?_map, ht]; rfl), fun e => ?_, own_type e3 _ rfl⟩
  subst e
  obtain ⟨q1, hq1⟩ := own_type h4 _ rfl
  obtain ⟨q2, hq2⟩ := own_type e3 _ rfl
  rw [hq1] at hq2
  simp at hq2
theorem cellsSl_set {x' : Slope} {u : Value} : ∀ (ss : List Slope) (us : List Value) (i : Nat) (x : Slope), ss[i]? = some x → us[i]? = some u → us.length = ss.length → ∀ (f : Nat) (n : Value), f < 5 →
    [Value.int .i64 x.now, .int .i64 x.need, .int .i64 x.full, .int .i64 x.size, u].set f n = [Value.int .i64 x'.now, .int .i64 x'.need, .int .i64 x'.full, .int .i64 x'.size, u] →
    cellsSl (ss.set i x') us = (cellsSl ss us).set (i * 5 + f) n
  | [], _, i, x, h, _, _, _, _, _, _ => by simp at h
  | y :: ss, [], i, x, _, h, _, _, _, _, _ => by simp at h
  | y :: ss, v :: us, 0, x, h, k, _, f, n, hf, hs => by
    simp at h k
    subst h; subst k
    simp only [List.set_cons_zero, cellsSl]
    have e : ∀ (L M : List Value) (t : List Value), f < L.length → L.set f n = M → M ++ t = (L ++ t).set (0 * 5 + f) n := by
      intro L M t hfl hL
      rw [Nat.zero_mul, Nat.zero_add, ← hL, List.set_append, if_pos hfl]
    exact e _ _ _ (by simpa using hf) hs
  | y :: ss, v :: us, i + 1, x, h, k, hl, f, n, hf, hs => by
    have ih := cellsSl_set (x' := x') (u := u) ss us i x (by simpa using h) (by simpa using k) (by simpa using hl) f n hf hs
    simp only [List.set_cons_succ, cellsSl, ih]
    rw [show (i + 1) * 5 + f = (((((i * 5 + f) + 1) + 1) + 1) + 1) + 1 by omega]
    simp only [List.set_cons_succ]
/-- One field of one slope, stored. -/
theorem OwnSl.setF {w : World} {B b cc i f : Nat} {ss : List Slope} {x x' : Slope} {n : Value} (h : OwnSl w B (.slice (some ⟨b, 0, none⟩) ss.length cc) ss) (hx : ss[i]? = some x) (hf : f < 5) (ht : x'.takes = x.takes)
    (hs : ∀ u, [Value.int .i64 x.now, .int .i64 x.need, .int .i64 x.full, .int .i64 x.size, u].set f n = [Value.int .i64 x'.now, .int .i64 x'.need, .int .i64 x'.full, .int .i64 x'.size, u]) :
    OwnSl (w.setCell ⟨b, i * 5 + f, none⟩ n) B (.slice (some ⟨b, 0, none⟩) ss.length cc) (ss.set i x') := by
  obtain ⟨us, ks, h1, h2, h3, h4, h5⟩ := h
  have hil := (List.getElem?_eq_some_iff.1 hx).1
  obtain ⟨k, c, e1, e2, e3⟩ := h5 i x hx
  refine ⟨us, ks, by simpa using h1, by simpa using h2, h3, ?_, fun j s hj => ?_⟩
  · rw [List.length_set, cellsSl_set ss us i x hx e2 h1 f n hf (hs _)]
    exact own_setG h4 _ _
  · have key : ∀ (k c n0 : Nat) (xs : List Value), w.ownsRow B 3 1 (.slice (some ⟨k, 0, none⟩) n0 c) n0 xs → (w.setCell ⟨b, i * 5 + f, none⟩ n).ownsRow B 3 1 (.slice (some ⟨k, 0, none⟩) n0 c) n0 xs := fun k c n0 xs hk =>
      own_kept hk fun k' e => Below.heap_setCell _ _ _ _ (fun e' => by
        change k' = b at e'
        subst e'
        obtain ⟨q1, hq1⟩ := own_type h4 _ rfl
        obtain ⟨q2, hq2⟩ := own_type hk _ e
        rw [hq1] at hq2
        simp at hq2)
    rw [List.getElem?_set] at hj
    by_cases hij : i = j
    · subst hij
      rw [if_pos rfl, if_pos hil] at hj
      have : x' = s := by simpa using hj
      subst this
      rw [ht]
      exact ⟨k, c, e1, e2, key _ _ _ _ e3⟩
    · rw [if_neg hij] at hj
      obtain ⟨k', c', e4, e5, e6⟩ := h5 j s hj
      exact ⟨k', c', e4, e5, key _ _ _ _ e6⟩
theorem cellsSl_same {x x' : Slope} (h0 : x'.now = x.now) (h1 : x'.need = x.need) (h2 : x'.full = x.full) (h3 : x'.size = x.size) : ∀ (ss : List Slope) (us : List Value) (i : Nat), ss[i]? = some x → cellsSl (ss.set i x') us = cellsSl ss us
  | [], _, i, h => by simp at h
  | y :: ss, [], 0, h => rfl
  | y :: ss, [], i + 1, h => rfl
  | y :: ss, v :: us, 0, h => by
    simp at h
    subst h
    simp only [List.set_cons_zero, cellsSl, h0, h1, h2, h3]
  | y :: ss, v :: us, i + 1, h => by
    have ih := cellsSl_same h0 h1 h2 h3 ss us i (by simpa using h)
    simp only [List.set_cons_succ, cellsSl, ih]
/-- One of a slope's takes, stored. -/
theorem OwnSl.setT {w : World} {B b cc i k c : Nat} {ss : List Slope} {x : Slope} (h : OwnSl w B (.slice (some ⟨b, 0, none⟩) ss.length cc) ss) (hx : ss[i]? = some x) (ha : SlAt w b i x k c) (j : Nat) (t : Int) :
    OwnSl (w.setCell ⟨k, j, none⟩ (.int .i64 t)) B (.slice (some ⟨b, 0, none⟩) ss.length cc) (ss.set i { x with takes := x.takes.set j t }) := by
  obtain ⟨us, ks, h1, h2, h3, h4, h5⟩ := h
  have hil := (List.getElem?_eq_some_iff.1 hx).1
  obtain ⟨k1, c1, e1, e2, e3⟩ := h5 i x hx
  obtain ⟨_, _, _, _, d4⟩ := cellsSl_at ss us i hx e2
  have d5 := (own_cells h4 _ _ d4).symm.trans ha.takes
  simp at d5
  obtain ⟨rfl, rfl⟩ := d5
  refine ⟨us, ks, by simpa using h1, by simpa using h2, h3, ?_, fun j' s hj => ?_⟩
  · rw [List.length_set, cellsSl_same (x := x) (x' := { x with takes := x.takes.set j t }) rfl rfl rfl rfl ss us i hx]
    exact own_kept h4 fun k' e => Below.heap_setCell _ _ _ _ (fun e' => by
      change k' = k1 at e'
      have : b = k' := by simpa [Value.ownBlock] using e
      exact ha.ne (by omega))
  · rw [List.getElem?_set] at hj
    by_cases hij : i = j'
    · subst hij
      rw [if_pos rfl, if_pos hil] at hj
      have : { x with takes := x.takes.set j t } = s := by simpa using hj
      subst this
      refine ⟨k1, c1, e1, by simpa using e2, ?_⟩
      simp only [List.length_set]
      exact own_set e3 t
    · rw [if_neg hij] at hj
      obtain ⟨k', c', e4, e5, e6⟩ := h5 j' s hj
      refine ⟨k', c', e4, e5, own_kept e6 fun k2 hk2 => Below.heap_setCell _ _ _ _ (fun e => ?_)⟩
      have e7 : k' = k2 := by simpa [Value.ownBlock] using hk2
      subst e7
      change k' = k1 at e
      subst e
      have hjl := (List.getElem?_eq_some_iff.1 e4).1
      have hib := (List.getElem?_eq_some_iff.1 e1).1
      have h11 := (List.getElem?_eq_some_iff.1 e4).2
      have h12 := (List.getElem?_eq_some_iff.1 e1).2
      have hp := List.pairwise_iff_getElem.1 h3
      rcases Nat.lt_or_gt_of_ne hij with hlt | hlt
      · exact hp i j' hib hjl hlt (h12.trans h11.symm)
      · exact hp j' i hjl hib hlt (h11.trans h12.symm)
/-- The takes, the first ones turned. -/
def milderTo (x : Slope) (n : Int) (j : Nat) : Slope := { x with takes := (x.takes.take j).map (fun t => max (t - n) 0) ++ x.takes.drop j }
theorem milderTo_zero (x : Slope) (n : Int) : milderTo x n 0 = x := by simp [milderTo]
theorem milderTo_all (x : Slope) (n : Int) : milderTo x n x.takes.length = milder x n := by simp [milderTo, milder]
theorem milderTo_len (x : Slope) (n : Int) (j : Nat) : (milderTo x n j).takes.length = x.takes.length := by
  simp only [milderTo, List.length_append, List.length_map, List.length_take, List.length_drop]; omega
theorem milderTo_at {x : Slope} {n : Int} {j : Nat} (h : j < x.takes.length) : (milderTo x n j).takes[j]? = some x.takes[j] := by
  simp only [milderTo]
  rw [List.getElem?_append_right (by rw [List.length_map, List.length_take]; omega), List.length_map, List.length_take, Nat.min_eq_left (Nat.le_of_lt h), Nat.sub_self, List.getElem?_drop, Nat.add_zero]
  exact List.getElem?_eq_getElem h
theorem milderTo_succ {x : Slope} {n : Int} {j : Nat} (h : j < x.takes.length) : { milderTo x n j with takes := (milderTo x n j).takes.set j (max (x.takes[j] - n) 0) } = milderTo x n (j + 1) := by
  simp only [milderTo, Slope.mk.injEq, true_and]
  have h1 : ((x.takes.take j).map (fun t => max (t - n) 0)).length = j := by rw [List.length_map, List.length_take]; omega
  rw [List.set_append, if_neg (by omega), h1, Nat.sub_self, List.take_succ_eq_append_getElem h, List.map_append, List.append_assoc]
  congr 1
  rw [List.drop_eq_getElem_cons h]
  rfl
end Go.Proofs.Ytccplobhfokcgaa

/- MendEasier: the walk. -/
namespace Go.Proofs.Ytccplobhfokcgaa
open Go Go.RowKit Go.Shelf
set_option maxRecDepth 100000

/-- The changed works in their box. -/
structure EasyIn (m m' : Wk) (last : Bool) (wr : World) (g : Nat) (v cr : Value) (W : World) : Prop where
  box : W.heap[g]? = some (.cells #[v, cr, .int .i64 m'.years, .int .i64 m'.visit, .int .i64 m'.hands] 25 (0, 0))
  slopes : SlopesAt W W.heap.size v m'.slopes
  crafts : CraftsAt W W.heap.size cr m'.crafts
  below : Below wr.heap.size wr W
  easier : Easier m m'
  check : checkS m' = 0 ∨ last = true ∧ checkS m' = 1
def EasyAt (m : Wk) (last : Bool) (wr : World) (g : Nat) (W : World) : Prop := ∃ m' v cr, EasyIn m m' last wr g v cr W
theorem EasyAt.drew {m : Wk} {last : Bool} {wr : World} {g : Nat} {W : World} (h : EasyAt m last wr g W) : EasyAt m last wr g W.drew := by
  obtain ⟨m', v, cr, h1, h2, h3, h4, h5, h6⟩ := h
  exact ⟨m', v, cr, h1, h2, h3, h4.drew, h5, h6⟩
/-- The copy in its box, its parts of its own. -/
structure OwnIn (m' : Wk) (wr : World) (g : Nat) (v cr : Value) (W : World) : Prop where
  box : W.heap[g]? = some (.cells #[v, cr, .int .i64 m'.years, .int .i64 m'.visit, .int .i64 m'.hands] 25 (0, 0))
  slopes : OwnSl W wr.heap.size v m'.slopes
  crafts : W.ownsRow wr.heap.size 57 3 cr m'.crafts.length (cellsC m'.crafts)
  below : Below wr.heap.size wr W
  at_ : wr.heap.size ≤ g
theorem OwnIn.drew {m' : Wk} {wr : World} {g : Nat} {v cr : Value} {W : World} (h : OwnIn m' wr g v cr W) : OwnIn m' wr g v cr W.drew := by
  obtain ⟨h1, h2, h3, h4, h5⟩ := h
  exact ⟨h1, h2, h3, h4.drew, h5⟩
theorem OwnIn.easy {m m' : Wk} {last : Bool} {wr : World} {g : Nat} {v cr : Value} {W : World} (h : OwnIn m' wr g v cr W) (he : Easier m m') (hc : checkS m' = 0 ∨ last = true ∧ checkS m' = 1) (h4 : m'.slopes.length ≤ 4) (ht : ∀ s ∈ m'.slopes, s.takes.length ≤ 12) (hcr : m'.crafts.length ≤ 4) : EasyAt m last wr g W :=
  ⟨m', v, cr, h.box, own_slopesAt h.slopes (by omega) (fun s hs => by have := ht s hs; omega), own_craftsAt h.crafts (by omega), h.below, he, hc⟩
theorem OwnIn.easy_ok {m m' : Wk} {wr : World} {g : Nat} {v cr : Value} {W : World} (h : OwnIn m' wr g v cr W) (he : Easier m m') (hm : m'.Ok) : EasyAt m false wr g W :=
  h.easy he (.inl (checkS_of hm)) hm.few (fun s hs => (hm.slopes s hs).len) hm.crafts
/-- A field of a slope is stored. -/
theorem OwnIn.setF {m' : Wk} {wr : World} {g b cc i f : Nat} {cr : Value} {W : World} {x x' : Slope} {n : Value} (h : OwnIn m' wr g (.slice (some ⟨b, 0, none⟩) m'.slopes.length cc) cr W) (hx : m'.slopes[i]? = some x) (hb : wr.heap.size ≤ b) (hf : f < 5) (ht : x'.takes = x.takes)
    (hs : ∀ u, [Value.int .i64 x.now, .int .i64 x.need, .int .i64 x.full, .int .i64 x.size, u].set f n = [Value.int .i64 x'.now, .int .i64 x'.need, .int .i64 x'.full, .int .i64 x'.size, u]) :
    OwnIn (turnS m' i x') wr g (.slice (some ⟨b, 0, none⟩) m'.slopes.length cc) cr (W.setCell ⟨b, i * 5 + f, none⟩ n) := by
  have hty : ∃ cur, W.heap[b]? = some (.cells cur 55 (0, 0)) := by
    obtain ⟨us, ks, h1, h2, h3, h4, h5⟩ := h.slopes
    exact own_type h4 b rfl
  obtain ⟨cur, hcur⟩ := hty
  refine ⟨(Below.heap_setCell _ _ _ _ (fun e => ?_)).trans h.box, h.slopes.setF hx hf ht hs, own_kept h.crafts (fun k hk => Below.heap_setCell _ _ _ _ (fun e => ?_)), h.below.setCell (p := ⟨b, i * 5 + f, none⟩) hb _, h.at_⟩
  · change g = b at e
    subst e
    have := h.box
    rw [hcur] at this
    simp at this
  · change k = b at e
    subst e
    obtain ⟨q, hq⟩ := own_type h.crafts _ hk
    rw [hcur] at hq
    simp at hq
/-- One of a slope's takes is stored. -/
theorem OwnIn.setT {m' : Wk} {wr : World} {g b cc i k c : Nat} {cr : Value} {W : World} {x : Slope} (h : OwnIn m' wr g (.slice (some ⟨b, 0, none⟩) m'.slopes.length cc) cr W) (hx : m'.slopes[i]? = some x) (ha : SlAt W b i x k c) (hk : wr.heap.size ≤ k) (j : Nat) (t : Int) :
    OwnIn (turnS m' i { x with takes := x.takes.set j t }) wr g (.slice (some ⟨b, 0, none⟩) m'.slopes.length cc) cr (W.setCell ⟨k, j, none⟩ (.int .i64 t)) := by
  obtain ⟨cur, hcur⟩ := ha.blk
  refine ⟨(Below.heap_setCell _ _ _ _ (fun e => ?_)).trans h.box, h.slopes.setT hx ha j t, own_kept h.crafts (fun k' hk' => Below.heap_setCell _ _ _ _ (fun e => ?_)), h.below.setCell (p := ⟨k, j, none⟩) hk _, h.at_⟩
  · change g = k at e
    subst e
    have := h.box
    rw [hcur] at this
    simp at this
  · change k' = k at e
    subst e
    obtain ⟨q, hq⟩ := own_type h.crafts _ hk'
    rw [hcur] at hq
    simp at hq
/-- A hand more. -/
theorem OwnIn.hand {m' : Wk} {wr : World} {g : Nat} {v cr : Value} {W : World} (h : OwnIn m' wr g v cr W) (n : Int) : OwnIn { m' with hands := n } wr g v cr (W.setCell ⟨g, 4, none⟩ (.int .i64 n)) := by
  refine ⟨(heap_set h.box 4 _).trans rfl, h.slopes.kept (fun k cs t _ hk ht => Below.heap_setCell _ _ _ _ (fun e => ?_)), own_kept h.crafts (fun k hk => Below.heap_setCell _ _ _ _ (fun e => ?_)), h.below.setCell (p := ⟨g, 4, none⟩) h.at_ _, h.at_⟩
  · change k = g at e
    subst e
    rw [h.box] at hk
    rcases ht with ht | ht <;> subst ht <;> simp at hk
  · change k = g at e
    subst e
    obtain ⟨q, hq⟩ := own_type h.crafts _ hk
    rw [h.box] at hq
    simp at hq
/-- A craft more. -/
theorem OwnIn.craft {m' : Wk} {wr : World} {g : Nat} {v cr cr8 : Value} {W W0 w8 : World} {c : Craft} (h : OwnIn m' wr g v cr W) (hb : Below W.heap.size W W0)
    (hown : w8.ownsRow wr.heap.size 57 3 cr8 (m'.crafts.length + 1) (cellsC m'.crafts ++ [.int .i64 c.add, .int .i64 c.price, .bool c.strip])) (hg : W0.grownBy w8 cr.ownBlock) (hb8 : Below wr.heap.size W0 w8) :
    w8.heap[g]? = some (.cells #[v, cr, .int .i64 m'.years, .int .i64 m'.visit, .int .i64 m'.hands] 25 (0, 0)) ∧ OwnIn (craftier m' c) wr g v cr8 (w8.setCell ⟨g, 1, none⟩ cr8) := by
  have z1 := h.below.size
  have hbx := blk_below hb h.box (lt_blk h.box)
  have hc0 := own_below h.crafts hb (fun k hk => (own_blk_lt h.crafts k hk).2)
  have hs0 : OwnSl W0 wr.heap.size v m'.slopes := h.slopes.kept (fun k cs t _ hk _ => hb.block k (lt_blk hk))
  have hg8 : w8.heap[g]? = some (.cells #[v, cr, .int .i64 m'.years, .int .i64 m'.visit, .int .i64 m'.hands] 25 (0, 0)) := by
    rw [hg.block g (lt_blk hbx) (fun e => ?_)]
    · exact hbx
    · obtain ⟨q, hq⟩ := own_type hc0 g e.symm
      rw [hbx] at hq
      simp at hq
  have hs8 : OwnSl w8 wr.heap.size v m'.slopes := hs0.kept (fun k cs t _ hk ht => hg.block k (lt_blk hk) (fun e => by
    obtain ⟨q, hq⟩ := own_type hc0 k e.symm
    rw [hq] at hk
    rcases ht with ht | ht <;> subst ht <;> simp at hk))
  refine ⟨hg8, (heap_set hg8 1 _).trans rfl, hs8.kept (fun k cs t _ hk ht => Below.heap_setCell _ _ _ _ (fun e => ?_)), ?_, ((h.below.trans (hb.mono z1)).trans hb8).setCell (p := ⟨g, 1, none⟩) h.at_ _, h.at_⟩
  · change k = g at e
    subst e
    rw [hg8] at hk
    rcases ht with ht | ht <;> subst ht <;> simp at hk
  · have e : cellsC (craftier m' c).crafts = cellsC m'.crafts ++ [.int .i64 c.add, .int .i64 c.price, .bool c.strip] := by simp [craftier, cellsC]
    have e2 : (craftier m' c).crafts.length = m'.crafts.length + 1 := by simp [craftier]
    rw [e, e2]
    refine own_kept hown (fun k hk => Below.heap_setCell _ _ _ _ (fun e => ?_))
    change k = g at e
    subst e
    obtain ⟨q, hq⟩ := own_type hown _ hk
    rw [hg8] at hq
    simp at hq
theorem turnS_turnS (m : Wk) (i : Nat) (x y : Slope) : turnS (turnS m i x) i y = turnS m i y := by simp [turnS]
theorem turnS_same {m : Wk} {i : Nat} {x : Slope} (h : m.slopes[i]? = some x) : turnS m i x = m := by
  obtain ⟨hl, e⟩ := List.getElem?_eq_some_iff.1 h
  unfold turnS
  rw [← e, List.set_getElem_self]
end Go.Proofs.Ytccplobhfokcgaa

/- MendEasier. -/
namespace Go.Proofs.Ytccplobhfokcgaa
open Go Go.RowKit Go.Shelf
set_option maxRecDepth 100000

set_option maxHeartbeats 16000000 in
theorem mendEasier_calls (m : Wk) (sl cr : Value) (which by_ : Int) (c : Craft) (w : World) (hsl : SlopesAt w w.heap.size sl m.slopes) (hcr : CraftsAt w w.heap.size cr m.crafts) (hby : 0 ≤ by_ ∧ by_ ≤ 255) :
    Calls Try.prog 9 #[.agg #[sl, cr, .int .i64 m.years, .int .i64 m.visit, .int .i64 m.hands], .int .i64 which, .int .u8 by_, .agg #[.int .i64 c.add, .int .i64 c.price, .bool c.strip]] w (LawPost w) := by
  obtain ⟨sA, sc, rfl, _, _⟩ := id hsl
  obtain ⟨cA, cc, rfl, _, _⟩ := id hcr
  obtain ⟨w00, hw00⟩ : ∃ w0, w0 = w.alloc (.cells #[.slice sA m.slopes.length sc, .slice cA m.crafts.length cc, .int .i64 m.years, .int .i64 m.visit, .int .i64 m.hands] 25) := ⟨_, rfl⟩
  obtain ⟨w0, hw0⟩ : ∃ w0, w0 = w00.alloc (.cells #[.int .i64 c.add, .int .i64 c.price, .bool c.strip] 57) := ⟨_, rfl⟩
  have h00 := LawInv.start hsl hcr
  rw [← hw00] at h00
  have hz00 : w00.heap.size = w.heap.size + 1 := by rw [hw00]; simp
  have h0 := h00.later (show Below w00.heap.size w00 w0 by rw [hw0]; exact below1 _ _)
  have hcb : w0.heap[w.heap.size + 1]? = some (.cells #[.int .i64 c.add, .int .i64 c.price, .bool c.strip] 57 (0, 0)) := by rw [hw0, ← hz00]; exact heap_alloc_self _ _
  obtain ⟨x0, x1, x2, x3, x4⟩ := blk5 h0.box
  have H0 := Lib.hid h0
  have HW00 := Lib.hid hw00
  have HW0 := Lib.hid hw0
  have HCB0 := Lib.hid hcb
  have HBY := Lib.hid hby
  clear h00 h0 hw00 hw0 hsl hcr hcb hz00 hby
  go_enter Try.func9, Try.ntmps9
  go_upto_region 1 with fail
  rw [← HW00.out, ← HW0.out]
  go_wp2_with fail
  refine (great_calls m _ _ w0 H0.out.slopes H0.out.crafts).mono ?_
  rintro e w1 ⟨⟨gg, rfl⟩, hb1⟩
  have H1 := Lib.hid (H0.out.later hb1)
  have HCB1 := Lib.hid (blk_below hb1 HCB0.out (lt_blk HCB0.out))
  clear hb1 x0 x1 x2 x3 x4 H0 HW0 HW00 HCB0
  obtain ⟨x0, x1, x2, x3, x4⟩ := blk5 H1.out.box
  have hlaw := runs_law H1.out
  have HLAW := Lib.hid hlaw
  clear hlaw
  cases gg
  · by_cases hy0 : which < 0
    · go_wp2_with (go_at_call 16; refine HLAW.out.mono ?_; rintro e wr ⟨rfl, hr⟩; have HR := Lib.hid hr; clear hr)
      go_ret
      exact HR.out
    · by_cases hy1 : which ≥ (m.slopes.length : Int)
      · go_wp2_with (go_at_call 16; refine HLAW.out.mono ?_; rintro e wr ⟨rfl, hr⟩; have HR := Lib.hid hr; clear hr)
        go_ret
        exact HR.out
      · by_cases hc2 : (m.crafts.length : Int) ≥ 2
        · go_wp2_with (go_at_call 16; refine HLAW.out.mono ?_; rintro e wr ⟨rfl, hr⟩; have HR := Lib.hid hr; clear hr)
          go_ret
          exact HR.out
        · clear HLAW
          go_wp2_with fail
          refine (cheap_calls m _ _ w1 H1.out.slopes H1.out.crafts).mono ?_
          rintro e w2 ⟨v2, rfl, hr2, hb2⟩
          have H2 := Lib.hid (H1.out.later hb2)
          have HCB2 := Lib.hid (blk_below hb2 HCB1.out (lt_blk HCB1.out))
          clear hb2 H1 x0 x1 x2 x3 x4 HCB1 hr2
          have hlaw := runs_law H2.out
          have HLAW := Lib.hid hlaw
          clear hlaw
          by_cases he : (cheapS m).2.2.2 = 0
          · cases hf : (cheapS m).2.2.1
            · generalize (cheapS m).2.2.2 = ce at *
              have he1 : (ce != 0) = false := by simp [he]
              have he2 : (!(ce == 0)) = false := by simp [he]
              clear he hf
              go_wp2_with (go_at_call 16; refine HLAW.out.mono ?_; rintro e wr ⟨rfl, hr⟩; have HR := Lib.hid hr; clear hr)
              go_ret
              exact HR.out
            · obtain ⟨hck, hfew, hv, hch⟩ := cheapS_fine he hf
              rw [hch]
              simp only []
              have HOK := Lib.hid (And.intro hck (And.intro hv (checkS_ok hck)))
              generalize hV : valS m (firstS m) = V at *
              have HV := Lib.hid hV
              clear he hf hck hfew hv hch hV HLAW
              generalize decide (which < 0) = d1
              generalize decide ((m.slopes.length : Int) ≤ which) = d2
              generalize decide (2 ≤ (m.crafts.length : Int)) = d3
              obtain ⟨i, rfl⟩ := Int.eq_ofNat_of_zero_le hy0
              have hil : i < m.slopes.length := by omega
              have hgx : m.slopes[i]? = some m.slopes[i] := List.getElem?_eq_getElem hil
              generalize hX : m.slopes[i] = x at hgx
              have hxo : SlopeOk x := HOK.out.2.2.slopes x (List.mem_of_getElem? hgx)
              have HX := Lib.hid (And.intro hgx hxo)
              have hmb : m.slopes.length ≤ 4 := HOK.out.2.2.few
              clear hgx hxo hX hy1 hc2
              go_wp2_with fail
              go_loopw [13] (fun kv wr => ∃ k : Int, 0 ≤ k ∧ k ≤ 5 ∧ kv = .int .i64 k ∧ Hid (LawInv m w (.slice sA m.slopes.length sc) (.slice cA m.crafts.length cc) w.heap.size wr) ∧ Hid (wr.heap[w.heap.size + 1]? = some (.cells #[.int .i64 c.add, .int .i64 c.price, .bool c.strip] 57 (0, 0)))) (fun kv _ => 5 - (intOf kv).toNat)
              case atStart => exact ⟨0, by omega, by omega, rfl, H2, HCB2⟩
              case round =>
                obtain ⟨k, hk0, hk5, rfl, HI, HCB⟩ := hrel
                obtain ⟨wi, rfl⟩ : ∃ wi, wi = wr := ⟨_, rfl⟩
                by_cases hkl : k < 5
                · have hkadd : IntKind.i64.wrap (k + 1) = k + 1 := IntWalk.i64_in _ (by omega)
                  obtain ⟨x0, x1, x2, x3, x4⟩ := blk5 HI.out.box
                  go_wp2_with fail
                  refine (rcopy_calls m _ _ wi HI.out.slopes HI.out.crafts HOK.out.2.2.few HOK.out.2.2.crafts (fun s hs => (HOK.out.2.2.slopes s hs).len)).mono ?_
                  rintro e w3 ⟨v, cr', rfl, hos, hoc, hbc⟩
                  obtain ⟨b, cc3, kk, kc, rfl, hBb, hBk, hbl, hkl3, hat⟩ := hos.form HX.out.1
                  obtain ⟨cA3, cn3, cd3, rfl⟩ := own_slice hoc
                  have HOS := Lib.hid hos
                  have HOC := Lib.hid hoc
                  have HBC := Lib.hid hbc
                  clear hos hoc hbc hat hkl3 x0 x1 x2 x3 x4
                  have hyi : (i : Int) < (m.slopes.length : Int) := by omega
                  have hyi0 : (0 : Int) ≤ (i : Int) := by omega
                  go_upto_block 2 with fail
                  obtain ⟨w4, hw4⟩ : ∃ w4, w4 = w3.alloc (.cells #[.slice (some ⟨b, 0, none⟩) m.slopes.length cc3, .slice cA3 cn3 cd3, .int .i64 m.years, .int .i64 m.visit, .int .i64 m.hands] 25) := ⟨_, rfl⟩
                  rw [← hw4]
                  have hb34 : Below w3.heap.size w3 w4 := by rw [hw4]; exact below1 _ _
                  have hown4 : OwnIn m wi w3.heap.size (.slice (some ⟨b, 0, none⟩) m.slopes.length cc3) (.slice cA3 cn3 cd3) w4 := by
                    refine ⟨by rw [hw4]; exact heap_alloc_self _ _, HOS.out.kept (fun k cs t _ hk _ => hb34.block k (lt_blk hk)), own_below HOC.out hb34 (fun k hk => (own_blk_lt HOC.out k hk).2), HBC.out.trans (hb34.mono HBC.out.size), HBC.out.size⟩
                  have HOWN := Lib.hid hown4
                  clear hw4 hb34 hown4 HOS HOC HBC
                  go_cut [] (fun wx => EasyAt m (decide (k = 4)) wi w3.heap.size wx)
                  case first =>
                    obtain ⟨b', cc', k', c', e, _, hBk', hb4, hk4, hat⟩ := HOWN.out.slopes.form HX.out.1
                    cases e
                    obtain ⟨y0, y1, y2, y3, y4⟩ := blk5 HOWN.out.box
                    have fry := frozen_blk HOWN.out.box
                    have fr := hat.fr
                    have n0 := hat.now
                    have n1 := hat.need
                    have n2 := hat.full
                    have HAT := Lib.hid hat
                    have hxo := HX.out.2
                    have hw1 : IntKind.i64.wrap by_ = by_ := IntWalk.i64_in _ (by have := HBY.out; omega)
                    have hw2 : IntKind.i64.wrap (x.now + by_) = x.now + by_ := IntWalk.i64_in _ (by have := HBY.out; have := hxo.now; have := hxo.full; omega)
                    have hw3 : IntKind.i64.wrap (x.need - by_) = x.need - by_ := IntWalk.i64_in _ (by have := HBY.out; have := hxo.need; have := hxo.full; omega)
                    have hw4 : IntKind.i64.wrap (m.hands + 1) = m.hands + 1 := IntWalk.i64_in _ (by have := HOK.out.2.2.hands; omega)
                    clear hat hxo
                    obtain rfl | rfl | rfl | rfl | rfl : k = 0 ∨ k = 1 ∨ k = 2 ∨ k = 3 ∨ k = 4 := by omega
                    · have hf : EasyAt m false wi w3.heap.size (w4.setCell ⟨b, i * 5 + 0, none⟩ (.int .i64 (min (x.now + by_) x.full))) :=
                        (HOWN.out.setF (x' := thicker x by_) HX.out.1 hBb (by omega) rfl (fun u => rfl)).easy_ok (turnS_easier HX.out.1 (thicker_ok HX.out.2 HBY.out.1).2) (turnS_ok HOK.out.2.2 (thicker_ok HX.out.2 HBY.out.1).1)
                      have HF := Lib.hid hf
                      clear hf
                      go_wp2_with fail
                      go_region
                      all_goals
                        go_wp2_with fail
                        go_meet
                        exact HF.out.drew
                    · have hf : EasyAt m false wi w3.heap.size (w4.setCell ⟨b, i * 5 + 1, none⟩ (.int .i64 (max (x.need - by_) 0))) :=
                        (HOWN.out.setF (x' := needier x by_) HX.out.1 hBb (by omega) rfl (fun u => rfl)).easy_ok (turnS_easier HX.out.1 (needier_ok HX.out.2 HBY.out.1).2) (turnS_ok HOK.out.2.2 (needier_ok HX.out.2 HBY.out.1).1)
                      have HF := Lib.hid hf
                      clear hf
                      go_wp2_with fail
                      go_meet
                      exact HF.out
                    · have hstart : OwnIn (turnS m i (milderTo x by_ 0)) wi w3.heap.size (.slice (some ⟨b, 0, none⟩) m.slopes.length cc3) (.slice cA3 cn3 cd3) w4 := by
                        rw [milderTo_zero, turnS_same HX.out.1]
                        exact HOWN.out
                      have HST := Lib.hid hstart
                      clear hstart y0 y1 y2 y3 y4 fry fr n0 n1 n2
                      go_wp2_with fail
                      go_loopw [16] (fun jv wr => ∃ j : Nat, j ≤ x.takes.length ∧ jv = .int .i64 (j : Int) ∧ Hid (OwnIn (turnS m i (milderTo x by_ j)) wi w3.heap.size (.slice (some ⟨b, 0, none⟩) m.slopes.length cc3) (.slice cA3 cn3 cd3) wr)) (fun jv _ => x.takes.length - (intOf jv).toNat)
                      case atStart => exact ⟨0, Nat.zero_le _, rfl, HST⟩
                      case round =>
                        obtain ⟨j, hj, rfl, HJ⟩ := hrel
                        obtain ⟨wj, rfl⟩ : ∃ wj, wj = wr := ⟨_, rfl⟩
                        have hil' : i < m.slopes.length := hil
                        have hgy : (turnS m i (milderTo x by_ j)).slopes[i]? = some (milderTo x by_ j) := by
                          show (m.slopes.set i _)[i]? = _
                          rw [List.getElem?_set, if_pos rfl, if_pos hil']
                        obtain ⟨b2, cc2, k2, c2, e, _, hBk2, _, hk2, hat2⟩ := HJ.out.slopes.form hgy
                        simp only [Value.slice.injEq, Option.some.injEq, Addr.mk.injEq] at e
                        obtain ⟨⟨rfl, _, _⟩, he1, he2⟩ := e
                        clear he1 he2
                        have q4 := hat2.takes
                        rw [milderTo_len] at q4
                        have hx12 := HX.out.2.len
                        by_cases hjl : j < x.takes.length
                        · have hji : (j : Int) < (x.takes.length : Int) := by omega
                          have hj0 : (0 : Int) ≤ (j : Int) := by omega
                          have hjadd : IntKind.i64.wrap ((j : Int) + 1) = (j : Int) + 1 := IntWalk.i64_in _ (by omega)
                          have q5 := hat2.each j _ (milderTo_at hjl)
                          have q6 := hat2.frk
                          have htb := HX.out.2.takes _ (List.getElem_mem hjl)
                          have hw5 : IntKind.i64.wrap (x.takes[j] - by_) = x.takes[j] - by_ := IntWalk.i64_in _ (by have := HBY.out; omega)
                          have hnx : OwnIn (turnS m i (milderTo x by_ (j + 1))) wi w3.heap.size (.slice (some ⟨b, 0, none⟩) m.slopes.length cc3) (.slice cA3 cn3 cd3) (wj.setCell ⟨k2, j, none⟩ (.int .i64 (max (x.takes[j] - by_) 0))) := by
                            have hl : (turnS m i (milderTo x by_ j)).slopes.length = m.slopes.length := by simp [turnS]
                            have h := HJ.out
                            rw [← hl] at h
                            have h2 := h.setT hgy hat2 hBk2 j (max (x.takes[j] - by_) 0)
                            rw [milderTo_succ hjl, turnS_turnS, hl] at h2
                            exact h2
                          have HNX := Lib.hid hnx
                          generalize x.takes[j] = tj at *
                          clear hnx hat2 hgy
                          go_wp2_with fail
                          go_region
                          all_goals
                            go_wp2_with fail
                            go_round
                            case rel => exact ⟨j + 1, by omega, by go_num, Lib.hid HNX.out.drew⟩
                            case measure => simp [intOf]; omega
                        · obtain rfl : j = x.takes.length := by omega
                          have hji : ¬ ((x.takes.length : Int) < (x.takes.length : Int)) := by omega
                          have hf : EasyAt m false wi w3.heap.size wj := by
                            have h := HJ.out
                            rw [milderTo_all] at h
                            exact h.easy_ok (turnS_easier HX.out.1 (milder_ok HX.out.2 HBY.out.1).2) (turnS_ok HOK.out.2.2 (milder_ok HX.out.2 HBY.out.1).1)
                          have HF := Lib.hid hf
                          clear hf hat2 hgy
                          go_wp2_with fail
                          go_meet
                          exact HF.out
                    · have hf : EasyAt m false wi w3.heap.size (w4.setCell ⟨w3.heap.size, 4, none⟩ (.int .i64 (min (m.hands + 1) 4))) :=
                        (HOWN.out.hand (min (m.hands + 1) 4)).easy_ok (handier_ok HOK.out.2.2).2 (handier_ok HOK.out.2.2).1
                      have HF := Lib.hid hf
                      clear hf
                      go_wp2_with fail
                      go_meet
                      exact HF.out
                    · have hcb4 := blk_below (HOWN.out.below) HCB.out (lt_blk HCB.out)
                      have g0 : w4.cell? ⟨w.heap.size + 1, 0, none⟩ = some (.int .i64 c.add) := by rw [cell_blk hcb4]; rfl
                      have g1 : w4.cell? ⟨w.heap.size + 1, 1, none⟩ = some (.int .i64 c.price) := by rw [cell_blk hcb4]; rfl
                      have g2 : w4.cell? ⟨w.heap.size + 1, 2, none⟩ = some (.bool c.strip) := by rw [cell_blk hcb4]; rfl
                      have hcl : m.crafts.length < 2 := by omega
                      have hown0 : ∀ W, Below w4.heap.size w4 W → W.ownsRow wi.heap.size 57 3 (.slice cA3 cn3 cd3) m.crafts.length (cellsC m.crafts) := fun W hW => own_below HOWN.out.crafts hW (fun k hk => (own_blk_lt HOWN.out.crafts k hk).2)
                      have HO0 := Lib.hid hown0
                      have z4 := HOWN.out.below.size
                      clear hown0 hcb4
                      go_wp2_with (at_builtin; (refine wpList_app2 wi.heap.size _ _ 23 57 (.agg #[.int .i64 0, .int .i64 0, .bool false]) 3 24 [.int .i64 c.add, .int .i64 c.price, .bool c.strip] (by rfl) (by rfl) Try.underlying23 infoCraftS rfl (by decide) (by decide) (.slice cA3 cn3 cd3) m.crafts.length (cellsC m.crafts) (by rfl) w4.heap.size (by rfl) (heap_alloc_self _ _) rfl (by simp [Value.oneCell']) (HO0.out _ (below1 _ _)) (by omega) (by simp; omega) ?_); intro v8 w8 hown8 hg8 hat8 hb8; obtain ⟨A8, n8, c8, rfl⟩ := own_slice hown8; have hcf := HOWN.out.craft (c := c) (below1 w4 (.cells #[.int .i64 c.add, .int .i64 c.price, .bool c.strip] 57)) hown8 hg8 hb8; obtain ⟨k8, hcf⟩ := hcf; have HCF := Lib.hid hcf; have fr8 := frozen_blk k8; obtain ⟨r0, r1, r2, r3, r4⟩ := blk5 k8; clear hown8 hg8 hat8 hb8 k8 hcf)
                      have hf : EasyAt m true wi w3.heap.size (w8.setCell ⟨w3.heap.size, 1, none⟩ (.slice A8 n8 c8)) :=
                        HCF.out.easy (craftier_easier m c) ((craftier_check HOK.out.2.2 c (by omega)).imp id (fun h => ⟨rfl, h⟩)) HOK.out.2.2.few (fun s hs => (HOK.out.2.2.slopes s hs).len) (by simp [craftier]; omega)
                      go_meet
                      exact hf
                  case rest =>
                    obtain ⟨m', v', cr5, he⟩ := hcut
                    obtain ⟨w5, rfl⟩ : ∃ w5, w5 = wc := ⟨_, rfl⟩
                    obtain ⟨sA5, sc5, rfl, _, _⟩ := id he.slopes
                    obtain ⟨cA5, cc5, rfl, _, _⟩ := id he.crafts
                    obtain ⟨y0, y1, y2, y3, y4⟩ := blk5 he.box
                    have HE := Lib.hid he
                    clear he
                    go_wp2_with fail
                    refine (cheap_calls m' _ _ w5 HE.out.slopes HE.out.crafts).mono ?_
                    rintro e w6 ⟨v6, rfl, _, hb6⟩
                    have HB6 := Lib.hid (HE.out.below.trans (hb6.mono HE.out.below.size))
                    have HI6 := Lib.hid (HI.out.later HB6.out)
                    have HCB6 := Lib.hid (blk_below HB6.out HCB.out (lt_blk HCB.out))
                    have hres : ((cheapS m').2.2.2 = 3) ∨ ((cheapS m').2.2.2 = 0 ∧ (cheapS m').2.2.1 = true ∧ (cheapS m').2.1 ≤ V) ∨ (k = 4 ∧ (cheapS m').2.2.2 = 1) := by
                      rcases HE.out.check with h | ⟨h1, h2⟩
                      · rcases cheapS_easier HOK.out.1 h (by rw [HV.out]; exact HOK.out.2.1) HE.out.easier with h3 | h3
                        · exact .inl h3
                        · rw [HV.out] at h3; exact .inr (.inl h3)
                      · refine .inr (.inr ⟨of_decide_eq_true h1, ?_⟩)
                        unfold cheapS
                        rw [if_neg (by omega)]
                        exact h2
                    clear hb6 y0 y1 y2 y3 y4 HB6
                    generalize (cheapS m').2.2.2 = ce at *
                    generalize (cheapS m').2.2.1 = cf at *
                    generalize (cheapS m').2.1 = cv at *
                    rcases hres with rfl | ⟨rfl, rfl, hle⟩ | ⟨rfl, rfl⟩
                    · by_cases hk4 : k = 4
                      · subst hk4
                        go_wp2_with fail
                        go_round
                        case rel => exact ⟨5, by omega, by omega, by go_num, HI6, HCB6⟩
                        case measure => simp [intOf]
                      · have hkb : (k == 4) = false := by simp [hk4]
                        go_wp2_with fail
                        go_round
                        case rel => exact ⟨k + 1, by omega, by omega, by go_num, HI6, HCB6⟩
                        case measure => simp [intOf]; omega
                    · by_cases hk4 : k = 4
                      · subst hk4
                        go_wp2_with fail
                        go_round
                        case rel => exact ⟨5, by omega, by omega, by go_num, HI6, HCB6⟩
                        case measure => simp [intOf]
                      · have hkb : (k == 4) = false := by simp [hk4]
                        go_wp2_with fail
                        go_round
                        case rel => exact ⟨k + 1, by omega, by omega, by go_num, HI6, HCB6⟩
                        case measure => simp [intOf]; omega
                    · go_wp2_with fail
                      go_round
                      case rel => exact ⟨5, by omega, by omega, by go_num, HI6, HCB6⟩
                      case measure => simp [intOf]
                · obtain rfl : k = 5 := by omega
                  have hlaw := runs_law HI.out
                  have HLAW := Lib.hid hlaw
                  clear hlaw
                  go_wp2_with (go_at_call 16; refine HLAW.out.mono ?_; rintro e wr ⟨rfl, hr⟩; have HR := Lib.hid hr; clear hr)
                  go_ret
                  exact HR.out
          · generalize (cheapS m).2.2.2 = ce at *
            have he1 : (ce != 0) = true := by simp [he]
            have he2 : (!(ce == 0)) = true := by simp [he]
            go_wp2_with (go_at_call 16; refine HLAW.out.mono ?_; rintro e wr ⟨rfl, hr⟩; have HR := Lib.hid hr; clear hr)
            go_ret
            exact HR.out
  · go_wp2_with (go_at_call 16; refine HLAW.out.mono ?_; rintro e wr ⟨rfl, hr⟩; have HR := Lib.hid hr; clear hr)
    go_ret
    exact HR.out
end Go.Proofs.Ytccplobhfokcgaa

/- Arguments that came in, opened: works, plans, lists of values. -/
namespace Go.Proofs.Ytccplobhfokcgaa
open Go Go.RowKit Go.Shelf
open Go.Joins Go.ChangeShapes Go.WideShapes Go.Deep
set_option maxRecDepth 100000

theorem list_choose {α : Type} {P : Nat → α → Prop} : ∀ n, (∀ i, i < n → ∃ a, P i a) → ∃ l : List α, l.length = n ∧ ∀ i a, l[i]? = some a → P i a
  | 0, _ => ⟨[], rfl, fun i a h => by simp at h⟩
  | n + 1, h => by
    obtain ⟨l, hl, hp⟩ := list_choose n (fun i hi => h i (by omega))
    obtain ⟨a, ha⟩ := h n (by omega)
    refine ⟨l ++ [a], by simp [hl], fun i b hb => ?_⟩
    rcases Nat.lt_or_ge i n with hi | hi
    · rw [List.getElem?_append_left (by omega)] at hb
      exact hp i b hb
    · rw [List.getElem?_append_right (by omega)] at hb
      have hz : i - l.length = 0 := by
        have := (List.getElem?_eq_some_iff.1 hb).1
        simp at this; omega
      rw [hz] at hb
      have : a = b := by simpa using hb
      subst this
      obtain rfl : i = n := by omega
      exact ha
theorem cell_lt {w : World} {p : Addr} {v : Value} (h : w.cell? p = some v) : p.block < w.heap.size := by
  rcases Nat.lt_or_ge p.block w.heap.size with h1 | h1
  · exact h1
  · rw [World.cell?, Array.getElem?_eq_none h1] at h
    simp at h
section
variable {H : Type} {enc : TypeId × Value → H} {w : World} {base : Nat} {held : Bool}
theorem add_plain (b o j : Nat) : (⟨b, o, none⟩ : Addr).add j = ⟨b, o + j, none⟩ := by unfold Addr.add; split <;> simp_all
theorem open_ints_at {fuel : Nat} {cs : List Value} {x : DataW H × List MemPlace} (h : DataW.trod enc Try.prog w base (fun _ => true) held fuel 36 cs = some x) : ∃ v xs, cs = [v] ∧ IntsAt w w.heap.size v xs := by
  rcases open_ints Try.underlying36 Try.underlying3 (by kernel_rfl) h with ⟨rfl, _⟩ | ⟨a, l, c, zs, rfl, _, hl, hm, hz, _, hcell, hwz⟩
  · exact ⟨_, [], rfl, none, 0, rfl, by simp, fun hn => absurd rfl hn⟩
  · have hzl : zs.length = c := by simpa using hz
    have hml : c ≤ 9223372036854775807 := by simp only [maxLen] at hm; omega
    refine ⟨_, zs.take l, rfl, some a, c, by rw [List.length_take, hzl, Nat.min_eq_left hl], by rw [List.length_map, List.length_take]; omega, fun hn => ?_⟩
    have hl0 : 0 < l := by
      rcases Nat.eq_zero_or_pos l with e | e
      · rw [e] at hn; simp at hn
      · exact e
    have h0 := hcell 0 (by omega)
    obtain ⟨b, o, sp⟩ := a
    have hsp : sp = none := by simpa [Addr.add] using World.cell?_spot h0
    subst hsp
    refine ⟨b, o, rfl, by simpa [Addr.add] using cell_lt h0, fun j u hu => ?_⟩
    rw [List.getElem?_map, List.getElem?_take] at hu
    split at hu
    · rename_i hjl
      have hj : j < zs.length := by omega
      rw [List.getElem?_eq_getElem hj] at hu
      simp at hu
      subst hu
      have := hcell j hj
      rw [getD_lt hj] at this
      rw [add_plain] at this
      exact this
    · simp at hu
theorem cellsOf_row : Try.prog.cellsOf 36 = 1 := by kernel_rfl
theorem cellsOf_slopes : Try.prog.cellsOf 22 = 1 := by kernel_rfl
theorem cellsOf_crafts : Try.prog.cellsOf 23 = 1 := by kernel_rfl
theorem cellsOf_bool : Try.prog.cellsOf 4 = 1 := by kernel_rfl
theorem cellsOf_slope : Try.prog.cellsOf 55 = 5 := by kernel_rfl
theorem cellsOf_craft : Try.prog.cellsOf 57 = 3 := by kernel_rfl
theorem cellsOf_works : Try.prog.cellsOf 25 = 5 := by kernel_rfl
theorem some_of_lt {α : Type} {l : List α} {i n : Nat} (h : l.length = n) (hi : i < n) : ∃ y, l[i]? = some y := ⟨l[i]'(by omega), List.getElem?_eq_getElem (by omega)⟩
theorem five {α : Type} {l : List α} (h : l.length = 5) : ∃ a b c d e, l = [a, b, c, d, e] := by
  match l, h with
  | [a, b, c, d, e], _ => exact ⟨a, b, c, d, e, rfl⟩
theorem three {α : Type} {l : List α} (h : l.length = 3) : ∃ a b c, l = [a, b, c] := by
  match l, h with
  | [a, b, c], _ => exact ⟨a, b, c, rfl⟩
theorem slope_read {fuel : Nat} {cs : List Value} {x : DataW H × List MemPlace} (hl : cs.length = 5) (h : DataW.trod enc Try.prog w base (fun _ => true) held fuel 55 cs = some x) :
    ∃ n0 n1 n2 n3 v xs, cs = [.int .i64 n0, .int .i64 n1, .int .i64 n2, .int .i64 n3, v] ∧ IntsAt w w.heap.size v xs := by
  obtain ⟨ys, n, _, _, _, hyl, hf⟩ := DataW.trod_struct Try.underlying55 h
  obtain ⟨c0, c1, c2, c3, c4, rfl⟩ := five hl
  have key : ∀ (i : Nat), i < 5 → ∃ y, ys[i]? = some y := fun i hi => some_of_lt hyl hi
  obtain ⟨y0, e0⟩ := key 0 (by omega)
  obtain ⟨y1, e1⟩ := key 1 (by omega)
  obtain ⟨y2, e2⟩ := key 2 (by omega)
  obtain ⟨y3, e3⟩ := key 3 (by omega)
  obtain ⟨y4, e4⟩ := key 4 (by omega)
  have h0 : DataW.trod enc Try.prog w base (fun _ => true) held n 3 (([c0, c1, c2, c3, c4] : List Value).drop 0 |>.take (Try.prog.cellsOf 3)) = some y0 := (hf 0 _ rfl).trans e0
  have h1 : DataW.trod enc Try.prog w base (fun _ => true) held n 3 (([c0, c1, c2, c3, c4] : List Value).drop 1 |>.take (Try.prog.cellsOf 3)) = some y1 := (hf 1 _ rfl).trans e1
  have h2 : DataW.trod enc Try.prog w base (fun _ => true) held n 3 (([c0, c1, c2, c3, c4] : List Value).drop 2 |>.take (Try.prog.cellsOf 3)) = some y2 := (hf 2 _ rfl).trans e2
  have h3 : DataW.trod enc Try.prog w base (fun _ => true) held n 3 (([c0, c1, c2, c3, c4] : List Value).drop 3 |>.take (Try.prog.cellsOf 3)) = some y3 := (hf 3 _ rfl).trans e3
  have h4 : DataW.trod enc Try.prog w base (fun _ => true) held n 36 (([c0, c1, c2, c3, c4] : List Value).drop 4 |>.take (Try.prog.cellsOf 36)) = some y4 := (hf 4 _ rfl).trans e4
  simp only [keyCells3, cellsOf_row, List.drop_zero, List.drop_succ_cons, List.take_succ_cons, List.take_zero] at h0 h1 h2 h3 h4
  obtain ⟨n0, e0, _, _⟩ := DataW.trod_int Try.underlying3 h0
  obtain ⟨n1, e1, _, _⟩ := DataW.trod_int Try.underlying3 h1
  obtain ⟨n2, e2, _, _⟩ := DataW.trod_int Try.underlying3 h2
  obtain ⟨n3, e3, _, _⟩ := DataW.trod_int Try.underlying3 h3
  obtain ⟨v, xs, e4, hv⟩ := open_ints_at h4
  cases e0; cases e1; cases e2; cases e3; cases e4
  exact ⟨n0, n1, n2, n3, _, xs, rfl, hv⟩
theorem craft_read {fuel : Nat} {cs : List Value} {x : DataW H × List MemPlace} (hl : cs.length = 3) (h : DataW.trod enc Try.prog w base (fun _ => true) held fuel 57 cs = some x) :
    ∃ n0 n1 b, cs = [.int .i64 n0, .int .i64 n1, .bool b] := by
  obtain ⟨ys, n, _, _, _, hyl, hf⟩ := DataW.trod_struct Try.underlying57 h
  obtain ⟨c0, c1, c2, rfl⟩ := three hl
  have key : ∀ (i : Nat), i < 3 → ∃ y, ys[i]? = some y := fun i hi => some_of_lt hyl hi
  obtain ⟨y0, e0⟩ := key 0 (by omega)
  obtain ⟨y1, e1⟩ := key 1 (by omega)
  obtain ⟨y2, e2⟩ := key 2 (by omega)
  have h0 : DataW.trod enc Try.prog w base (fun _ => true) held n 3 (([c0, c1, c2] : List Value).drop 0 |>.take (Try.prog.cellsOf 3)) = some y0 := (hf 0 _ rfl).trans e0
  have h1 : DataW.trod enc Try.prog w base (fun _ => true) held n 3 (([c0, c1, c2] : List Value).drop 1 |>.take (Try.prog.cellsOf 3)) = some y1 := (hf 1 _ rfl).trans e1
  have h2 : DataW.trod enc Try.prog w base (fun _ => true) held n 4 (([c0, c1, c2] : List Value).drop 2 |>.take (Try.prog.cellsOf 4)) = some y2 := (hf 2 _ rfl).trans e2
  simp only [keyCells3, cellsOf_bool, List.drop_zero, List.drop_succ_cons, List.take_succ_cons, List.take_zero] at h0 h1 h2
  obtain ⟨n0, e0, _, _⟩ := DataW.trod_int Try.underlying3 h0
  obtain ⟨n1, e1, _, _⟩ := DataW.trod_int Try.underlying3 h1
  obtain ⟨b, e2, _⟩ := DataW.trod_bool Try.underlying4 h2
  cases e0; cases e1; cases e2
  exact ⟨n0, n1, b, rfl⟩
theorem open_slopes_at {fuel : Nat} {cs : List Value} {x : DataW H × List MemPlace} (h : DataW.trod enc Try.prog w base (fun _ => true) held fuel 22 cs = some x) : ∃ v ss, cs = [v] ∧ SlopesAt w w.heap.size v ss := by
  rcases open_slice Try.underlying22 h with ⟨rfl, _⟩ | ⟨a, l, c, m, n, D, Pl, rfl, _, hl, hm, hmm, _, hf⟩
  · exact ⟨_, [], rfl, none, 0, rfl, by simp, fun hn => absurd rfl hn⟩
  · simp only [if_true] at hmm
    subst hmm
    have hml : m ≤ 9223372036854775807 := by simp only [maxLen] at hm; omega
    obtain ⟨ss, hsl, hss⟩ := list_choose (P := fun i (s : Slope) => ∃ t, IntsAt w w.heap.size t s.takes ∧ w.cell? (a.add (i * 5 + 0)) = some (.int .i64 s.now) ∧ w.cell? (a.add (i * 5 + 1)) = some (.int .i64 s.need) ∧ w.cell? (a.add (i * 5 + 2)) = some (.int .i64 s.full) ∧
        w.cell? (a.add (i * 5 + 3)) = some (.int .i64 s.size) ∧ w.cell? (a.add (i * 5 + 4)) = some t) l (fun i hi => by
      obtain ⟨cs', hc, ht⟩ := hf i (by omega)
      rw [cellsOf_slope] at hc
      obtain ⟨_, hcl, hat⟩ := World.cells?_some hc
      obtain ⟨n0, n1, n2, n3, v, xs, rfl, hv⟩ := slope_read hcl ht
      have k : ∀ j, j < 5 → w.cell? (a.add (i * 5 + j)) = ([.int .i64 n0, .int .i64 n1, .int .i64 n2, .int .i64 n3, v] : List Value)[j]? := fun j hj => by rw [← hat j hj, add_add]
      exact ⟨⟨n0, n1, n2, n3, xs⟩, v, hv, k 0 (by omega), k 1 (by omega), k 2 (by omega), k 3 (by omega), k 4 (by omega)⟩)
    refine ⟨_, ss, rfl, some a, m, by rw [hsl], by omega, fun hn => ?_⟩
    have h0 : 0 < ss.length := List.length_pos_iff.2 hn
    obtain ⟨_, _, hc0, _⟩ := hss 0 _ (List.getElem?_eq_getElem h0)
    obtain ⟨b, o, sp⟩ := a
    have hsp : sp = none := by simpa [Addr.add] using World.cell?_spot hc0
    subst hsp
    refine ⟨b, o, rfl, by simpa [Addr.add] using cell_lt hc0, fun i s hs => ?_⟩
    obtain ⟨t, ht, c0, c1, c2, c3, c4⟩ := hss i s hs
    rw [add_plain] at c0 c1 c2 c3 c4
    exact ⟨t, ht, c0, c1, c2, c3, c4⟩
theorem open_crafts_at {fuel : Nat} {cs : List Value} {x : DataW H × List MemPlace} (h : DataW.trod enc Try.prog w base (fun _ => true) held fuel 23 cs = some x) : ∃ v ss, cs = [v] ∧ CraftsAt w w.heap.size v ss := by
  rcases open_slice Try.underlying23 h with ⟨rfl, _⟩ | ⟨a, l, c, m, n, D, Pl, rfl, _, hl, hm, hmm, _, hf⟩
  · exact ⟨_, [], rfl, none, 0, rfl, by simp, fun hn => absurd rfl hn⟩
  · simp only [if_true] at hmm
    subst hmm
    have hml : m ≤ 9223372036854775807 := by simp only [maxLen] at hm; omega
    obtain ⟨ss, hsl, hss⟩ := list_choose (P := fun i (s : Craft) => w.cell? (a.add (i * 3 + 0)) = some (.int .i64 s.add) ∧ w.cell? (a.add (i * 3 + 1)) = some (.int .i64 s.price) ∧ w.cell? (a.add (i * 3 + 2)) = some (.bool s.strip)) l (fun i hi => by
      obtain ⟨cs', hc, ht⟩ := hf i (by omega)
      rw [cellsOf_craft] at hc
      obtain ⟨_, hcl, hat⟩ := World.cells?_some hc
      obtain ⟨n0, n1, b, rfl⟩ := craft_read hcl ht
      have k : ∀ j, j < 3 → w.cell? (a.add (i * 3 + j)) = ([.int .i64 n0, .int .i64 n1, .bool b] : List Value)[j]? := fun j hj => by rw [← hat j hj, add_add]
      exact ⟨⟨n0, n1, b⟩, k 0 (by omega), k 1 (by omega), k 2 (by omega)⟩)
    refine ⟨_, ss, rfl, some a, m, by rw [hsl], by omega, fun hn => ?_⟩
    have h0 : 0 < ss.length := List.length_pos_iff.2 hn
    obtain ⟨hc0, _⟩ := hss 0 _ (List.getElem?_eq_getElem h0)
    obtain ⟨b, o, sp⟩ := a
    have hsp : sp = none := by simpa [Addr.add] using World.cell?_spot hc0
    subst hsp
    refine ⟨b, o, rfl, by simpa [Addr.add] using cell_lt hc0, fun i s hs => ?_⟩
    obtain ⟨c0, c1, c2⟩ := hss i s hs
    rw [add_plain] at c0 c1 c2
    exact ⟨c0, c1, c2⟩
/-- Works that came in, by value. -/
theorem open_works {fuel : Nat} {v : Value} {x : DataW H × List MemPlace} {r : Go.Reach} {b0 : Nat} (hv : Value.okWide Try.prog w r b0 25 v) (h : DataW.trod enc Try.prog w base (fun _ => true) held fuel 25 v.cells.toList = some x) :
    ∃ sl cr m, v = .agg #[sl, cr, .int .i64 m.years, .int .i64 m.visit, .int .i64 m.hands] ∧ SlopesAt w w.heap.size sl (Wk.slopes m) ∧ CraftsAt w w.heap.size cr m.crafts := by
  obtain ⟨⟨cs⟩, rfl, hsz⟩ := okWide_struct Try.underlying25 hv
  rw [cellsOf_works] at hsz
  obtain ⟨c0, c1, c2, c3, c4, rfl⟩ := five (l := cs) (by simpa using hsz)
  obtain ⟨ys, n, _, _, _, hyl, hf⟩ := DataW.trod_struct Try.underlying25 h
  have key : ∀ (i : Nat), i < 5 → ∃ y, ys[i]? = some y := fun i hi => some_of_lt hyl hi
  obtain ⟨y0, e0⟩ := key 0 (by omega)
  obtain ⟨y1, e1⟩ := key 1 (by omega)
  obtain ⟨y2, e2⟩ := key 2 (by omega)
  obtain ⟨y3, e3⟩ := key 3 (by omega)
  obtain ⟨y4, e4⟩ := key 4 (by omega)
  have h0 : DataW.trod enc Try.prog w base (fun _ => true) held n 22 (([c0, c1, c2, c3, c4] : List Value).drop 0 |>.take (Try.prog.cellsOf 22)) = some y0 := (hf 0 _ rfl).trans e0
  have h1 : DataW.trod enc Try.prog w base (fun _ => true) held n 23 (([c0, c1, c2, c3, c4] : List Value).drop 1 |>.take (Try.prog.cellsOf 23)) = some y1 := (hf 1 _ rfl).trans e1
  have h2 : DataW.trod enc Try.prog w base (fun _ => true) held n 3 (([c0, c1, c2, c3, c4] : List Value).drop 2 |>.take (Try.prog.cellsOf 3)) = some y2 := (hf 2 _ rfl).trans e2
  have h3 : DataW.trod enc Try.prog w base (fun _ => true) held n 3 (([c0, c1, c2, c3, c4] : List Value).drop 3 |>.take (Try.prog.cellsOf 3)) = some y3 := (hf 3 _ rfl).trans e3
  have h4 : DataW.trod enc Try.prog w base (fun _ => true) held n 3 (([c0, c1, c2, c3, c4] : List Value).drop 4 |>.take (Try.prog.cellsOf 3)) = some y4 := (hf 4 _ rfl).trans e4
  simp only [keyCells3, cellsOf_slopes, cellsOf_crafts, List.drop_zero, List.drop_succ_cons, List.take_succ_cons, List.take_zero] at h0 h1 h2 h3 h4
  obtain ⟨sl, ss, e0, hs⟩ := open_slopes_at h0
  obtain ⟨cr, cc, e1, hc⟩ := open_crafts_at h1
  obtain ⟨n2, e2, _, _⟩ := DataW.trod_int Try.underlying3 h2
  obtain ⟨n3, e3, _, _⟩ := DataW.trod_int Try.underlying3 h3
  obtain ⟨n4, e4, _, _⟩ := DataW.trod_int Try.underlying3 h4
  cases e0; cases e1; cases e2; cases e3; cases e4
  exact ⟨_, _, ⟨ss, cc, n2, n3, n4⟩, rfl, hs, hc⟩
theorem open_rows_at {fuel : Nat} {cs : List Value} {x : DataW H × List MemPlace} (h : DataW.trod enc Try.prog w base (fun _ => true) held fuel 26 cs = some x) : ∃ v xss, cs = [v] ∧ RowsAt w w.heap.size v xss := by
  rcases open_slice1 Try.underlying26 (by kernel_rfl) h with ⟨rfl, _⟩ | ⟨a, l, c, m, n, V, D, Pl, rfl, _, hl, hm, hmm, _, hx⟩
  · exact ⟨_, [], rfl, none, 0, rfl, by simp, fun hn => absurd rfl hn⟩
  · simp only [if_true] at hmm
    have hml : c ≤ 9223372036854775807 := by simp only [maxLen] at hm; omega
    obtain ⟨xss, hsl, hss⟩ := list_choose (P := fun i (xs : List Int) => ∃ u, w.cell? (a.add i) = some u ∧ IntsAt w w.heap.size u xs) l (fun i hi => by
      obtain ⟨h1, h2⟩ := hx i (by omega)
      obtain ⟨v, xs, e, hv⟩ := open_ints_at h2
      simp at e
      exact ⟨xs, v, by rw [h1, e], hv⟩)
    refine ⟨_, xss, rfl, some a, c, by rw [hsl], by omega, fun hn => ?_⟩
    have h0 : 0 < xss.length := List.length_pos_iff.2 hn
    obtain ⟨_, hc0, _⟩ := hss 0 _ (List.getElem?_eq_getElem h0)
    obtain ⟨b, o, sp⟩ := a
    have hsp : sp = none := by simpa [Addr.add] using World.cell?_spot hc0
    subst hsp
    refine ⟨b, o, rfl, by simpa [Addr.add] using cell_lt hc0, fun i xs hs => ?_⟩
    obtain ⟨u, h1, h2⟩ := hss i xs hs
    rw [add_plain] at h1
    exact ⟨u, h1, h2⟩
end
section
variable {H : Type} {enc : TypeId × Value → H} {w : World} {base : Nat} {held : Bool}
theorem cellsOf_worth : Try.prog.cellsOf 64 = 3 := by kernel_rfl
theorem worth_read {fuel : Nat} {cs : List Value} {x : DataW H × List MemPlace} (hl : cs.length = 3) (h : DataW.trod enc Try.prog w base (fun _ => true) held fuel 64 cs = some x) :
    ∃ n0 v xs n1, cs = [.int .i64 n0, v, .int .i64 n1] ∧ IntsAt w w.heap.size v xs := by
  obtain ⟨ys, n, _, _, _, hyl, hf⟩ := DataW.trod_struct Try.underlying64 h
  obtain ⟨c0, c1, c2, rfl⟩ := three hl
  have key : ∀ (i : Nat), i < 3 → ∃ y, ys[i]? = some y := fun i hi => some_of_lt hyl hi
  obtain ⟨y0, e0⟩ := key 0 (by omega)
  obtain ⟨y1, e1⟩ := key 1 (by omega)
  obtain ⟨y2, e2⟩ := key 2 (by omega)
  have h0 : DataW.trod enc Try.prog w base (fun _ => true) held n 3 (([c0, c1, c2] : List Value).drop 0 |>.take (Try.prog.cellsOf 3)) = some y0 := (hf 0 _ rfl).trans e0
  have h1 : DataW.trod enc Try.prog w base (fun _ => true) held n 36 (([c0, c1, c2] : List Value).drop 1 |>.take (Try.prog.cellsOf 36)) = some y1 := (hf 1 _ rfl).trans e1
  have h2 : DataW.trod enc Try.prog w base (fun _ => true) held n 3 (([c0, c1, c2] : List Value).drop 2 |>.take (Try.prog.cellsOf 3)) = some y2 := (hf 2 _ rfl).trans e2
  simp only [keyCells3, cellsOf_row, List.drop_zero, List.drop_succ_cons, List.take_succ_cons, List.take_zero] at h0 h1 h2
  obtain ⟨n0, e0, _, _⟩ := DataW.trod_int Try.underlying3 h0
  obtain ⟨v, xs, e1, hv⟩ := open_ints_at h1
  obtain ⟨n1, e2, _, _⟩ := DataW.trod_int Try.underlying3 h2
  cases e0; cases e1; cases e2
  exact ⟨n0, _, xs, n1, rfl, hv⟩
theorem open_worths_at {fuel : Nat} {cs : List Value} {x : DataW H × List MemPlace} (h : DataW.trod enc Try.prog w base (fun _ => true) held fuel 42 cs = some x) : ∃ v ws, cs = [v] ∧ WorthsAt w w.heap.size v ws := by
  rcases open_slice Try.underlying42 h with ⟨rfl, _⟩ | ⟨a, l, c, m, n, D, Pl, rfl, _, hl, hm, hmm, _, hf⟩
  · exact ⟨_, [], rfl, none, 0, rfl, by simp, fun hn => absurd rfl hn⟩
  · simp only [if_true] at hmm
    subst hmm
    have hml : m ≤ 9223372036854775807 := by simp only [maxLen] at hm; omega
    obtain ⟨ss, hsl, hss⟩ := list_choose (P := fun i (s : Wo) => ∃ t, w.cell? (a.add (i * 3 + 0)) = some (.int .i64 s.y) ∧ w.cell? (a.add (i * 3 + 1)) = some t ∧ w.cell? (a.add (i * 3 + 2)) = some (.int .i64 s.c) ∧ IntsAt w w.heap.size t s.th) l (fun i hi => by
      obtain ⟨cs', hc, ht⟩ := hf i (by omega)
      rw [cellsOf_worth] at hc
      obtain ⟨_, hcl, hat⟩ := World.cells?_some hc
      obtain ⟨n0, v, xs, n1, rfl, hv⟩ := worth_read hcl ht
      have k : ∀ j, j < 3 → w.cell? (a.add (i * 3 + j)) = ([.int .i64 n0, v, .int .i64 n1] : List Value)[j]? := fun j hj => by rw [← hat j hj, add_add]
      exact ⟨⟨n0, xs, n1⟩, v, k 0 (by omega), k 1 (by omega), k 2 (by omega), hv⟩)
    refine ⟨_, ss, rfl, some a, m, by rw [hsl], by omega, fun hn => ?_⟩
    have h0 : 0 < ss.length := List.length_pos_iff.2 hn
    obtain ⟨_, hc0, _⟩ := hss 0 _ (List.getElem?_eq_getElem h0)
    obtain ⟨b, o, sp⟩ := a
    have hsp : sp = none := by simpa [Addr.add] using World.cell?_spot hc0
    subst hsp
    refine ⟨b, o, rfl, by simpa [Addr.add] using cell_lt hc0, fun i s hs => ?_⟩
    obtain ⟨t, c0, c1, c2, ht⟩ := hss i s hs
    rw [add_plain] at c0 c1 c2
    exact ⟨t, c0, c1, c2, ht⟩
end
end Go.Proofs.Ytccplobhfokcgaa

namespace Go.Proofs.Ytccplobhfokcgaa.MendEasier
open Go Go.ChangeShapes Go.WideShapes Go.ChangeAt Go.RowKit
set_option linter.unusedVariables false

theorem own : ownKnob Try.prog.godebug = none := by kernel_rfl
theorem laidOut : laidOutB Try.prog = true := by kernel_rfl

set_option maxRecDepth 100000 in
theorem lifted (os : Os) (started : os.Started) (H : Type) (enc : TypeId × Value → H) :
    ReturnsInHanded {} Try.checked os 9 .any (Rows.mendEasierSpec.pre6 enc Try.prog Try.f9 Rows.mendEasierRow.domain false) (Rows.mendEasierSpec.post enc Try.prog Try.f9 false true false false) := by
  refine returnsInHanded_of_change (C := Try.checked) own started (by kernel_rfl) Try.func9
    (ChangeSpec.witness6 (enc := enc) (C := Try.checked) false ⟨#[], #[.agg #[.slice none 0 0, .slice none 0 0, .int .i64 0, .int .i64 0, .int .i64 0], .int .i64 0, .int .u8 0, .agg #[.int .i64 0, .int .i64 0, .bool false]], []⟩ 8 (by kernel_rfl) (by kernel_rfl) (by kernel_rfl) (by kernel_rfl)) ?_
  intro W base args ds gs before hval0 hW hcnd _
  have hval : ∀ (j : Nat) t v, Try.f9.params[j]? = some t → args[j]? = some v → Value.okWide Try.prog W .any base t v := hval0
  have hW' := hW
  obtain ⟨p, q, hA0, hV, rfl, hfz, hnd⟩ := hW
  have hA : DataW.TrodAll enc Try.prog W 0 (fun _ => true) true Try.f9.params.toList args.toList ds p := hA0
  rw [Try.params9] at hA hval
  obtain ⟨v0, vs0, d0, ds0, p0, q0, hargs, rfl, rfl, h0, r0⟩ := trodAll_cons hA
  obtain ⟨v1, vs1, d1, ds1, p1, q1, rfl, rfl, rfl, h1, r1⟩ := trodAll_cons r0
  obtain ⟨v2, vs2, d2, ds2, p2, q2, rfl, rfl, rfl, h2, r2⟩ := trodAll_cons r1
  obtain ⟨v3, vs3, d3, ds3, p3, q3, rfl, rfl, rfl, h3, r3⟩ := trodAll_cons r2
  obtain ⟨rfl, rfl, rfl⟩ := trodAll_nil r3
  obtain rfl : args = #[v0, v1, v2, v3] := by cases args; simp_all
  obtain ⟨rfl, rfl⟩ := trodVars_none hV
  have k0 := h0
  have k1 := h1
  have k2 := h2
  have k3 := h3
  have lt0 : ∀ x ∈ p0, x.block < W.heap.size := by obtain ⟨m, hm⟩ := k0; exact DataW.trod_lt m _ _ _ hm
  have lt1 : ∀ x ∈ p1, x.block < W.heap.size := by obtain ⟨m, hm⟩ := k1; exact DataW.trod_lt m _ _ _ hm
  have lt2 : ∀ x ∈ p2, x.block < W.heap.size := by obtain ⟨m, hm⟩ := k2; exact DataW.trod_lt m _ _ _ hm
  have lt3 : ∀ x ∈ p3, x.block < W.heap.size := by obtain ⟨m, hm⟩ := k3; exact DataW.trod_lt m _ _ _ hm
  obtain ⟨sl, cr, m, rfl, hsl, hcr⟩ : ∃ sl cr m, v0 = .agg #[sl, cr, .int .i64 m.years, .int .i64 m.visit, .int .i64 m.hands] ∧ SlopesAt W W.heap.size sl (Wk.slopes m) ∧ CraftsAt W W.heap.size cr m.crafts := by
    obtain ⟨fuel, hf⟩ := h0
    exact open_works (hval 0 25 v0 rfl rfl) hf
  obtain ⟨n1, rfl⟩ := okWide_int Try.underlying3 (hval 1 3 v1 rfl rfl)
  obtain ⟨n2, rfl⟩ := okWide_int Try.underlying5 (hval 2 5 v2 rfl rfl)
  have hn2 : 0 ≤ n2 ∧ n2 ≤ 255 := by
    obtain ⟨fuel, hf⟩ := h2
    simp only [Value.cells] at hf
    obtain ⟨n, e, _, hwf⟩ := DataW.trod_int Try.underlying5 hf
    simp at e
    subst e
    exact bounds_u8 hwf
  obtain ⟨c3, rfl⟩ : ∃ c : Craft, v3 = .agg #[.int .i64 c.add, .int .i64 c.price, .bool c.strip] := by
    obtain ⟨fuel, hf⟩ := h3
    obtain ⟨⟨cs⟩, rfl, hsz⟩ := okWide_struct Try.underlying57 (hval 3 57 v3 rfl rfl)
    rw [cellsOf_craft] at hsz
    obtain ⟨a0, a1, a2, e⟩ := craft_read (cs := cs) (by simpa using hsz) (by simpa [Value.cells] using hf)
    exact ⟨⟨a0, a1, a2⟩, by rw [e]⟩
  clear hA0 hval0
  refine (mendEasier_calls m sl cr n1 n2 c3 W hsl hcr hn2).mono fun e W' ⟨he, bel⟩ => ?_
  subst he
  exact ⟨_, rfl, _, _, _, [], _, [], hW', trodAll_mk1 (shut_bool Try.underlying4 _), (trodAll_cons_mk (Below.trod laidOut (by kernel_rfl) (of_decide_eq_true (by kernel_rfl)) k0 bel lt0) (trodAll_cons_mk (Below.trod laidOut (by kernel_rfl) (of_decide_eq_true (by kernel_rfl)) k1 bel lt1) (trodAll_cons_mk (Below.trod laidOut (by kernel_rfl) (of_decide_eq_true (by kernel_rfl)) k2 bel lt2) (trodAll_cons_mk (Below.trod laidOut (by kernel_rfl) (of_decide_eq_true (by kernel_rfl)) k3 bel lt3) trodAll_mk0)))), rfl, bel.frame _, fun h => by cases h⟩

theorem over : Rows.mendEasierRow.holds Try.pinned (OpenSpec.ofChange Rows.mendEasierSpec) :=
  OpenClaim.holds_of_wide 9 Try.f9 rfl rfl rfl rfl rfl rfl rfl ⟨rfl, rfl, rfl, rfl, rfl⟩ rfl rfl rfl rfl rfl (by kernel_rfl) Try.func9 (by kernel_rfl)
    (of_decide_eq_true (by kernel_rfl)) (by unfold Func.isWrapper; first | (rw [if_pos (by decide +kernel)]; kernel_rfl) | (rw [if_neg (by decide +kernel)]; exact ⟨rfl, rfl⟩))
    (fun os started H enc _ => lifted os started H enc)

theorem proved : Rows.MendEasierSaid := over
#print axioms proved
end Go.Proofs.Ytccplobhfokcgaa.MendEasier
