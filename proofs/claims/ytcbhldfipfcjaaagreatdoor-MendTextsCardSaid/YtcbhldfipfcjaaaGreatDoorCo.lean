/- The specification's Copy. -/
import Derived.Test.YtcbhldfipfcjaaaGreatDoorRd
import Derived.Deep.RegionHeld3
import Derived.Deep.AppendLies
import Derived.Deep.DeepCutAuto

namespace Go.Proofs.YtcbhldfipfcjaaaGreatDoor
open Go Go.RowKit Go.Shelf
set_option maxRecDepth 100000

def cellsC (cs : List Craft) : List Value := cs.flatMap fun c => [.int .i64 c.add, .int .i64 c.price, .bool c.strip]
theorem cellsC_length : ∀ cs : List Craft, (cellsC cs).length = cs.length * 3
  | [] => rfl
  | c :: cs => by
    have := cellsC_length cs
    simp only [cellsC, List.flatMap_cons, List.length_append, List.length_cons, List.length_nil] at this ⊢
    omega
theorem infoCraftS : (Tryz.prog.info? 67).map (fun i => (i.zero, i.size, i.bytes)) = some (some (.agg #[.int .i64 0, .int .i64 0, .bool false]), 3, 24) := by kernel_rfl
theorem cellsC_at : ∀ {cs : List Craft} {i : Nat} {c : Craft}, cs[i]? = some c → (cellsC cs)[i * 3]? = some (.int .i64 c.add) ∧ (cellsC cs)[i * 3 + 1]? = some (.int .i64 c.price) ∧ (cellsC cs)[i * 3 + 2]? = some (.bool c.strip)
  | [], i, c, h => by simp at h
  | x :: cs, 0, c, h => by
    simp at h
    subst h
    exact ⟨rfl, rfl, rfl⟩
  | x :: cs, i + 1, c, h => by
    have ih := cellsC_at (cs := cs) (i := i) (c := c) (by simpa using h)
    have e : ∀ j, (cellsC (x :: cs))[(i + 1) * 3 + j]? = (cellsC cs)[i * 3 + j]? := fun j => by
      rw [show (i + 1) * 3 + j = (i * 3 + j) + 3 by omega]; rfl
    exact ⟨(e 0).trans ih.1, (e 1).trans ih.2.1, (e 2).trans ih.2.2⟩
/-- The cells of crafts. -/
theorem CraftsAt.cells {w : World} {n0 : Nat} {v : Value} {cs : List Craft} (h : CraftsAt w n0 v cs) (hne : cs ≠ []) : ∃ b o c, v = .slice (some ⟨b, o, none⟩) cs.length c ∧ b < n0 ∧ (∀ j u, (cellsC cs)[j]? = some u → w.cell? ⟨b, o + j, none⟩ = some u) ∧ ∀ u ∈ cellsC cs, u.oneCell' = true := by
  obtain ⟨A, c, rfl, _, hr⟩ := h
  obtain ⟨b, o, rfl, hb, hc⟩ := hr hne
  have hat : ∀ j u, (cellsC cs)[j]? = some u → w.cell? ⟨b, o + j, none⟩ = some u ∧ u.oneCell' = true := by
    intro j u hj
    have hjl := (List.getElem?_eq_some_iff.1 hj).1
    rw [cellsC_length] at hjl
    have hi : j / 3 < cs.length := by omega
    obtain ⟨h1, h2, h3⟩ := hc (j / 3) _ (List.getElem?_eq_getElem hi)
    obtain ⟨c0, c1, c2⟩ := cellsC_at (List.getElem?_eq_getElem hi)
    rcases (by omega : j % 3 = 0 ∨ j % 3 = 1 ∨ j % 3 = 2) with e | e | e
    · have e2 : j = j / 3 * 3 := by omega
      rw [e2] at hj ⊢
      rw [c0] at hj
      cases hj
      exact ⟨h1, rfl⟩
    · have e2 : j = j / 3 * 3 + 1 := by omega
      rw [e2] at hj ⊢
      rw [c1] at hj
      cases hj
      exact ⟨h2, rfl⟩
    · have e2 : j = j / 3 * 3 + 2 := by omega
      rw [e2] at hj ⊢
      rw [c2] at hj
      cases hj
      exact ⟨h3, rfl⟩
  refine ⟨b, o, c, rfl, hb, fun j u hj => (hat j u hj).1, fun u hu => ?_⟩
  obtain ⟨j, hj⟩ := List.getElem?_of_mem hu
  exact (hat j u hj).2
/-- The cells of slopes, given what tells their takes. -/
def cellsSl : List Slope → List Value → List Value
  | x :: ss, u :: us => .int .i64 x.now :: .int .i64 x.need :: .int .i64 x.full :: .int .i64 x.size :: u :: cellsSl ss us
  | _, _ => []
theorem cellsSl_length : ∀ (ss : List Slope) (us : List Value), us.length = ss.length → (cellsSl ss us).length = ss.length * 5
  | [], [], _ => rfl
  | x :: ss, u :: us, h => by
    have := cellsSl_length ss us (by simpa using h)
    simp only [cellsSl, List.length_cons, this]
    omega
theorem cellsSl_snoc (x : Slope) (u : Value) : ∀ (ss : List Slope) (us : List Value), us.length = ss.length → cellsSl (ss ++ [x]) (us ++ [u]) = cellsSl ss us ++ [.int .i64 x.now, .int .i64 x.need, .int .i64 x.full, .int .i64 x.size, u]
  | [], [], _ => rfl
  | y :: ss, v :: us, h => by
    have := cellsSl_snoc x u ss us (by simpa using h)
    simp only [List.cons_append, cellsSl, this]
theorem cellsSl_at {x : Slope} {u : Value} : ∀ (ss : List Slope) (us : List Value) (i : Nat), ss[i]? = some x → us[i]? = some u →
    (cellsSl ss us)[i * 5]? = some (.int .i64 x.now) ∧ (cellsSl ss us)[i * 5 + 1]? = some (.int .i64 x.need) ∧ (cellsSl ss us)[i * 5 + 2]? = some (.int .i64 x.full) ∧ (cellsSl ss us)[i * 5 + 3]? = some (.int .i64 x.size) ∧ (cellsSl ss us)[i * 5 + 4]? = some u
  | [], _, i, h, _ => by simp at h
  | y :: ss, [], i, _, h => by simp at h
  | y :: ss, v :: us, 0, h, k => by
    simp at h k
    subst h; subst k
    exact ⟨rfl, rfl, rfl, rfl, rfl⟩
  | y :: ss, v :: us, i + 1, h, k => by
    have ih := cellsSl_at ss us i (by simpa using h) (by simpa using k)
    have e : ∀ j, (cellsSl (y :: ss) (v :: us))[(i + 1) * 5 + j]? = (cellsSl ss us)[i * 5 + j]? := fun j => by
      rw [show (i + 1) * 5 + j = (i * 5 + j) + 5 by omega]; rfl
    exact ⟨(e 0).trans ih.1, (e 1).trans ih.2.1, (e 2).trans ih.2.2.1, (e 3).trans ih.2.2.2.1, (e 4).trans ih.2.2.2.2⟩
/-- A list of slopes of one's own; each one's takes lie in a block of their own. -/
def OwnSl (w : World) (B : Nat) (v : Value) (ss : List Slope) : Prop := ∃ (us : List Value) (ks : List Nat), us.length = ss.length ∧ ks.length = ss.length ∧ ks.Nodup ∧ w.ownsRow B 37 5 v ss.length (cellsSl ss us) ∧
  ∀ (i : Nat) (s : Slope), ss[i]? = some s → ∃ k c, ks[i]? = some k ∧ us[i]? = some (.slice (some ⟨k, 0, none⟩) s.takes.length c) ∧ w.ownsRow B 3 1 (.slice (some ⟨k, 0, none⟩) s.takes.length c) s.takes.length (s.takes.map (Value.int .i64))
theorem OwnSl.nil (w : World) (B : Nat) : OwnSl w B (.slice none 0 0) [] := ⟨[], [], rfl, rfl, List.nodup_nil, ⟨rfl, .inl ⟨rfl, rfl⟩⟩, fun i s h => by simp at h⟩
theorem OwnSl.kept {w w' : World} {B : Nat} {v : Value} {ss : List Slope} (h : OwnSl w B v ss) (hk : ∀ k cs t, B ≤ k → w.heap[k]? = some (.cells cs t (0, 0)) → (t = 3 ∨ t = 37) → w'.heap[k]? = w.heap[k]?) : OwnSl w' B v ss := by
  obtain ⟨us, ks, h1, h2, h3, h4, h5⟩ := h
  refine ⟨us, ks, h1, h2, h3, own_kept h4 (fun k e => ?_), fun i s hs => ?_⟩
  · obtain ⟨cur, hc⟩ := own_type h4 k e
    exact hk k cur _ (own_blk_lt h4 k e).1 hc (.inr rfl)
  · obtain ⟨k, c, e1, e2, e3⟩ := h5 i s hs
    refine ⟨k, c, e1, e2, own_kept e3 (fun k' e => ?_)⟩
    obtain ⟨cur, hc⟩ := own_type e3 k' e
    exact hk k' cur _ (own_blk_lt e3 k' e).1 hc (.inl rfl)
/-- A slope more. -/
theorem OwnSl.snoc {W0 W w1 : World} {B k c : Nat} {v v1 : Value} {ss : List Slope} {us : List Value} {ks : List Nat} {x : Slope} (h1 : us.length = ss.length) (h2 : ks.length = ss.length) (h3 : ks.Nodup) (hlo : ∀ k ∈ ks, k < W0.heap.size)
    (h4 : W.ownsRow B 37 5 v ss.length (cellsSl ss us))
    (h5 : ∀ (i : Nat) (s : Slope), ss[i]? = some s → ∃ k c, ks[i]? = some k ∧ us[i]? = some (.slice (some ⟨k, 0, none⟩) s.takes.length c) ∧ W.ownsRow B 3 1 (.slice (some ⟨k, 0, none⟩) s.takes.length c) s.takes.length (s.takes.map (Value.int .i64)))
    (hu : W.ownsRow W0.heap.size 3 1 (.slice (some ⟨k, 0, none⟩) x.takes.length c) x.takes.length (x.takes.map (Value.int .i64))) (hB : B ≤ W0.heap.size)
    (hown : w1.ownsRow B 37 5 v1 (ss.length + 1) (cellsSl ss us ++ [.int .i64 x.now, .int .i64 x.need, .int .i64 x.full, .int .i64 x.size, .slice (some ⟨k, 0, none⟩) x.takes.length c])) (hg : W.grownBy w1 v.ownBlock) : OwnSl w1 B v1 (ss ++ [x]) := by
  have key : ∀ {u : Value} {xs : List Int}, W.ownsRow B 3 1 u xs.length (xs.map (Value.int .i64)) → w1.ownsRow B 3 1 u xs.length (xs.map (Value.int .i64)) := fun {u xs} hu =>
    own_kept hu fun k hk => by
      obtain ⟨cur, hc⟩ := own_type hu k hk
      refine hg.block k (own_blk_lt hu k hk).2 (fun e => ?_)
      obtain ⟨cur2, hc2⟩ := own_type h4 k e.symm
      rw [hc] at hc2
      simp at hc2
  have hu' := own_mono hu hB
  have hk := (own_blk_lt hu k rfl).1
  refine ⟨us ++ [_], ks ++ [k], by simp [h1], by simp [h2], List.nodup_append.2 ⟨h3, by simp, fun a ha b hb2 => by have := hlo a ha; simp at hb2; omega⟩, by rw [List.length_append, cellsSl_snoc _ _ _ _ h1]; exact hown, fun i s hs => ?_⟩
  by_cases hi : i < ss.length
  · rw [List.getElem?_append_left hi] at hs
    obtain ⟨k', c', e1, e2, e3⟩ := h5 i s hs
    exact ⟨k', c', by rw [List.getElem?_append_left (by omega)]; exact e1, by rw [List.getElem?_append_left (by omega)]; exact e2, key e3⟩
  · rw [List.getElem?_append_right (by omega)] at hs
    have hz : i - ss.length = 0 := by
      have := (List.getElem?_eq_some_iff.1 hs).1
      simp at this; omega
    rw [hz] at hs
    have : x = s := by simpa using hs
    subst this
    exact ⟨k, c, by rw [List.getElem?_append_right (by omega), h2, hz]; rfl, by rw [List.getElem?_append_right (by omega), h1, hz]; rfl, key hu'⟩
theorem add_plain' (b o j : Nat) : (⟨b, o, none⟩ : Addr).add j = ⟨b, o + j, none⟩ := by unfold Addr.add; split <;> simp_all
theorem alloc_swap {W : World} {o o' : Obj} {p : Addr} (h : p.block < W.heap.size) : (W.alloc o').cell? p = (W.alloc o).cell? p := ((below1 W o').cell h).trans ((below1 W o).cell h).symm
theorem own_empty {w : World} {base b size : Nat} {t : TypeId} (h : w.heap[b]? = some (.cells #[] t (0, 0))) (hb : base ≤ b) : w.ownsRow base t size (.slice (some ⟨b, 0, none⟩) 0 0) 0 [] :=
  ⟨by simp, .inr ⟨b, 0, #[], rfl, hb, h, Nat.le_refl _, by simp [maxLen], by simp, by simp⟩⟩

/-- The box of a copy begun. -/
structure CopyBox (m : Wk) (w1 : World) (s3 : Value) (g : Nat) (cr' : Value) (wx : World) : Prop where
  ptr : s3 = .pointer (some ⟨g, 0, none⟩)
  at_ : w1.heap.size ≤ g
  box : wx.heap[g]? = some (.cells #[.slice none 0 0, cr', .int .i64 m.years, .int .i64 m.visit, .int .i64 m.hands] 25 (0, 0))
  own : wx.ownsRow w1.heap.size 67 3 cr' m.crafts.length (cellsC m.crafts)
  below : Below w1.heap.size w1 wx
def CopyBegun (m : Wk) (w1 : World) (s3 : Value) (wx : World) : Prop := ∃ g cr', CopyBox m w1 s3 g cr' wx
theorem copy_box_new {m : Wk} {w1 w7 : World} {gg cap : Nat} (hb : Below w1.heap.size w1 w7) (hown : w7.ownsRow w1.heap.size 67 3 (.slice (some ⟨gg, 0, none⟩) m.crafts.length cap) m.crafts.length (cellsC m.crafts)) :
    CopyBegun m w1 (.pointer (some ⟨w7.heap.size, 0, none⟩)) (w7.alloc (.cells #[.slice none 0 0, .slice (some ⟨gg, 0, none⟩) m.crafts.length cap, .int .i64 m.years, .int .i64 m.visit, .int .i64 m.hands] 25)) :=
  ⟨_, _, rfl, hb.size, heap_alloc_self _ _, own_below hown (below1 w7 _) (fun k hk => (own_blk_lt hown k hk).2), hb.trans ((below1 w7 _).mono hb.size)⟩
theorem copy_none1 {m : Wk} (h : m.crafts = []) (w1 : World) : CopyBegun m w1 (.pointer (some ⟨w1.heap.size + 1, 0, none⟩)) (((w1.alloc (.cells #[] 67)).alloc (.cells #[.slice none 0 0, .slice (some ⟨w1.heap.size, 0, none⟩) 0 0, .int .i64 m.years, .int .i64 m.visit, .int .i64 m.hands] 25)).drew) := by
  have g1 := heap_alloc_self (w1.alloc (.cells #[] 67)) (.cells #[.slice none 0 0, .slice (some ⟨w1.heap.size, 0, none⟩) 0 0, .int .i64 m.years, .int .i64 m.visit, .int .i64 m.hands] 25)
  have g2 := (Below.heap_alloc (w1.alloc (.cells #[] 67)) (.cells #[.slice none 0 0, .slice (some ⟨w1.heap.size, 0, none⟩) 0 0, .int .i64 m.years, .int .i64 m.visit, .int .i64 m.hands] 25) w1.heap.size (by simp)).trans (heap_alloc_self w1 (.cells #[] 67))
  refine ⟨_, .slice (some ⟨w1.heap.size, 0, none⟩) 0 0, rfl, by omega, by simpa [World.drew] using g1, ?_, ((below1 w1 _).alloc (by simp) _).drew⟩
  rw [h]
  exact own_empty (by simpa [World.drew] using g2) (Nat.le_refl _)
theorem copy_none2 {m : Wk} (h : m.crafts = []) (w1 : World) : CopyBegun m w1 (.pointer (some ⟨w1.heap.size, 0, none⟩)) (((w1.alloc (.cells #[.slice none 0 0, .slice (some ⟨w1.heap.size + 1, 0, none⟩) 0 0, .int .i64 m.years, .int .i64 m.visit, .int .i64 m.hands] 25)).alloc (.cells #[] 67)).drew) := by
  have g1 := heap_alloc_self (w1.alloc (.cells #[.slice none 0 0, .slice (some ⟨w1.heap.size + 1, 0, none⟩) 0 0, .int .i64 m.years, .int .i64 m.visit, .int .i64 m.hands] 25)) (.cells #[] 67)
  have g2 := (Below.heap_alloc (w1.alloc (.cells #[.slice none 0 0, .slice (some ⟨w1.heap.size + 1, 0, none⟩) 0 0, .int .i64 m.years, .int .i64 m.visit, .int .i64 m.hands] 25)) (.cells #[] 67) w1.heap.size (by simp)).trans (heap_alloc_self w1 _)
  refine ⟨_, .slice (some ⟨w1.heap.size + 1, 0, none⟩) 0 0, rfl, Nat.le_refl _, by simpa [World.drew] using g2, ?_, ((below1 w1 _).alloc (by simp) _).drew⟩
  rw [h]
  exact own_empty (by simpa [World.drew] using g1) (by omega)
theorem copy_box_set {m : Wk} {w1 w7 : World} {gg cap k : Nat} (hk : w1.heap.size ≤ k) (hne : gg ≠ k) (hb : Below w1.heap.size w1 w7) (hown : w7.ownsRow w1.heap.size 67 3 (.slice (some ⟨gg, 0, none⟩) m.crafts.length cap) m.crafts.length (cellsC m.crafts))
    (hg : w7.heap[k]? = some (.cells #[.slice none 0 0, .slice none 0 0, .int .i64 0, .int .i64 0, .int .i64 0] 25 (0, 0))) :
    CopyBegun m w1 (.pointer (some ⟨k, 0, none⟩)) (((((w7.setCell ⟨k, 0, none⟩ (.slice none 0 0)).setCell ⟨k, 1, none⟩ (.slice (some ⟨gg, 0, none⟩) m.crafts.length cap)).setCell ⟨k, 2, none⟩ (.int .i64 m.years)).setCell ⟨k, 3, none⟩ (.int .i64 m.visit)).setCell ⟨k, 4, none⟩ (.int .i64 m.hands)) := by
  refine ⟨k, .slice (some ⟨gg, 0, none⟩) m.crafts.length cap, rfl, hk, ?_, own_kept hown (fun j hj => ?_), ?_⟩
  · rw [heap_set (heap_set (heap_set (heap_set (heap_set hg 0 _) 1 _) 2 _) 3 _) 4 _]; rfl
  · have e : gg = j := by simpa [Value.ownBlock] using hj
    subst e
    rw [Below.heap_setCell _ _ _ _ hne, Below.heap_setCell _ _ _ _ hne, Below.heap_setCell _ _ _ _ hne, Below.heap_setCell _ _ _ _ hne, Below.heap_setCell _ _ _ _ hne]
  · exact ((((hb.setCell (p := ⟨k, 0, none⟩) hk _).setCell (p := ⟨k, 1, none⟩) hk _).setCell (p := ⟨k, 2, none⟩) hk _).setCell (p := ⟨k, 3, none⟩) hk _).setCell (p := ⟨k, 4, none⟩) hk _
theorem infoSlopeS : (Tryz.prog.info? 37).map (fun i => (i.zero, i.size, i.bytes)) = some (some (.agg #[.int .i64 0, .int .i64 0, .int .i64 0, .int .i64 0, .slice none 0 0]), 5, 56) := by kernel_rfl
/-- The copy at slope j. -/
structure CopyInv (m : Wk) (w1 : World) (g : Nat) (cr' v : Value) (j : Nat) (wr : World) : Prop where
  box : wr.heap[g]? = some (.cells #[v, cr', .int .i64 m.years, .int .i64 m.visit, .int .i64 m.hands] 25 (0, 0))
  slopes : OwnSl wr w1.heap.size v (m.slopes.take j)
  own : wr.ownsRow w1.heap.size 67 3 cr' m.crafts.length (cellsC m.crafts)
  below : Below w1.heap.size w1 wr
/-- A slope copied, with takes of its own. -/
structure SlopeCopy (wr : World) (x : Slope) (k c : Nat) (wx : World) : Prop where
  below : Below wr.heap.size wr wx
  box : wx.heap[wr.heap.size]? = some (.cells #[.int .i64 x.now, .int .i64 x.need, .int .i64 x.full, .int .i64 x.size, .slice (some ⟨k, 0, none⟩) x.takes.length c] 37 (0, 0))
  own : wx.ownsRow wr.heap.size 3 1 (.slice (some ⟨k, 0, none⟩) x.takes.length c) x.takes.length (x.takes.map (Value.int .i64))
def SlopeCopied (wr : World) (x : Slope) (wx : World) : Prop := ∃ k c, SlopeCopy wr x k c wx
theorem slope_copied {wr w7 : World} {x : Slope} {gg cap : Nat} {tv : Value} (hne : gg ≠ wr.heap.size) (hb : Below wr.heap.size wr w7)
    (h7 : w7.heap[wr.heap.size]? = some (.cells #[.int .i64 x.now, .int .i64 x.need, .int .i64 x.full, .int .i64 x.size, tv] 37 (0, 0)))
    (hown : w7.ownsRow wr.heap.size 3 1 (.slice (some ⟨gg, 0, none⟩) x.takes.length cap) x.takes.length (x.takes.map (Value.int .i64))) :
    SlopeCopied wr x (w7.setCell ⟨wr.heap.size, 4, none⟩ (.slice (some ⟨gg, 0, none⟩) x.takes.length cap)) := by
  refine ⟨gg, cap, hb.setCell (p := ⟨wr.heap.size, 4, none⟩) (Nat.le_refl _) _, (heap_set h7 4 _).trans rfl, own_kept hown (fun j hj => ?_)⟩
  have e : gg = j := by simpa [Value.ownBlock] using hj
  subst e
  exact Below.heap_setCell _ _ _ _ hne
/-- The round's end. -/
theorem copy_round {m : Wk} {w1 wr wx W w8 : World} {g k c : Nat} {cr' v v8 : Value} {j : Nat} {x : Slope} (hi : CopyInv m w1 g cr' v j wr) (hts : m.slopes.take (j + 1) = m.slopes.take j ++ [x]) (hj : (m.slopes.take j).length = j) (hc : SlopeCopy wr x k c wx)
    (hW : Below wx.heap.size wx W) {us : List Value} {ks : List Nat} (a1 : us.length = (m.slopes.take j).length) (a2 : ks.length = (m.slopes.take j).length) (a3 : ks.Nodup)
    (a4 : wr.ownsRow w1.heap.size 37 5 v (m.slopes.take j).length (cellsSl (m.slopes.take j) us))
    (a5 : ∀ (i : Nat) (s : Slope), (m.slopes.take j)[i]? = some s → ∃ k c, ks[i]? = some k ∧ us[i]? = some (.slice (some ⟨k, 0, none⟩) s.takes.length c) ∧ wr.ownsRow w1.heap.size 3 1 (.slice (some ⟨k, 0, none⟩) s.takes.length c) s.takes.length (s.takes.map (Value.int .i64)))
    (hown : w8.ownsRow w1.heap.size 37 5 v8 (j + 1) (cellsSl (m.slopes.take j) us ++ [.int .i64 x.now, .int .i64 x.need, .int .i64 x.full, .int .i64 x.size, .slice (some ⟨k, 0, none⟩) x.takes.length c])) (hg : W.grownBy w8 v.ownBlock) (hb8 : Below w1.heap.size W w8) (hg1 : w1.heap.size ≤ g) :
    w8.heap[g]? = some (.cells #[v, cr', .int .i64 m.years, .int .i64 m.visit, .int .i64 m.hands] 25 (0, 0)) ∧ CopyInv m w1 g cr' v8 (j + 1) (w8.setCell ⟨g, 0, none⟩ v8) := by
  have zi := hi.below.size
  have hrW : Below wr.heap.size wr W := hc.below.trans (hW.mono hc.below.size)
  have hgW : W.heap[g]? = some (.cells #[v, cr', .int .i64 m.years, .int .i64 m.visit, .int .i64 m.hands] 25 (0, 0)) := blk_below hrW hi.box (lt_blk hi.box)
  have hvW : ∀ b, v.ownBlock = some b → ∃ cur, W.heap[b]? = some (.cells cur 37 (0, 0)) := fun b hb => by
    obtain ⟨cur, hcu⟩ := own_type a4 b hb
    exact ⟨cur, blk_below hrW hcu (lt_blk hcu)⟩
  have hg8 : w8.heap[g]? = some (.cells #[v, cr', .int .i64 m.years, .int .i64 m.visit, .int .i64 m.hands] 25 (0, 0)) := by
    rw [hg.block g (lt_blk hgW) (fun e => ?_)]
    · exact hgW
    · obtain ⟨cur, hcu⟩ := hvW g e.symm
      rw [hgW] at hcu
      simp at hcu
  refine ⟨hg8, ?_⟩
  have hs := OwnSl.snoc (W0 := wr) (W := W) (x := x) (k := k) (c := c) a1 a2 a3 (fun k' hk' => by
    obtain ⟨i, hik⟩ := List.getElem?_of_mem hk'
    have hil := (List.getElem?_eq_some_iff.1 hik).1
    have hil2 : i < (m.slopes.take j).length := by omega
    obtain ⟨k2, c2, e1, _, e3⟩ := a5 i _ (List.getElem?_eq_getElem hil2)
    rw [hik] at e1
    cases e1
    exact (own_blk_lt e3 _ rfl).2) (own_below a4 hrW (fun k hk => (own_blk_lt a4 k hk).2)) (fun i s hs => by
    obtain ⟨k2, c2, e1, e2, e3⟩ := a5 i s hs
    exact ⟨k2, c2, e1, e2, own_below e3 hrW (fun k hk => (own_blk_lt e3 k hk).2)⟩) (own_below hc.own hW (fun k hk => (own_blk_lt hc.own k hk).2)) zi (by rw [hj]; exact hown) hg
  have hc0 := own_below hi.own hrW (fun k hk => (own_blk_lt hi.own k hk).2)
  have hs' : OwnSl (w8.setCell ⟨g, 0, none⟩ v8) w1.heap.size v8 (m.slopes.take j ++ [x]) := hs.kept (fun b cs t _ hb ht => Below.heap_setCell _ _ _ _ (fun e => by
    change b = g at e
    subst e
    rw [hg8] at hb
    rcases ht with ht | ht <;> subst ht <;> simp at hb))
  have hc8 : w8.ownsRow w1.heap.size 67 3 cr' m.crafts.length (cellsC m.crafts) := own_kept hc0 (fun b hb => hg.block b (own_blk_lt hc0 b hb).2 (fun e => by
    obtain ⟨cur, hcu⟩ := hvW b e.symm
    obtain ⟨cu2, hc2⟩ := own_type hc0 b hb
    rw [hc2] at hcu
    simp at hcu))
  refine ⟨(heap_set hg8 0 _).trans rfl, by rw [hts]; exact hs', own_kept hc8 (fun b hb => Below.heap_setCell _ _ _ _ (fun e => ?_)), ((hi.below.trans (hrW.mono zi)).trans hb8).setCell (p := ⟨g, 0, none⟩) hg1 _⟩
  change b = g at e
  subst e
  obtain ⟨cu2, hc2⟩ := own_type hc0 _ hb
  rw [hgW] at hc2
  simp at hc2
/-- What Copy gives. -/
def CopyPost (m : Wk) (w : World) (e : Ending) (w' : World) : Prop := ∃ v cr', e = .returned (.agg #[v, cr', .int .i64 m.years, .int .i64 m.visit, .int .i64 m.hands]) ∧ OwnSl w' w.heap.size v m.slopes ∧ w'.ownsRow w.heap.size 67 3 cr' m.crafts.length (cellsC m.crafts) ∧ Below w.heap.size w w'
theorem infoWorksZ : (Tryz.prog.info? 25).map (·.size) = some 5 := by kernel_rfl
theorem OwnSl.mono {w : World} {B B' : Nat} {v : Value} {ss : List Slope} (h : OwnSl w B v ss) (hb : B' ≤ B) : OwnSl w B' v ss := by
  obtain ⟨us, ks, h1, h2, h3, h4, h5⟩ := h
  refine ⟨us, ks, h1, h2, h3, own_mono h4 hb, fun i s hs => ?_⟩
  obtain ⟨k, c, e1, e2, e3⟩ := h5 i s hs
  exact ⟨k, c, e1, e2, own_mono e3 hb⟩
theorem copy_end {m : Wk} {w w1 wi : World} {g : Nat} {cr' v v0 v1 v2 v3 v4 : Value} (hi : CopyInv m w1 g cr' v m.slopes.length wi) (hz : w1.heap.size = w.heap.size + 2) (hb1 : Below w.heap.size w w1) :
    CopyPost m w (.returned (.agg #[v, cr', .int .i64 m.years, .int .i64 m.visit, .int .i64 m.hands])) (((((wi.setCell ⟨w.heap.size + 1, 0, none⟩ v0).setCell ⟨w.heap.size + 1, 1, none⟩ v1).setCell ⟨w.heap.size + 1, 2, none⟩ v2).setCell ⟨w.heap.size + 1, 3, none⟩ v3).setCell ⟨w.heap.size + 1, 4, none⟩ v4) := by
  have hk : ∀ k, w1.heap.size ≤ k → (((((wi.setCell ⟨w.heap.size + 1, 0, none⟩ v0).setCell ⟨w.heap.size + 1, 1, none⟩ v1).setCell ⟨w.heap.size + 1, 2, none⟩ v2).setCell ⟨w.heap.size + 1, 3, none⟩ v3).setCell ⟨w.heap.size + 1, 4, none⟩ v4).heap[k]? = wi.heap[k]? := fun k hk => by
    have hne : k ≠ w.heap.size + 1 := by omega
    rw [Below.heap_setCell _ _ _ _ hne, Below.heap_setCell _ _ _ _ hne, Below.heap_setCell _ _ _ _ hne, Below.heap_setCell _ _ _ _ hne, Below.heap_setCell _ _ _ _ hne]
  have hs := hi.slopes
  rw [List.take_length] at hs
  have hsz : w.heap.size ≤ w.heap.size + 1 := Nat.le_succ _
  refine ⟨v, cr', rfl, (hs.kept (fun k cs t hB _ _ => hk k hB)).mono (by omega), own_mono (own_kept hi.own (fun k e => hk k (own_blk_lt hi.own k e).1)) (by omega), ?_⟩
  exact ((((((hb1.trans (hi.below.mono (by omega))).setCell (p := ⟨w.heap.size + 1, 0, none⟩) hsz _).setCell (p := ⟨w.heap.size + 1, 1, none⟩) hsz _).setCell (p := ⟨w.heap.size + 1, 2, none⟩) hsz _).setCell (p := ⟨w.heap.size + 1, 3, none⟩) hsz _).setCell (p := ⟨w.heap.size + 1, 4, none⟩) hsz _)
end Go.Proofs.YtcbhldfipfcjaaaGreatDoor
