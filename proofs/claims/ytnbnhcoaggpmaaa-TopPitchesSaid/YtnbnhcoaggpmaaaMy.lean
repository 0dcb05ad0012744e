/- Follow: what a plan leaves and costs. -/
import Derived.Test.YtnbnhcoaggpmaaaMz
import Derived.Test.YtnbnhcoaggpmaaaRh

namespace Go.Proofs.Ytnbnhcoaggpmaaa
open Go Go.RowKit Go.Shelf
set_option maxRecDepth 100000

theorem own_slice {w : World} {b e size n : Nat} {v : Value} {xs : List Value} (h : w.ownsRow b e size v n xs) : ∃ A n c, v = .slice A n c := by
  rcases h.2 with ⟨rfl, _⟩ | ⟨g, cap, cur, rfl, _⟩
  · exact ⟨_, _, _, rfl⟩
  · exact ⟨_, _, _, rfl⟩
/-- append(v, x) where x lies in a block that is known whole. -/
theorem wpList_app2 {P : Program} {ops : Array Oper} {rest : List Oper} {o : Oper} {a : Act} {Q : Exit → Act → World → Prop} {W : World} (base : Nat) (s x : Operand) (t e : TypeId) (z : Value) (size bytes : Nat) (news : List Value)
    (hgd : o.guard = none) (ho : o.op = .call { callee := .builtin .append, args := #[s, x], argTypes := #[t, t] })
    (ht : P.underlying t = some (.slice e)) (hinfo : (P.info? e).map (fun i => (i.zero, i.size, i.bytes)) = some (some z, size, bytes)) (hzs : z.cells.size = size) (hsz : 0 < size) (hb0 : 0 < bytes)
    (v : Value) (n : Nat) (xs : List Value) (hs : a.eval s = v) (b : Nat) (hx : a.eval x = .slice (some ⟨b, 0, none⟩) 1 1) (hblk : W.heap[b]? = some (.cells news.toArray e (0, 0))) (hl : news.length = size) (h1 : ∀ u ∈ news, u.oneCell' = true)
    (hown : W.ownsRow base e size v n xs) (hn : (n + 1) * bytes ≤ 140737488355328) (hbase : base ≤ W.heap.size)
    (h : ∀ v1 w1, w1.ownsRow base e size v1 (n + 1) (xs ++ news) → W.grownBy w1 v.ownBlock → (v1.ownBlock = v.ownBlock ∨ ∃ b, v1.ownBlock = some b ∧ W.heap.size ≤ b) → Below base W w1 → wpList P ops Q rest (a.put o.dst v1) w1) :
    wpList P ops Q (o :: rest) a W := by
  obtain ⟨i0, hi, hzz⟩ := Option.map_eq_some_iff.1 hinfo
  simp only [Prod.mk.injEq] at hzz
  obtain ⟨hz0, hz1, hz2⟩ := hzz
  have hlen : n + 1 ≤ 140737488355328 := Nat.le_trans (Nat.le_mul_of_pos_right _ hb0) hn
  refine wpList_append_own_at (w := W) hgd s x t ho base e i0 z size bytes ht hi hz0 hz1 hz2 hzs hsz v n xs hs hown ⟨b, 0, none⟩ 1 1 news hx (by omega)
    (World.news_of_block (cs := news.toArray) (t := e) (fr := (0, 0)) hblk) h1 (by simp only [maxLen]; omega) hn hbase ?_
  intro v1 w1 ho1 hg _ hat
  have hbb : ∀ k, v.ownBlock = some k → base ≤ k := fun k hk => (own_blk_lt hown k hk).1
  refine h v1 w1 ho1 hg ?_ ((Below.refl _ _).grown hg hbase hbb)
  rcases hat with hat | hat
  · exact .inl hat
  · exact .inr ⟨_, hat, Nat.le_refl _⟩
theorem infoRow : (Try.prog.info? 41).map (fun i => (i.zero, i.size, i.bytes)) = some (some (.slice none 0 0), 1, 24) := by kernel_rfl

/-- Four boxes side by side, written anew. -/
theorem set4 (n : Nat) (w : World) (v1 v2 v3 v4 : Value) (t1 t2 t3 t4 : TypeId) (h1 : w.heap[n]? = some (.cells #[v1] t1 (0, 0))) (h2 : w.heap[n + 1]? = some (.cells #[v2] t2 (0, 0))) (h3 : w.heap[n + 1 + 1]? = some (.cells #[v3] t3 (0, 0)))
    (h4 : w.heap[n + 1 + 1 + 1]? = some (.cells #[v4] t4 (0, 0))) (x1 x2 x3 x4 : Value) :
    let W := (((w.setCell ⟨n, 0, none⟩ x1).setCell ⟨n + 1, 0, none⟩ x2).setCell ⟨n + 1 + 1, 0, none⟩ x3).setCell ⟨n + 1 + 1 + 1, 0, none⟩ x4
    W.heap[n]? = some (.cells #[x1] t1 (0, 0)) ∧ W.heap[n + 1]? = some (.cells #[x2] t2 (0, 0)) ∧ W.heap[n + 1 + 1]? = some (.cells #[x3] t3 (0, 0)) ∧ W.heap[n + 1 + 1 + 1]? = some (.cells #[x4] t4 (0, 0)) ∧ Below n w W := by
  have e : ∀ (w : World) (a b : Nat) (x : Value), a ≠ b → (w.setCell ⟨b, 0, none⟩ x).heap[a]? = w.heap[a]? := fun w a b x h => Below.heap_setCell _ _ _ _ h
  refine ⟨?_, ?_, ?_, ?_, ?_⟩
  · rw [e _ _ _ _ (by omega), e _ _ _ _ (by omega), e _ _ _ _ (by omega), heap_set h1]; rfl
  · rw [e _ _ _ _ (by omega), e _ _ _ _ (by omega), heap_set ((e _ _ _ _ (by omega)).trans h2)]; rfl
  · rw [e _ _ _ _ (by omega), heap_set ((e _ _ _ _ (by omega)).trans ((e _ _ _ _ (by omega)).trans h3))]; rfl
  · rw [heap_set ((e _ _ _ _ (by omega)).trans ((e _ _ _ _ (by omega)).trans ((e _ _ _ _ (by omega)).trans h4)))]; rfl
  · exact ((((Below.refl _ _).setCell (p := ⟨n, 0, none⟩) (Nat.le_refl _) _).setCell (p := ⟨n + 1, 0, none⟩) (Nat.le_succ _) _).setCell (p := ⟨n + 1 + 1, 0, none⟩) (by show n ≤ n + 1 + 1; omega) _).setCell (p := ⟨n + 1 + 1 + 1, 0, none⟩) (by show n ≤ n + 1 + 1 + 1; omega) _

/-- What Follow comes to. -/
def FollowPost (m : Wk) (plan : List (List Int)) (w : World) (e : Ending) (w' : World) : Prop :=
  ∃ v, e = .returned (.tuple #[v, .int .i64 (followS m plan).2.1, .int .i64 (followS m plan).2.2.1, .int .i64 (followS m plan).2.2.2]) ∧ RowsAt w' w'.heap.size v (followS m plan).1 ∧ Below w.heap.size w w'
theorem RowsAt.nil (w : World) (n : Nat) : RowsAt w n (.slice none 0 0) [] := ⟨none, 0, rfl, by simp, fun h => absurd rfl h⟩

/-- What the rounds of Follow keep. -/
structure FlInv (m : Wk) (sA cA mA : Option Addr) (sc cn cc mc : Nat) (plan : List (List Int)) (w : World) (B b9 b10 kt kc ks : Nat) (W : World) (v4 : Value) : Prop where
  below : Below w.heap.size w W
  c4 : W.heap[w.heap.size + 1]? = some (.cells #[v4] 50 (0, 0))
  thick : OwnRows W B v4 (thTo m plan kt)
  c5 : W.heap[w.heap.size + 1 + 1]? = some (.cells #[.int .i64 (costPl m plan kc)] 3 (0, 0))
  c6 : W.heap[w.heap.size + 1 + 1 + 1]? = some (.cells #[.int .i64 0] 3 (0, 0))
  c7 : W.heap[w.heap.size + 1 + 1 + 1 + 1]? = some (.cells #[.int .i64 0] 32 (0, 0))
  model : W.heap[b9]? = some (.cells #[.slice sA m.slopes.length sc, .slice cA cn cc, .int .i64 m.years, .int .i64 m.visit, .int .i64 m.hands, .slice mA m.crafts.length mc] 75 (0, 0))
  st : W.heap[b10]? = some (.cells #[.int .i64 (stAt m plan ks).y, .int .i64 (stAt m plan ks).a, .int .i64 (stAt m plan ks).b, .int .i64 (stAt m plan ks).c, .int .i64 (stAt m plan ks).d] 79 (0, 0))
  crafts : McAt W B (.slice mA m.crafts.length mc) m.crafts
  le : B ≤ W.heap.size
  lt1 : w.heap.size + 5 ≤ b9
  lt2 : b9 < b10
  lt3 : b10 < B
  kept : ∀ j < ks, keptIn m plan j = true

theorem McAt.setCell {W : World} {n : Nat} {mc : Value} {crafts : List Craft} (h : McAt W n mc crafts) {p i : Nat} {cs : Array Value} {t : TypeId} {fr : Nat × Nat} (hp : W.heap[p]? = some (.cells cs t fr))
    (hc : ∀ (j : Nat) (u : Value), cs[j]? = some u → ∀ T x, u ≠ .iface T x) (v : Value) : McAt (W.setCell ⟨p, i, none⟩ v) n mc crafts := by
  obtain ⟨A, c, e1, hl, hr⟩ := h
  refine ⟨A, c, e1, hl, fun hn => ?_⟩
  obtain ⟨b, o, e2, hlt, hcs⟩ := hr hn
  refine ⟨b, o, e2, hlt, fun j u hu => ?_⟩
  have h15 := hcs j u hu
  by_cases hbn : b = p
  · subst hbn
    rw [cell_blk hp] at h15
    rw [List.getElem?_map, Option.map_eq_some_iff] at hu
    obtain ⟨cf, _, rfl⟩ := hu
    unfold craftV at h15
    split at h15 <;> exact absurd rfl (hc _ _ h15 _ _)
  · exact (World.cell?_of_block (a := ⟨b, o + j, none⟩) (Below.heap_setCell W ⟨p, i, none⟩ v b hbn)).trans h15
theorem setCell_same {w : World} {b i : Nat} {cs : Array Value} {t : TypeId} {fr : Nat × Nat} {v : Value} (h : w.heap[b]? = some (.cells cs t fr)) (hv : cs[i]? = some v) : w.setCell ⟨b, i, none⟩ v = w := by
  have hh : (w.setCell ⟨b, i, none⟩ v).heap = w.heap := by
    refine Array.ext_getElem? fun k => ?_
    by_cases hk : k = b
    · subst hk
      have e : cs.setIfInBounds i v = cs := by
        refine Array.ext_getElem? fun j => ?_
        by_cases hj : i = j
        · subst hj
          obtain ⟨hlt, _⟩ := Array.getElem?_eq_some_iff.1 hv
          rw [Array.getElem?_setIfInBounds_self, if_pos hlt, hv]
        · rw [Array.getElem?_setIfInBounds_ne hj]
      simp [World.setCell, Array.getElem?_modify, h, e]
    · exact Below.heap_setCell _ _ _ _ hk
  cases w
  simp only [World.setCell] at hh ⊢
  rw [hh]
section
variable {F : Fence} {N : Nat} {P : Program} {ops : Array Oper} {R : World → World → Prop} {w0 : World}
/-- A store of what lies there already. -/
theorem rg_fnS {o : Oper} {K : (World → Prop) → Act → Prop} {Φ : World → Prop} {a : Act} (hw : Region.wanted o (yielded ops a.tmps) = true)
    (hv : ∀ w, R w0 w → (o.semAt F.round a.eval).run P w = .ok .skip w) (h : K Φ (a.put o.dst undef)) : rgOper F N P ops R w0 .fn o K Φ a := by
  unfold rgOper; rw [if_pos hw]
  exact ⟨undef, fun w hr => by unfold rgVal; rw [hv w hr]; exact ⟨rfl, rfl⟩, h⟩
end
theorem FlInv.later {m : Wk} {sA cA mA : Option Addr} {sc cn cc mc : Nat} {plan : List (List Int)} {w : World} {B b9 b10 kt kc ks : Nat} {W W' : World} {v4 : Value} (h : FlInv m sA cA mA sc cn cc mc plan w B b9 b10 kt kc ks W v4) (hb : Below W.heap.size W W') :
    FlInv m sA cA mA sc cn cc mc plan w B b9 b10 kt kc ks W' v4 where
  below := h.below.trans (hb.mono (by have := h.le; have := h.lt1; have := h.lt2; have := h.lt3; omega))
  c4 := blk_below hb h.c4 (lt_blk h.c4)
  thick := h.thick.below hb
  c5 := blk_below hb h.c5 (lt_blk h.c5)
  c6 := blk_below hb h.c6 (lt_blk h.c6)
  c7 := blk_below hb h.c7 (lt_blk h.c7)
  model := blk_below hb h.model (lt_blk h.model)
  st := blk_below hb h.st (lt_blk h.st)
  crafts := h.crafts.below (hb.mono h.le)
  le := Nat.le_trans h.le hb.size
  lt1 := h.lt1
  lt2 := h.lt2
  lt3 := h.lt3
  kept := h.kept
theorem FlInv.app {m : Wk} {sA cA mA : Option Addr} {sc cn cc mc : Nat} {plan : List (List Int)} {w : World} {B b9 b10 kt kc ks : Nat} {W W' : World} {v4 v5 : Value} (h : FlInv m sA cA mA sc cn cc mc plan w B b9 b10 kt kc ks W v4) (hb : Below B W W') (ht : OwnRows W' B v5 (thTo m plan (kt + 1))) :
    FlInv m sA cA mA sc cn cc mc plan w B b9 b10 (kt + 1) kc ks (W'.setCell ⟨w.heap.size + 1, 0, none⟩ v5) v5 := by
  obtain ⟨h1, h2, h3, h4, h5, h6, h7, h8, h9, h10, h11, h12, h13, h14⟩ := h
  have e : ∀ k, k ≠ w.heap.size + 1 → (W'.setCell ⟨w.heap.size + 1, 0, none⟩ v5).heap[k]? = W'.heap[k]? := fun k hk => Below.heap_setCell _ _ _ _ hk
  refine ⟨(h1.trans (hb.mono (by omega))).setCell (by simp) _, ?_, ht.setCell (by show w.heap.size + 1 < B; omega) _, (e _ (by omega)).trans (blk_below hb h4 (by omega)), (e _ (by omega)).trans (blk_below hb h5 (by omega)), (e _ (by omega)).trans (blk_below hb h6 (by omega)),
    (e _ (by omega)).trans (blk_below hb h7 (by omega)), (e _ (by omega)).trans (blk_below hb h8 (by omega)), ?_, ?_, h11, h12, h13, h14⟩
  · rw [heap_set (blk_below hb h2 (by omega))]; rfl
  · refine (h9.below hb).setCell (blk_below hb h2 (by omega)) (fun j u hu T x => ?_) _
    obtain ⟨vs, hvs, _⟩ := h3
    obtain ⟨A', n', c', rfl⟩ := own_slice hvs
    match j, hu with
    | 0, hu => simp at hu; subst hu; simp
    | j + 1, hu => simp at hu
  · have := hb.size; simpa [World.setCell] using Nat.le_trans h10 this
theorem FlInv.cost {m : Wk} {sA cA mA : Option Addr} {sc cn cc mc : Nat} {plan : List (List Int)} {w : World} {B b9 b10 kt kc ks : Nat} {W : World} {v4 : Value} (h : FlInv m sA cA mA sc cn cc mc plan w B b9 b10 kt kc ks W v4) :
    FlInv m sA cA mA sc cn cc mc plan w B b9 b10 kt (kc + 1) ks (W.setCell ⟨w.heap.size + 1 + 1, 0, none⟩ (.int .i64 (costPl m plan (kc + 1)))) v4 := by
  obtain ⟨h1, h2, h3, h4, h5, h6, h7, h8, h9, h10, h11, h12, h13, h14⟩ := h
  have e : ∀ k, k ≠ w.heap.size + 1 + 1 → (W.setCell ⟨w.heap.size + 1 + 1, 0, none⟩ (.int .i64 (costPl m plan (kc + 1)))).heap[k]? = W.heap[k]? := fun k hk => Below.heap_setCell _ _ _ _ hk
  refine ⟨h1.setCell (by show w.heap.size ≤ w.heap.size + 1 + 1; omega) _, (e _ (by omega)).trans h2, h3.setCell (by show w.heap.size + 1 + 1 < B; omega) _, ?_, (e _ (by omega)).trans h5, (e _ (by omega)).trans h6, (e _ (by omega)).trans h7, (e _ (by omega)).trans h8, ?_, by simpa [World.setCell] using h10, h11, h12, h13, h14⟩
  · rw [heap_set h4]; rfl
  · refine h9.setCell h4 (fun j u hu T x => ?_) _
    match j, hu with
    | 0, hu => simp at hu; subst hu; simp
    | j + 1, hu => simp at hu
theorem FlInv.next {m : Wk} {sA cA mA : Option Addr} {sc cn cc mc : Nat} {plan : List (List Int)} {w : World} {B b9 b10 kt kc ks : Nat} {W : World} {v4 : Value} (h : FlInv m sA cA mA sc cn cc mc plan w B b9 b10 kt kc ks W v4) (hk : keptIn m plan ks = true) (s : St) (hs : s = stAt m plan (ks + 1)) :
    FlInv m sA cA mA sc cn cc mc plan w B b9 b10 kt kc (ks + 1) (((((W.setCell ⟨b10, 0, none⟩ (.int .i64 s.y)).setCell ⟨b10, 1, none⟩ (.int .i64 s.a)).setCell ⟨b10, 2, none⟩ (.int .i64 s.b)).setCell ⟨b10, 3, none⟩ (.int .i64 s.c)).setCell ⟨b10, 4, none⟩ (.int .i64 s.d)) v4 := by
  obtain ⟨h1, h2, h3, h4, h5, h6, h7, h8, h9, h10, h11, h12, h13, h14⟩ := h
  subst hs
  have e : ∀ k, k ≠ b10 → (((((W.setCell ⟨b10, 0, none⟩ (.int .i64 (stAt m plan (ks + 1)).y)).setCell ⟨b10, 1, none⟩ (.int .i64 (stAt m plan (ks + 1)).a)).setCell ⟨b10, 2, none⟩ (.int .i64 (stAt m plan (ks + 1)).b)).setCell ⟨b10, 3, none⟩ (.int .i64 (stAt m plan (ks + 1)).c)).setCell ⟨b10, 4, none⟩ (.int .i64 (stAt m plan (ks + 1)).d)).heap[k]? = W.heap[k]? := fun k hk =>
    (Below.heap_setCell _ _ _ _ hk).trans ((Below.heap_setCell _ _ _ _ hk).trans ((Below.heap_setCell _ _ _ _ hk).trans ((Below.heap_setCell _ _ _ _ hk).trans (Below.heap_setCell _ _ _ _ hk))))
  have i5 : ∀ (cs : Array Value) (h : ∃ x0 x1 x2 x3 x4, cs = #[.int .i64 x0, .int .i64 x1, .int .i64 x2, .int .i64 x3, .int .i64 x4]) (j : Nat) (u : Value), cs[j]? = some u → ∀ T x, u ≠ .iface T x := by
    rintro cs ⟨x0, x1, x2, x3, x4, rfl⟩ j u hu T x
    match j, hu with
    | 0, hu => simp at hu; subst hu; simp
    | 1, hu => simp at hu; subst hu; simp
    | 2, hu => simp at hu; subst hu; simp
    | 3, hu => simp at hu; subst hu; simp
    | 4, hu => simp at hu; subst hu; simp
    | j + 5, hu => simp at hu
  refine ⟨((((h1.setCell (p := ⟨b10, 0, none⟩) (by show _ ≤ b10; omega) _).setCell (p := ⟨b10, 1, none⟩) (by show _ ≤ b10; omega) _).setCell (p := ⟨b10, 2, none⟩) (by show _ ≤ b10; omega) _).setCell (p := ⟨b10, 3, none⟩) (by show _ ≤ b10; omega) _).setCell (p := ⟨b10, 4, none⟩) (by show _ ≤ b10; omega) _,
    (e _ (by omega)).trans h2, ((((h3.setCell (p := ⟨b10, 0, none⟩) h13 _).setCell (p := ⟨b10, 1, none⟩) h13 _).setCell (p := ⟨b10, 2, none⟩) h13 _).setCell (p := ⟨b10, 3, none⟩) h13 _).setCell (p := ⟨b10, 4, none⟩) h13 _, (e _ (by omega)).trans h4, (e _ (by omega)).trans h5, (e _ (by omega)).trans h6, (e _ (by omega)).trans h7, ?_, ?_, by simpa [World.setCell] using h10, h11, h12, h13, ?_⟩
  · rw [heap_set (heap_set (heap_set (heap_set (heap_set h8 0 _) 1 _) 2 _) 3 _) 4 _]; rfl
  · have k0 := h8
    have k1 := heap_set k0 0 (.int .i64 (stAt m plan (ks + 1)).y)
    have k2 := heap_set k1 1 (.int .i64 (stAt m plan (ks + 1)).a)
    have k3 := heap_set k2 2 (.int .i64 (stAt m plan (ks + 1)).b)
    have k4 := heap_set k3 3 (.int .i64 (stAt m plan (ks + 1)).c)
    exact ((((h9.setCell k0 (i5 _ ⟨_, _, _, _, _, rfl⟩) _).setCell k1 (i5 _ ⟨_, _, _, _, _, rfl⟩) _).setCell k2 (i5 _ ⟨_, _, _, _, _, rfl⟩) _).setCell k3 (i5 _ ⟨_, _, _, _, _, rfl⟩) _).setCell k4 (i5 _ ⟨_, _, _, _, _, rfl⟩) _
  · intro j hj
    rcases Nat.lt_or_ge j ks with h | h
    · exact h14 j h
    · obtain rfl : j = ks := by omega
      exact hk

end Go.Proofs.Ytnbnhcoaggpmaaa
