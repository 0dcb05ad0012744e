/- Follow: what a plan leaves and costs. -/
import Derived.Test.YtcbhldfipfcjaaaGreatDoorMz
import Derived.Test.YtcbhldfipfcjaaaGreatDoorRh

namespace Go.Proofs.YtcbhldfipfcjaaaGreatDoor
open Go Go.RowKit Go.Shelf
set_option maxRecDepth 100000

theorem own_slice {w : World} {b e size n : Nat} {v : Value} {xs : List Value} (h : w.ownsRow b e size v n xs) : ∃ A n c, v = .slice A n c := by
  rcases h.2 with ⟨rfl, _⟩ | ⟨g, cap, cur, rfl, _⟩
  · exact ⟨_, _, _, rfl⟩
  · exact ⟨_, _, _, rfl⟩
/-- append(v, x) where x lies in a block that is known whole. -/
theorem wpList_app2 {P : Program} {ops : Array Oper} {rest : List Oper} {o : Oper} {a : Act} {Q : Exit → Act → World → Prop} {W : World} (base : Nat) (s x : Operand) (t e : TypeId) (z : Value) (size bytes : Nat) (news : List Value)
    (hgd : o.guard = none) (ho : o.op = .call { callee := .builtin .append, args := #[s, x], argTypes := #[t, t] })
    (ht : P.underlying t = some (.slice e)) (hinfo : (P.info? e).map (fun i => (i.zero, i.size, i.bytes)) = some (some z, size, bytes)) (hzs : z.cells.size = size) (hsz : 0 < size) (hb0 : 0 < bytes)
    (v : Value) (n : Nat) (xs : List Value) (hs : a.eval s = v) (b : Nat) (hx : a.eval x = .slice (some ⟨b, 0, none⟩) 1 1) (hblk : W.heap[b]? = some (.cells news.toArray e (0, 0))) (hl : news.length = size) (h1 : ∀ u ∈ news, u.oneCell' = true)
    (hown : W.ownsRow base e size v n xs) (hn : (n + 1) * bytes ≤ 140737488355328) (hbase : base ≤ W.heap.size)
    (h : ∀ v1 w1, w1.ownsRow base e size v1 (n + 1) (xs ++ news) → W.grownBy w1 v.ownBlock → (v1.ownBlock = v.ownBlock ∨ ∃ b, v1.ownBlock = some b ∧ W.heap.size ≤ b) → Below base W w1 → wpList P ops Q rest (a.put o.dst v1) w1) :
    wpList P ops Q (o :: rest) a W := by
  obtain ⟨i0, hi, hzz⟩ := Option.map_eq_some_iff.1 hinfo
  simp only [Prod.mk.injEq] at hzz
  obtain ⟨hz0, hz1, hz2⟩ := hzz
  have hlen : n + 1 ≤ 140737488355328 := Nat.le_trans (Nat.le_mul_of_pos_right _ hb0) hn
  refine wpList_append_own_at (w := W) hgd s x t ho base e i0 z size bytes ht hi hz0 hz1 hz2 hzs hsz v n xs hs hown ⟨b, 0, none⟩ 1 1 news hx (by omega)
    (World.news_of_block (cs := news.toArray) (t := e) (fr := (0, 0)) hblk) h1 (by simp only [maxLen]; omega) hn hbase ?_
  intro v1 w1 ho1 hg _ hat
  have hbb : ∀ k, v.ownBlock = some k → base ≤ k := fun k hk => (own_blk_lt hown k hk).1
  refine h v1 w1 ho1 hg ?_ ((Below.refl _ _).grown hg hbase hbb)
  rcases hat with hat | hat
  · exact .inl hat
  · exact .inr ⟨_, hat, Nat.le_refl _⟩
theorem infoRow : (Tryz.prog.info? 35).map (fun i => (i.zero, i.size, i.bytes)) = some (some (.slice none 0 0), 1, 24) := by kernel_rfl

theorem catch_idle (p4 p5 p6 p7 : Addr) (w : World) :
    CallsD Tryz.prog 38 #[.pointer (some p4), .pointer (some p5), .pointer (some p6), .pointer (some p7)] .returning w fun e u' w' => u' = .returning ∧ e = .returned (.tuple #[]) ∧ w' = w := by
  have hnil : ∀ w : World, (binOp BinOp.eql 20 .nilIface .nilIface).run Tryz.prog w = .ok (.bool true) w := fun _ => by kernel_rfl
  refine callsD_of_wpS Tryz.func38 rfl fun c₀ cs hu => ?_
  apply wpS_seq
  apply wpS_region
  simp [wpOpsS, go_sem, recoverD, hu, Tryz.ntmps38, Exit.thenS]
  refine wpS_of_wp ?_
  cases c₀
  simp only at hu
  subst hu
  go_wp2
  exact ⟨rfl, .returning, rfl, .tuple #[], by simp [results, Tryz.results38], rfl, rfl, rfl⟩
theorem catch_bad (b4 b5 b6 b7 : Nat) (v4 v5 v6 v7 : Value) (t4 t5 t6 t7 : TypeId) (w : World) (h4 : w.heap[b4]? = some (.cells #[v4] t4 (0, 0))) (h5 : w.heap[b5]? = some (.cells #[v5] t5 (0, 0))) (h6 : w.heap[b6]? = some (.cells #[v6] t6 (0, 0)))
    (h7 : w.heap[b7]? = some (.cells #[v7] t7 (0, 0))) (h45 : b4 < b5) (h56 : b5 < b6) (h67 : b6 < b7) :
    CallsD Tryz.prog 38 #[.pointer (some ⟨b4, 0, none⟩), .pointer (some ⟨b5, 0, none⟩), .pointer (some ⟨b6, 0, none⟩), .pointer (some ⟨b7, 0, none⟩)] (.panicking [{ v := badV, recovered := false }]) w
      fun e u' w' => u' = .panicking [{ v := badV, recovered := true }] ∧ e = .returned (.tuple #[]) ∧ w' = ((((w.alloc (.cells #[] 87)).setCell ⟨b4, 0, none⟩ (.slice none 0 0)).setCell ⟨b5, 0, none⟩ (.int .i64 0)).setCell ⟨b6, 0, none⟩ (.int .i64 0)).setCell ⟨b7, 0, none⟩ (.int .i64 1) := by
  have hne : ∀ w : World, (binOp BinOp.eql 20 badV .nilIface).run Tryz.prog w = .ok (.bool false) w := fun _ => by kernel_rfl
  have hta : ∀ w : World, (Instr.typeAssert badV 20 87 true).run Tryz.prog w = .ok (.tuple #[.agg #[], .bool true]) w := fun _ => by kernel_rfl
  unfold badV at *
  refine callsD_of_wpS Tryz.func38 rfl fun c₀ cs hu => ?_
  apply wpS_seq
  apply wpS_region
  simp [wpOpsS, go_sem, recoverD, hu, Tryz.ntmps38, Exit.thenS]
  refine wpS_of_wp ?_
  cases c₀
  simp only at hu
  subst hu
  obtain ⟨W1, hW1⟩ : ∃ W1, W1 = w.alloc (.cells #[] 87) := ⟨_, rfl⟩
  have hb1 : Below w.heap.size w W1 := by rw [hW1]; exact below1 _ _
  have k4 := blk_below hb1 h4 (lt_blk h4)
  have k5 := blk_below hb1 h5 (lt_blk h5)
  have k6 := blk_below hb1 h6 (lt_blk h6)
  have k7 := blk_below hb1 h7 (lt_blk h7)
  rw [hW1] at k4 k5 k6 k7
  have c4 : (w.alloc (.cells #[] 87)).cell? ⟨b4, 0, none⟩ = some v4 := by rw [cell_blk k4]; rfl
  have c5 : (w.alloc (.cells #[] 87)).cell? ⟨b5, 0, none⟩ = some v5 := by rw [cell_blk k5]; rfl
  have c6 : (w.alloc (.cells #[] 87)).cell? ⟨b6, 0, none⟩ = some v6 := by rw [cell_blk k6]; rfl
  have c7 : (w.alloc (.cells #[] 87)).cell? ⟨b7, 0, none⟩ = some v7 := by rw [cell_blk k7]; rfl
  have f4 := frozen_blk k4 0
  have f5 := frozen_blk k5 0
  have f6 := frozen_blk k6 0
  have f7 := frozen_blk k7 0
  clear hW1 hb1 k4 k5 k6 k7 h4 h5 h6 h7
  go_wp2
  exact ⟨rfl, .panicking [{ v := .iface 87 (.agg #[]), recovered := true }], rfl, .tuple #[], by simp [results, Tryz.results38], rfl, rfl, rfl⟩

/-- Four boxes side by side, written anew. -/
theorem set4 (n : Nat) (w : World) (v1 v2 v3 v4 : Value) (t1 t2 t3 t4 : TypeId) (h1 : w.heap[n]? = some (.cells #[v1] t1 (0, 0))) (h2 : w.heap[n + 1]? = some (.cells #[v2] t2 (0, 0))) (h3 : w.heap[n + 1 + 1]? = some (.cells #[v3] t3 (0, 0)))
    (h4 : w.heap[n + 1 + 1 + 1]? = some (.cells #[v4] t4 (0, 0))) (x1 x2 x3 x4 : Value) :
    let W := (((w.setCell ⟨n, 0, none⟩ x1).setCell ⟨n + 1, 0, none⟩ x2).setCell ⟨n + 1 + 1, 0, none⟩ x3).setCell ⟨n + 1 + 1 + 1, 0, none⟩ x4
    W.heap[n]? = some (.cells #[x1] t1 (0, 0)) ∧ W.heap[n + 1]? = some (.cells #[x2] t2 (0, 0)) ∧ W.heap[n + 1 + 1]? = some (.cells #[x3] t3 (0, 0)) ∧ W.heap[n + 1 + 1 + 1]? = some (.cells #[x4] t4 (0, 0)) ∧ Below n w W := by
  have e : ∀ (w : World) (a b : Nat) (x : Value), a ≠ b → (w.setCell ⟨b, 0, none⟩ x).heap[a]? = w.heap[a]? := fun w a b x h => Below.heap_setCell _ _ _ _ h
  refine ⟨?_, ?_, ?_, ?_, ?_⟩
  · rw [e _ _ _ _ (by omega), e _ _ _ _ (by omega), e _ _ _ _ (by omega), heap_set h1]; rfl
  · rw [e _ _ _ _ (by omega), e _ _ _ _ (by omega), heap_set ((e _ _ _ _ (by omega)).trans h2)]; rfl
  · rw [e _ _ _ _ (by omega), heap_set ((e _ _ _ _ (by omega)).trans ((e _ _ _ _ (by omega)).trans h3))]; rfl
  · rw [heap_set ((e _ _ _ _ (by omega)).trans ((e _ _ _ _ (by omega)).trans ((e _ _ _ _ (by omega)).trans h4)))]; rfl
  · exact ((((Below.refl _ _).setCell (p := ⟨n, 0, none⟩) (Nat.le_refl _) _).setCell (p := ⟨n + 1, 0, none⟩) (Nat.le_succ _) _).setCell (p := ⟨n + 1 + 1, 0, none⟩) (by show n ≤ n + 1 + 1; omega) _).setCell (p := ⟨n + 1 + 1 + 1, 0, none⟩) (by show n ≤ n + 1 + 1 + 1; omega) _

/-- What Follow comes to. -/
def FollowPost (m : Wk) (plan : List (List Int)) (w : World) (e : Ending) (w' : World) : Prop :=
  ∃ v, e = .returned (.tuple #[v, .int .i64 (followS m plan).2.1, .int .i64 (followS m plan).2.2.1, .int .i64 (followS m plan).2.2.2]) ∧ RowsAt w' w'.heap.size v (followS m plan).1 ∧ Below w.heap.size w w'
theorem RowsAt.nil (w : World) (n : Nat) : RowsAt w n (.slice none 0 0) [] := ⟨none, 0, rfl, by simp, fun h => absurd rfl h⟩

/-- What the rounds of Follow keep. -/
structure FlInv (m : Wk) (sA cA mA : Option Addr) (sc cn cc mc : Nat) (plan : List (List Int)) (w : World) (B b9 b10 kt kc ks : Nat) (W : World) (v4 : Value) : Prop where
  below : Below w.heap.size w W
  c4 : W.heap[w.heap.size + 1]? = some (.cells #[v4] 39 (0, 0))
  thick : OwnRows W B v4 (thTo m plan kt)
  c5 : W.heap[w.heap.size + 1 + 1]? = some (.cells #[.int .i64 (costPl m plan kc)] 3 (0, 0))
  c6 : W.heap[w.heap.size + 1 + 1 + 1]? = some (.cells #[.int .i64 0] 3 (0, 0))
  c7 : W.heap[w.heap.size + 1 + 1 + 1 + 1]? = some (.cells #[.int .i64 0] 28 (0, 0))
  model : W.heap[b9]? = some (.cells #[.slice sA m.slopes.length sc, .slice cA cn cc, .int .i64 m.years, .int .i64 m.visit, .int .i64 m.hands, .slice mA m.crafts.length mc] 90 (0, 0))
  st : W.heap[b10]? = some (.cells #[.int .i64 (stAt m plan ks).y, .int .i64 (stAt m plan ks).a, .int .i64 (stAt m plan ks).b, .int .i64 (stAt m plan ks).c, .int .i64 (stAt m plan ks).d] 95 (0, 0))
  crafts : McAt W B (.slice mA m.crafts.length mc) m.crafts
  le : B ≤ W.heap.size
  lt1 : w.heap.size + 5 ≤ b9
  lt2 : b9 < b10
  lt3 : b10 < B
  kept : ∀ j < ks, keptIn m plan j = true

theorem McAt.setCell {W : World} {n : Nat} {mc : Value} {crafts : List Craft} (h : McAt W n mc crafts) {p i : Nat} {cs : Array Value} {t : TypeId} {fr : Nat × Nat} (hp : W.heap[p]? = some (.cells cs t fr))
    (hc : ∀ (j : Nat) (u : Value), cs[j]? = some u → ∀ T x, u ≠ .iface T x) (v : Value) : McAt (W.setCell ⟨p, i, none⟩ v) n mc crafts := by
  obtain ⟨A, c, e1, hl, hr⟩ := h
  refine ⟨A, c, e1, hl, fun hn => ?_⟩
  obtain ⟨b, o, e2, hlt, hcs⟩ := hr hn
  refine ⟨b, o, e2, hlt, fun j u hu => ?_⟩
  have h15 := hcs j u hu
  by_cases hbn : b = p
  · subst hbn
    rw [cell_blk hp] at h15
    rw [List.getElem?_map, Option.map_eq_some_iff] at hu
    obtain ⟨cf, _, rfl⟩ := hu
    unfold craftV at h15
    split at h15 <;> exact absurd rfl (hc _ _ h15 _ _)
  · exact (World.cell?_of_block (a := ⟨b, o + j, none⟩) (Below.heap_setCell W ⟨p, i, none⟩ v b hbn)).trans h15
theorem setCell_same {w : World} {b i : Nat} {cs : Array Value} {t : TypeId} {fr : Nat × Nat} {v : Value} (h : w.heap[b]? = some (.cells cs t fr)) (hv : cs[i]? = some v) : w.setCell ⟨b, i, none⟩ v = w := by
  have hh : (w.setCell ⟨b, i, none⟩ v).heap = w.heap := by
    refine Array.ext_getElem? fun k => ?_
    by_cases hk : k = b
    · subst hk
      have e : cs.setIfInBounds i v = cs := by
        refine Array.ext_getElem? fun j => ?_
        by_cases hj : i = j
        · subst hj
          obtain ⟨hlt, _⟩ := Array.getElem?_eq_some_iff.1 hv
          rw [Array.getElem?_setIfInBounds_self, if_pos hlt, hv]
        · rw [Array.getElem?_setIfInBounds_ne hj]
      simp [World.setCell, Array.getElem?_modify, h, e]
    · exact Below.heap_setCell _ _ _ _ hk
  cases w
  simp only [World.setCell] at hh ⊢
  rw [hh]
section
variable {F : Fence} {N : Nat} {P : Program} {ops : Array Oper} {R : World → World → Prop} {w0 : World}
/-- A store of what lies there already. -/
theorem rg_fnS {o : Oper} {K : (World → Prop) → Act → Prop} {Φ : World → Prop} {a : Act} (hw : Region.wanted o (yielded ops a.tmps) = true)
    (hv : ∀ w, R w0 w → (o.semAt F.round a.eval).run P w = .ok .skip w) (h : K Φ (a.put o.dst undef)) : rgOper F N P ops R w0 .fn o K Φ a := by
  unfold rgOper; rw [if_pos hw]
  exact ⟨undef, fun w hr => by unfold rgVal; rw [hv w hr]; exact ⟨rfl, rfl⟩, h⟩
end
theorem FlInv.later {m : Wk} {sA cA mA : Option Addr} {sc cn cc mc : Nat} {plan : List (List Int)} {w : World} {B b9 b10 kt kc ks : Nat} {W W' : World} {v4 : Value} (h : FlInv m sA cA mA sc cn cc mc plan w B b9 b10 kt kc ks W v4) (hb : Below W.heap.size W W') :
    FlInv m sA cA mA sc cn cc mc plan w B b9 b10 kt kc ks W' v4 where
  below := h.below.trans (hb.mono (by have := h.le; have := h.lt1; have := h.lt2; have := h.lt3; omega))
  c4 := blk_below hb h.c4 (lt_blk h.c4)
  thick := h.thick.below hb
  c5 := blk_below hb h.c5 (lt_blk h.c5)
  c6 := blk_below hb h.c6 (lt_blk h.c6)
  c7 := blk_below hb h.c7 (lt_blk h.c7)
  model := blk_below hb h.model (lt_blk h.model)
  st := blk_below hb h.st (lt_blk h.st)
  crafts := h.crafts.below (hb.mono h.le)
  le := Nat.le_trans h.le hb.size
  lt1 := h.lt1
  lt2 := h.lt2
  lt3 := h.lt3
  kept := h.kept
theorem FlInv.app {m : Wk} {sA cA mA : Option Addr} {sc cn cc mc : Nat} {plan : List (List Int)} {w : World} {B b9 b10 kt kc ks : Nat} {W W' : World} {v4 v5 : Value} (h : FlInv m sA cA mA sc cn cc mc plan w B b9 b10 kt kc ks W v4) (hb : Below B W W') (ht : OwnRows W' B v5 (thTo m plan (kt + 1))) :
    FlInv m sA cA mA sc cn cc mc plan w B b9 b10 (kt + 1) kc ks (W'.setCell ⟨w.heap.size + 1, 0, none⟩ v5) v5 := by
  obtain ⟨h1, h2, h3, h4, h5, h6, h7, h8, h9, h10, h11, h12, h13, h14⟩ := h
  have e : ∀ k, k ≠ w.heap.size + 1 → (W'.setCell ⟨w.heap.size + 1, 0, none⟩ v5).heap[k]? = W'.heap[k]? := fun k hk => Below.heap_setCell _ _ _ _ hk
  refine ⟨(h1.trans (hb.mono (by omega))).setCell (by simp) _, ?_, ht.setCell (by show w.heap.size + 1 < B; omega) _, (e _ (by omega)).trans (blk_below hb h4 (by omega)), (e _ (by omega)).trans (blk_below hb h5 (by omega)), (e _ (by omega)).trans (blk_below hb h6 (by omega)),
    (e _ (by omega)).trans (blk_below hb h7 (by omega)), (e _ (by omega)).trans (blk_below hb h8 (by omega)), ?_, ?_, h11, h12, h13, h14⟩
  · rw [heap_set (blk_below hb h2 (by omega))]; rfl
  · refine (h9.below hb).setCell (blk_below hb h2 (by omega)) (fun j u hu T x => ?_) _
    obtain ⟨vs, hvs, _⟩ := h3
    obtain ⟨A', n', c', rfl⟩ := own_slice hvs
    match j, hu with
    | 0, hu => simp at hu; subst hu; simp
    | j + 1, hu => simp at hu
  · have := hb.size; simpa [World.setCell] using Nat.le_trans h10 this
theorem FlInv.cost {m : Wk} {sA cA mA : Option Addr} {sc cn cc mc : Nat} {plan : List (List Int)} {w : World} {B b9 b10 kt kc ks : Nat} {W : World} {v4 : Value} (h : FlInv m sA cA mA sc cn cc mc plan w B b9 b10 kt kc ks W v4) :
    FlInv m sA cA mA sc cn cc mc plan w B b9 b10 kt (kc + 1) ks (W.setCell ⟨w.heap.size + 1 + 1, 0, none⟩ (.int .i64 (costPl m plan (kc + 1)))) v4 := by
  obtain ⟨h1, h2, h3, h4, h5, h6, h7, h8, h9, h10, h11, h12, h13, h14⟩ := h
  have e : ∀ k, k ≠ w.heap.size + 1 + 1 → (W.setCell ⟨w.heap.size + 1 + 1, 0, none⟩ (.int .i64 (costPl m plan (kc + 1)))).heap[k]? = W.heap[k]? := fun k hk => Below.heap_setCell _ _ _ _ hk
  refine ⟨h1.setCell (by show w.heap.size ≤ w.heap.size + 1 + 1; omega) _, (e _ (by omega)).trans h2, h3.setCell (by show w.heap.size + 1 + 1 < B; omega) _, ?_, (e _ (by omega)).trans h5, (e _ (by omega)).trans h6, (e _ (by omega)).trans h7, (e _ (by omega)).trans h8, ?_, by simpa [World.setCell] using h10, h11, h12, h13, h14⟩
  · rw [heap_set h4]; rfl
  · refine h9.setCell h4 (fun j u hu T x => ?_) _
    match j, hu with
    | 0, hu => simp at hu; subst hu; simp
    | j + 1, hu => simp at hu
theorem FlInv.next {m : Wk} {sA cA mA : Option Addr} {sc cn cc mc : Nat} {plan : List (List Int)} {w : World} {B b9 b10 kt kc ks : Nat} {W : World} {v4 : Value} (h : FlInv m sA cA mA sc cn cc mc plan w B b9 b10 kt kc ks W v4) (hk : keptIn m plan ks = true) (s : St) (hs : s = stAt m plan (ks + 1)) :
    FlInv m sA cA mA sc cn cc mc plan w B b9 b10 kt kc (ks + 1) (((((W.setCell ⟨b10, 0, none⟩ (.int .i64 s.y)).setCell ⟨b10, 1, none⟩ (.int .i64 s.a)).setCell ⟨b10, 2, none⟩ (.int .i64 s.b)).setCell ⟨b10, 3, none⟩ (.int .i64 s.c)).setCell ⟨b10, 4, none⟩ (.int .i64 s.d)) v4 := by
  obtain ⟨h1, h2, h3, h4, h5, h6, h7, h8, h9, h10, h11, h12, h13, h14⟩ := h
  subst hs
  have e : ∀ k, k ≠ b10 → (((((W.setCell ⟨b10, 0, none⟩ (.int .i64 (stAt m plan (ks + 1)).y)).setCell ⟨b10, 1, none⟩ (.int .i64 (stAt m plan (ks + 1)).a)).setCell ⟨b10, 2, none⟩ (.int .i64 (stAt m plan (ks + 1)).b)).setCell ⟨b10, 3, none⟩ (.int .i64 (stAt m plan (ks + 1)).c)).setCell ⟨b10, 4, none⟩ (.int .i64 (stAt m plan (ks + 1)).d)).heap[k]? = W.heap[k]? := fun k hk =>
    (Below.heap_setCell _ _ _ _ hk).trans ((Below.heap_setCell _ _ _ _ hk).trans ((Below.heap_setCell _ _ _ _ hk).trans ((Below.heap_setCell _ _ _ _ hk).trans (Below.heap_setCell _ _ _ _ hk))))
  have i5 : ∀ (cs : Array Value) (h : ∃ x0 x1 x2 x3 x4, cs = #[.int .i64 x0, .int .i64 x1, .int .i64 x2, .int .i64 x3, .int .i64 x4]) (j : Nat) (u : Value), cs[j]? = some u → ∀ T x, u ≠ .iface T x := by
    rintro cs ⟨x0, x1, x2, x3, x4, rfl⟩ j u hu T x
    match j, hu with
    | 0, hu => simp at hu; subst hu; simp
    | 1, hu => simp at hu; subst hu; simp
    | 2, hu => simp at hu; subst hu; simp
    | 3, hu => simp at hu; subst hu; simp
    | 4, hu => simp at hu; subst hu; simp
    | j + 5, hu => simp at hu
  refine ⟨((((h1.setCell (p := ⟨b10, 0, none⟩) (by show _ ≤ b10; omega) _).setCell (p := ⟨b10, 1, none⟩) (by show _ ≤ b10; omega) _).setCell (p := ⟨b10, 2, none⟩) (by show _ ≤ b10; omega) _).setCell (p := ⟨b10, 3, none⟩) (by show _ ≤ b10; omega) _).setCell (p := ⟨b10, 4, none⟩) (by show _ ≤ b10; omega) _,
    (e _ (by omega)).trans h2, ((((h3.setCell (p := ⟨b10, 0, none⟩) h13 _).setCell (p := ⟨b10, 1, none⟩) h13 _).setCell (p := ⟨b10, 2, none⟩) h13 _).setCell (p := ⟨b10, 3, none⟩) h13 _).setCell (p := ⟨b10, 4, none⟩) h13 _, (e _ (by omega)).trans h4, (e _ (by omega)).trans h5, (e _ (by omega)).trans h6, (e _ (by omega)).trans h7, ?_, ?_, by simpa [World.setCell] using h10, h11, h12, h13, ?_⟩
  · rw [heap_set (heap_set (heap_set (heap_set (heap_set h8 0 _) 1 _) 2 _) 3 _) 4 _]; rfl
  · have k0 := h8
    have k1 := heap_set k0 0 (.int .i64 (stAt m plan (ks + 1)).y)
    have k2 := heap_set k1 1 (.int .i64 (stAt m plan (ks + 1)).a)
    have k3 := heap_set k2 2 (.int .i64 (stAt m plan (ks + 1)).b)
    have k4 := heap_set k3 3 (.int .i64 (stAt m plan (ks + 1)).c)
    exact ((((h9.setCell k0 (i5 _ ⟨_, _, _, _, _, rfl⟩) _).setCell k1 (i5 _ ⟨_, _, _, _, _, rfl⟩) _).setCell k2 (i5 _ ⟨_, _, _, _, _, rfl⟩) _).setCell k3 (i5 _ ⟨_, _, _, _, _, rfl⟩) _).setCell k4 (i5 _ ⟨_, _, _, _, _, rfl⟩) _
  · intro j hj
    rcases Nat.lt_or_ge j ks with h | h
    · exact h14 j h
    · obtain rfl : j = ks := by omega
      exact hk

set_option maxHeartbeats 4000000 in
theorem follow_calls (m : Wk) (sl cr pv : Value) (plan : List (List Int)) (w : World) (hsl : SlopesAt w w.heap.size sl m.slopes) (hcr : CraftsAt w w.heap.size cr m.crafts) (hp : RowsAt w w.heap.size pv plan) :
    Calls Tryz.prog 13 #[.agg #[sl, cr, .int .i64 m.years, .int .i64 m.visit, .int .i64 m.hands], pv] w (FollowPost m plan w) := by
  have hmf : ∀ (fn : Fn) (first cap : Array Value) (w : World), (Instr.makeFunc fn first cap).run Tryz.prog w = .ok (.func fn first cap) w := fun _ _ _ _ => rfl
  obtain ⟨w0, hw0⟩ : ∃ w0, w0 = ((((w.alloc (.cells #[sl, cr, .int .i64 m.years, .int .i64 m.visit, .int .i64 m.hands] 25)).alloc (.cells #[.slice none 0 0] 39)).alloc (.cells #[.int .i64 0] 3)).alloc (.cells #[.int .i64 0] 3)).alloc (.cells #[.int .i64 0] 28) := ⟨_, rfl⟩
  have z0 : w0.heap.size = w.heap.size + 5 := by rw [hw0]; simp
  have b0 : Below w.heap.size w w0 := by rw [hw0]; exact ((((below1 _ _).alloc (by simp) _).alloc (by simp <;> omega) _).alloc (by simp <;> omega) _).alloc (by simp <;> omega) _
  have g0 : w0.heap[w.heap.size]? = some (.cells #[sl, cr, .int .i64 m.years, .int .i64 m.visit, .int .i64 m.hands] 25 (0, 0)) := by
    rw [hw0]; exact (Below.heap_alloc _ _ _ (by simp <;> omega)).trans ((Below.heap_alloc _ _ _ (by simp <;> omega)).trans ((Below.heap_alloc _ _ _ (by simp <;> omega)).trans ((Below.heap_alloc _ _ _ (by simp)).trans (heap_alloc_self _ _))))
  have g1 : w0.heap[w.heap.size + 1]? = some (.cells #[.slice none 0 0] 39 (0, 0)) := by
    rw [hw0]; exact (Below.heap_alloc _ _ _ (by simp <;> omega)).trans ((Below.heap_alloc _ _ _ (by simp <;> omega)).trans ((Below.heap_alloc _ _ _ (by simp)).trans (by simpa using heap_alloc_self (w.alloc _) _)))
  have g2 : w0.heap[w.heap.size + 1 + 1]? = some (.cells #[.int .i64 0] 3 (0, 0)) := by
    rw [hw0]; exact (Below.heap_alloc _ _ _ (by simp <;> omega)).trans ((Below.heap_alloc _ _ _ (by simp)).trans (by simpa using heap_alloc_self ((w.alloc _).alloc _) _))
  have g3 : w0.heap[w.heap.size + 1 + 1 + 1]? = some (.cells #[.int .i64 0] 3 (0, 0)) := by
    rw [hw0]; exact (Below.heap_alloc _ _ _ (by simp)).trans (by simpa using heap_alloc_self (((w.alloc _).alloc _).alloc _) _)
  have g4 : w0.heap[w.heap.size + 1 + 1 + 1 + 1]? = some (.cells #[.int .i64 0] 28 (0, 0)) := by
    rw [hw0]; simpa using heap_alloc_self ((((w.alloc _).alloc _).alloc _).alloc _) _
  have hchk := check_calls m sl cr w0 ((hsl.below b0).mono (by omega)) ((hcr.below b0).mono (by omega))
  have HW0 := Lib.hid hw0
  have HCHK := Lib.hid hchk
  have HB0 := Lib.hid b0
  have HG := Lib.hid (And.intro g0 (And.intro g1 (And.intro g2 (And.intro g3 g4))))
  clear hw0 hchk b0 g0 g1 g2 g3 g4
  by_cases hc : checkS m = 0
  · have hm := checkS_ok hc
    obtain ⟨sA, sc, rfl, _, _⟩ := id hsl
    obtain ⟨cA, cc, rfl, _, _⟩ := id hcr
    have HSL := Lib.hid hsl
    have HCR := Lib.hid hcr
    have HP := Lib.hid hp
    clear hsl hcr hp
    rw [hc] at HCHK
    go_enter_defers Tryz.func13, Tryz.ntmps13
    go_wp2_with fail
    rw [← HW0.out]
    refine HCHK.out.mono ?_
    rintro e w1 ⟨rfl, hb1⟩
    have hb01 := HB0.out.trans (hb1.mono (by omega))
    obtain ⟨g0, g1, g2, g3, g4⟩ := HG.out
    have G1 := Lib.hid (And.intro (blk_below hb1 g0 (by omega)) (And.intro (blk_below hb1 g1 (by omega)) (And.intro (blk_below hb1 g2 (by omega)) (And.intro (blk_below hb1 g3 (by omega)) (blk_below hb1 g4 (by omega))))))
    have z1 := hb1.size
    clear g0 g1 g2 g3 g4 HCHK
    obtain ⟨x0, x1, x2, x3, x4⟩ := blk5 G1.out.1
    have HB01 := Lib.hid hb01
    clear hb1 hb01
    go_wp2_with fail
    refine (modelOf_calls m.crafts sA m.slopes.length sc (.slice cA m.crafts.length cc) m.years m.visit m.hands w1 hm.crafts ((HCR.out.below HB01.out).mono (by omega))).mono ?_
    rintro e w2 ⟨mc, rfl, hmc2, hb2⟩
    obtain ⟨mA, mcap, rfl, _⟩ := id hmc2
    obtain ⟨g0, g1, g2, g3, g4⟩ := G1.out
    have G2 := Lib.hid (And.intro (blk_below hb2 g1 (by omega)) (And.intro (blk_below hb2 g2 (by omega)) (And.intro (blk_below hb2 g3 (by omega)) (blk_below hb2 g4 (by omega)))))
    have z2 := hb2.size
    have HB02 := Lib.hid (HB01.out.trans (hb2.mono (by omega)))
    have HMC2 := Lib.hid hmc2
    clear hb2 g0 g1 g2 g3 g4 x0 x1 x2 x3 x4 hmc2 G1 HB01
    go_wp2_with fail
    obtain ⟨w3, hw3⟩ : ∃ w3, w3 = w2.alloc (.cells #[.slice sA m.slopes.length sc, .slice cA m.crafts.length cc, .int .i64 m.years, .int .i64 m.visit, .int .i64 m.hands, .slice mA m.crafts.length mcap] 90) := ⟨_, rfl⟩
    rw [← hw3]
    have hb3 : Below w2.heap.size w2 w3 := by rw [hw3]; exact below1 _ _
    have m3 : w3.heap[w2.heap.size]? = some (.cells #[.slice sA m.slopes.length sc, .slice cA m.crafts.length cc, .int .i64 m.years, .int .i64 m.visit, .int .i64 m.hands, .slice mA m.crafts.length mcap] 90 (0, 0)) := by rw [hw3]; exact heap_alloc_self _ _
    have z3 : w3.heap.size = w2.heap.size + 1 := by rw [hw3]; simp
    have HB03 := Lib.hid (HB02.out.trans (hb3.mono (by omega)))
    obtain ⟨g1, g2, g3, g4⟩ := G2.out
    have hdm := demand_calls m sA cA mA sc m.crafts.length cc mcap pv plan w3 ((HP.out.below HB03.out).mono (by omega)) (by have := hm.crafts; omega) (by have := hm.few; omega)
    refine hdm.mono ?_
    rintro e w4 ⟨rfl, hb4⟩
    have z4 := hb4.size
    have G4 := Lib.hid (And.intro (blk_below hb4 (blk_below hb3 g1 (by omega)) (by omega)) (And.intro (blk_below hb4 (blk_below hb3 g2 (by omega)) (by omega)) (And.intro (blk_below hb4 (blk_below hb3 g3 (by omega)) (by omega)) (blk_below hb4 (blk_below hb3 g4 (by omega)) (by omega)))))
    have HB04 := Lib.hid (HB03.out.trans (hb4.mono (by omega)))
    have M4 := Lib.hid (blk_below hb4 m3 (by omega))
    have HMC4 := Lib.hid ((HMC2.out.below hb3).below (hb4.mono (by omega)))
    clear hdm hb4 hb3 hw3 m3 g1 g2 g3 g4 G2 HB02 HB03 HMC2
    by_cases hpo : planOk m plan = true
    · rw [if_pos hpo]
      have HPO := Lib.hid hpo
      clear hpo
      obtain ⟨y0, y1, y2, y3, y4, y5⟩ := blk6 M4.out
      go_wp2_with fail
      refine (first_calls m (.slice sA m.slopes.length sc) (.slice cA m.crafts.length cc) (.slice mA m.crafts.length mcap) m.years m.visit m.hands w4 hm.few ((HSL.out.below HB04.out).mono (by omega))).mono ?_
      rintro e w5 ⟨rfl, hb5⟩
      have z5 := hb5.size
      have hpl := planOk_len HPO.out
      have hy40 := hm.years
      obtain ⟨A, c, rfl, hl, hr⟩ := HP.out
      have HR := Lib.hid hr
      have hst0 : FlInv m sA cA mA sc m.crafts.length cc mcap plan w (w5.heap.size + 1) w2.heap.size w5.heap.size 0 0 0 (w5.alloc (.cells #[.int .i64 (firstS m).y, .int .i64 (firstS m).a, .int .i64 (firstS m).b, .int .i64 (firstS m).c, .int .i64 (firstS m).d] 95)) (.slice none 0 0) := by
        obtain ⟨g1, g2, g3, g4⟩ := G4.out
        have hk : ∀ {k : Nat} {o : Obj}, w4.heap[k]? = some o → (w5.alloc (.cells #[.int .i64 (firstS m).y, .int .i64 (firstS m).a, .int .i64 (firstS m).b, .int .i64 (firstS m).c, .int .i64 (firstS m).d] 95)).heap[k]? = some o := fun {k o} h => blk_below (below1 w5 _) (blk_below hb5 h (lt_blk h)) (by have := lt_blk h; omega)
        refine ⟨HB04.out.trans ((hb5.mono (by omega)).trans ((below1 w5 _).mono (by omega))), hk g1, OwnRows.nil _ _, hk g2, hk g3, hk g4, hk M4.out, heap_alloc_self _ _, ?_, by simp, by omega, by omega, by omega, fun j hj => by omega⟩
        exact ((HMC4.out.below (hb5.mono (by omega))).mono (show w2.heap.size ≤ w5.heap.size by omega)).below ((below1 w5 _)) |>.mono (by omega)
      have HST0 := Lib.hid hst0
      have HCK := Lib.hid hc
      have HPL := Lib.hid hpl
      clear hb5 y0 y1 y2 y3 y4 y5 hr hst0 HP G4 M4 HMC4 HG HW0 hc hpl
      go_wp2_with fail
      go_loopw [30] (fun i wr => ∃ (k : Nat) (v4 : Value), k ≤ plan.length ∧ i = .int .i64 (k : Int) ∧ Hid (FlInv m sA cA mA sc m.crafts.length cc mcap plan w (w5.heap.size + 1) w2.heap.size w5.heap.size k k k wr v4)) (fun i _ => plan.length - (intOf i).toNat)
      case atStart => exact ⟨0, _, Nat.zero_le _, rfl, HST0⟩
      case round =>
        obtain ⟨k, v4, hk, rfl, HI⟩ := hrel
        have hle := HI.out.le
        have hl1 := HI.out.lt1
        have hl2 := HI.out.lt2
        have hl3 := HI.out.lt3
        by_cases hlt : k < plan.length
        · obtain ⟨b, o, rfl, hb, hss⟩ := HR.out (by intro e; simp [e] at hlt)
          obtain ⟨u, hu, rA, rc, rfl, hrow⟩ := hss k _ (List.getElem?_eq_getElem hlt)
          have hu' : wr.cell? ⟨b, o + k, none⟩ = some (.slice rA plan[k].length rc) := (HI.out.below.cell (p := ⟨b, o + k, none⟩) hb).trans hu
          have hil : (k : Int) < (plan.length : Int) := by omega
          have hi0 : (0 : Int) ≤ (k : Int) := by omega
          have hadd : IntKind.i64.wrap ((k : Int) + 1) = (k : Int) + 1 := IntWalk.i64_in _ (by omega)
          have hmay := planOk_row HPO.out hlt
          have hro := may_ok hmay
          have hp40 : (plan.length : Int) ≤ 40 := by rw [HPL.out]; exact hy40.2
          have hso := stAt_ok hm plan hp40 k (by omega)
          have hslr := (HSL.out.below HI.out.below).mono (show w.heap.size ≤ wr.heap.size by omega)
          have hstep := step_calls m (stAt m plan k) (.slice cA m.crafts.length cc) _ _ rA rc plan[k] wr hm hso hro hslr (HI.out.crafts.mono hle) ((hrow.below HI.out.below).mono (by omega))
          have hn1 := stAt_succ m hlt
          have hn2 := thTo_succ m plan k
          have hn3 := costPl_succ m hlt
          have hn4 : keptIn m plan k = keptS m (stAt m plan k) plan[k] := by unfold keptIn; rw [getD_lt hlt]
          rw [← hn1] at hstep
          have HSTEP := Lib.hid hstep
          have HN := Lib.hid (And.intro hn1 (And.intro hn2 (And.intro hn3 hn4)))
          have HRW := Lib.hid hrow
          have HRO := Lib.hid hro
          obtain ⟨m0, m1, m2, m3, m4, m5⟩ := blk6 HI.out.model
          obtain ⟨s0, s1, s2, s3, s4⟩ := blk5 HI.out.st
          clear hstep hn1 hn2 hn3 hn4 hrow hro hmay hslr hss hu
          generalize plan[k] = row at *
          go_wp2_with (go_at_call 42; refine HSTEP.out.mono ?_; rintro e w6 ⟨rfl, hb6⟩)
          obtain ⟨W7, hW7⟩ : ∃ W7, W7 = w6.alloc (.cells #[.int .i64 (stAt m plan (k + 1)).y, .int .i64 (stAt m plan (k + 1)).a, .int .i64 (stAt m plan (k + 1)).b, .int .i64 (stAt m plan (k + 1)).c, .int .i64 (stAt m plan (k + 1)).d] 95) := ⟨_, rfl⟩
          have hb7 : Below w6.heap.size w6 W7 := by rw [hW7]; exact below1 _ _
          have hb07 := hb6.trans (hb7.mono hb6.size)
          have t7 : W7.heap[w6.heap.size]? = some (.cells #[.int .i64 (stAt m plan (k + 1)).y, .int .i64 (stAt m plan (k + 1)).a, .int .i64 (stAt m plan (k + 1)).b, .int .i64 (stAt m plan (k + 1)).c, .int .i64 (stAt m plan (k + 1)).d] 95 (0, 0)) := by rw [hW7]; exact heap_alloc_self _ _
          rw [← hW7]
          have hI7 := HI.out.later hb07
          have z6 := hb6.size
          have z7 := lt_blk t7
          clear hW7 hb7 m0 m1 m2 m3 m4 m5 s0 s1 s2 s3 s4 hb6
          have hq : ∀ w4, Grows W7 w4 → _ := fun w4 hw4 => And.intro (blk6 (blk_below hw4 hI7.model (lt_blk hI7.model))) (And.intro (blk5 (blk_below hw4 t7 z7)) (show w4.cell? ⟨w.heap.size + 1, 0, none⟩ = some v4 by rw [cell_blk (blk_below hw4 hI7.c4 (lt_blk hI7.c4))]; rfl))
          have HQ := Lib.hid hq
          have HI7 := Lib.hid hI7
          have HT7 := Lib.hid t7
          have HB07 := Lib.hid hb07
          clear hq hI7 t7 hb07
          refine wp_region_rg_tail 5 Grows (fun | 3 => .any sliceV (fun _ v w4 => w4.ownsRow W7.heap.size 3 1 v (thicks m (stAt m plan (k + 1))).length ((thicks m (stAt m plan (k + 1))).map (Value.int .i64))) | 4 => .any anyV (fun l v w4 => ∃ b, v = .slice (some ⟨b, 0, none⟩) 1 1 ∧ w4.heap[b]? = some (.cells l.toArray 35 (0, 0))) | _ => .fn) (by kernel_rfl) (by kernel_rfl) Grows.refl growsT
            (by intro i; split <;> first | trivial | exact (fun l v w1 w2 h h1 => own_below h1 h (fun k hk => (own_blk_lt h1 k hk).2)) | exact (fun l v w1 w2 h ⟨b, h2, h3⟩ => ⟨b, h2, blk_below h h3 (lt_blk h3)⟩)) ?_
          iterate 3 (refine rg_step fun K hK => ?_; apply rg_fn rfl; (intro w4 hw; obtain ⟨⟨m0, m1, m2, m3, m4, m5⟩, ⟨s0, s1, s2, s3, s4⟩, q4⟩ := HQ.out w4 hw.undrew; go_simp; try rfl); go_simp; (try with_reducible refine hK _ _ ?_); try clear hK K)
          refine rg_step fun K hK => ?_
          apply rg_call_any (.inl rfl) rfl
          · intro w4 hw
            go_simp
            exact ⟨rfl, rfl⟩
          · intro w4 hw
            refine (all_calls m (stAt m plan (k + 1)) sA sc (.slice cA m.crafts.length cc) (.slice mA m.crafts.length mcap) m.years m.visit m.hands w4 hm.few).mono ?_
            rintro e w5 ⟨v', he, ho, hb⟩
            exact ⟨v', he, hb, own_slice ho, own_mono ho hw.undrew.size⟩
          rintro v9 ⟨A9, n9, c9, rfl⟩
          go_simp
          (try with_reducible refine hK _ _ ?_)
          try clear hK K
          refine rg_step fun K hK => ?_
          apply rg_any rfl
          · intro w4 hw
            refine ⟨.slice (some ⟨w4.heap.size, 0, none⟩) 1 1, w4.alloc (.cells #[.slice A9 n9 c9] 35), ?_, below1 _ _, trivial, ⟨_, rfl, heap_alloc_self _ _⟩⟩
            go_simp
            try rfl
          rintro v10 _
          go_simp
          (try with_reducible refine hK _ _ ?_)
          try clear hK K
          refine rg_nil ?_
          rintro w8 hw8 ⟨hown9, b, rfl, hblk⟩
          replace hblk : w8.heap[b]? = some (.cells #[.slice A9 n9 c9] 35 (0, 0)) := hblk
          replace hw8 := hw8.undrew
          have hI8 := HI7.out.later hw8
          obtain ⟨vs, hv1, hv2⟩ := id hI8.thick
          rw [thTo_length] at hv1
          have hle8 := hI8.le
          have z8 := hw8.size
          have HI8 := Lib.hid hI8
          have HV2 := Lib.hid hv2
          have HO9 := Lib.hid (own_mono hown9 (show w5.heap.size + 1 ≤ W7.heap.size by omega))
          have HT8 := Lib.hid (blk_below hw8 HT7.out z7)
          clear hI8 hv2 hw8 hown9 HQ HI7 HT7
          simp only [List.drop_succ_cons, List.drop_zero]
          refine wpList_app2 (w5.heap.size + 1) _ _ 39 35 (.slice none 0 0) 1 24 [.slice A9 n9 c9] (by rfl) (by rfl) Tryz.underlying39 infoRow rfl (by decide) (by decide) v4 k vs (by rfl) b (by rfl) hblk rfl (by simp [Value.oneCell']) hv1 (by omega) hle8 ?_
          intro v11 w9 hown11 hg9 _ hb9
          obtain ⟨A11, n11, c11, rfl⟩ := own_slice hown11
          obtain ⟨A4, n4, c4, rfl⟩ := own_slice hv1
          have c49 := blk_below hb9 HI8.out.c4 (by omega)
          have cc49 : w9.cell? ⟨w.heap.size + 1, 0, none⟩ = some (.slice A4 n4 c4) := (by rw [cell_blk c49]; rfl)
          have ff49 := frozen_blk c49 0
          have HX := Lib.hid (And.intro hown11 (And.intro hg9 hb9))
          clear c49 hown11 hg9 hb9
          go_wp2_with fail
          obtain ⟨hown11, hg9, hb9⟩ := HX.out
          have hth : OwnRows w9 (w5.heap.size + 1) (.slice A11 n11 c11) (thTo m plan (k + 1)) := by
            rw [HN.out.2.1]
            refine OwnRows.snoc (by rw [thTo_length]; exact hv1) HV2.out (by simpa using HO9.out) (by rw [thTo_length]; exact hown11) hg9
          have hI10 := HI8.out.app hb9 hth
          have hbs := HI8.out.le
          have hz9 := hb9.size
          have HT10 := Lib.hid ((Below.heap_setCell w9 ⟨w.heap.size + 1, 0, none⟩ (.slice A11 n11 c11) w6.heap.size (by show w6.heap.size ≠ w.heap.size + 1; omega)).trans ((hg9.block w6.heap.size (by omega) (fun e => by
            obtain ⟨cur, hc⟩ := own_type hv1 _ e.symm
            rw [HT8.out] at hc
            simp at hc)).trans HT8.out))
          clear hth hown11 hg9 hb9 HX HI8 HV2 HO9 hv1 cc49 ff49 hblk HT8
          generalize w9.setCell ⟨w.heap.size + 1, 0, none⟩ (.slice A11 n11 c11) = W10 at *
          have hq : ∀ w4, Grows W10 w4 → _ := fun w4 hw4 => And.intro (blk6 (blk_below hw4 hI10.model (lt_blk hI10.model))) (show w4.cell? ⟨w.heap.size + 1 + 1, 0, none⟩ = some (.int .i64 (costPl m plan k)) by rw [cell_blk (blk_below hw4 hI10.c5 (lt_blk hI10.c5))]; rfl)
          have hcb := costPl_bd hm HPO.out k (by omega)
          have hcs := costS_bd hm HRO.out
          have hadd2 : IntKind.i64.wrap (costPl m plan k + costS m row) = costPl m plan (k + 1) := by rw [HN.out.2.2.1]; exact IntWalk.i64_in _ (by omega)
          have hrow10 : ∀ w4, Grows W10 w4 → RowC w4 w4.heap.size rA (row.map (Value.int .i64)) := fun w4 hw4 =>
            (HRW.out.below (hI10.later hw4).below).mono (by have := (hI10.later hw4).le; have := (hI10.later hw4).lt1; have := (hI10.later hw4).lt2; have := (hI10.later hw4).lt3; omega)
          have hcost := fun w4 (hw4 : Grows W10 w4) => cost_calls m (.slice sA m.slopes.length sc) (.slice cA m.crafts.length cc) (.slice mA m.crafts.length mcap) rA rc row w4 hm HRO.out
            ((HSL.out.below (hI10.later hw4).below).mono (by have := (hI10.later hw4).le; have := (hI10.later hw4).lt1; have := (hI10.later hw4).lt2; have := (hI10.later hw4).lt3; omega)) ((hI10.later hw4).crafts.mono (hI10.later hw4).le) (hrow10 w4 hw4)
          have HQ := Lib.hid hq
          have HI10 := Lib.hid hI10
          have HA2 := Lib.hid hadd2
          have HCOST := Lib.hid hcost
          clear hq hI10 hadd2 hcost hrow10 hcb hcs
          refine wp_region_rg_tail 5 Grows (fun | 3 => .ex (.int .i64 (costS m row)) | _ => .fn) (by kernel_rfl) (by kernel_rfl) Grows.refl growsT (by intro i; split <;> trivial) ?_
          iterate 3 (refine rg_step fun K hK => ?_; apply rg_fn rfl; (intro w4 hw; obtain ⟨⟨m0, m1, m2, m3, m4, m5⟩, q4⟩ := HQ.out w4 hw.undrew; go_simp; try rfl); go_simp; (try with_reducible refine hK _ _ ?_); try clear hK K)
          refine rg_step fun K hK => ?_
          apply rg_call (.inl rfl) rfl
          · intro w4 hw
            go_simp
            exact ⟨rfl, rfl⟩
          · intro w4 hw
            exact HCOST.out w4 hw.undrew
          go_simp
          (try with_reducible refine hK _ _ ?_)
          try clear hK K
          iterate 1 (refine rg_step fun K hK => ?_; apply rg_fn rfl; (intro w4 hw; have hadd2 := HA2.out; go_simp; try rfl); go_simp; (try with_reducible refine hK _ _ ?_); try clear hK K)
          refine rg_nil ?_
          intro w12 hw12 _
          replace hw12 := hw12.undrew
          simp only [List.drop_succ_cons, List.drop_zero]
          have hI12 := HI10.out.later hw12
          have cc5 : w12.cell? ⟨w.heap.size + 1 + 1, 0, none⟩ = some (.int .i64 (costPl m plan k)) := by rw [cell_blk hI12.c5]; rfl
          have ff5 := frozen_blk hI12.c5 0
          have HI12 := Lib.hid hI12
          have t12 := blk_below hw12 HT10.out (lt_blk HT10.out)
          obtain ⟨x0, x1, x2, x3, x4⟩ := blk5 t12
          obtain ⟨s0, s1, s2, s3, s4⟩ := blk5 hI12.st
          have ffs := fun i => frozen_blk hI12.st i
          have ffs0 := ffs 0
          have ffs1 := ffs 1
          have ffs2 := ffs 2
          have ffs3 := ffs 3
          have ffs4 := ffs 4
          have hne1 : ¬ w6.heap.size = w.heap.size + 1 + 1 := by omega
          have hne2 : ¬ w5.heap.size = w.heap.size + 1 + 1 := by omega
          have hne3 : ¬ w.heap.size + 1 + 1 = w5.heap.size := by omega
          have hne4 : ¬ w.heap.size + 1 + 1 = w6.heap.size := by omega
          have hI13 := hI12.cost
          have HI13 := Lib.hid hI13
          clear hI13 hI12 hw12 HQ HI10 HCOST HT10 t12 ffs
          generalize hkq : keptS m (stAt m plan k) row = q at *
          have HKQ := Lib.hid hkq
          clear hkq
          cases q
          · clear x0 x1 x2 x3 x4 s0 s1 s2 s3 s4 ffs0 ffs1 ffs2 ffs3 ffs4
            go_wp2_with fail
            generalize w12.setCell ⟨w.heap.size + 1 + 1, 0, none⟩ (.int .i64 (costPl m plan (k + 1))) = W13 at *
            have hfo := followS_bad HCK.out HPO.out hlt HI13.out.kept HN.out.2.2.2
            have HFO := Lib.hid hfo
            have hq : ∀ w4, Grows W13 w4 → _ := fun w4 hw4 => And.intro (blk_below hw4 HI13.out.c4 (lt_blk HI13.out.c4)) (blk_below hw4 HI13.out.c5 (lt_blk HI13.out.c5))
            have HQ := Lib.hid hq
            clear hq hfo cc5 ff5
            refine wp_region_rg_tail 5 Grows (fun _ => .fn) (by kernel_rfl) (by kernel_rfl) Grows.refl growsT (fun _ => trivial) ?_
            iterate 3 (refine rg_step fun K hK => ?_; apply rg_fn rfl; (intro w4 hw; obtain ⟨q1, q2⟩ := HQ.out w4 hw.undrew; have y1 : w4.cell? ⟨w.heap.size + 1, 0, none⟩ = some (.slice A11 n11 c11) := (by rw [cell_blk q1]; rfl); have y2 : w4.cell? ⟨w.heap.size + 1 + 1, 0, none⟩ = some (.int .i64 (costPl m plan (k + 1))) := (by rw [cell_blk q2]; rfl); go_simp; try rfl); go_simp; (try with_reducible refine hK _ _ ?_); try clear hK K)
            refine rg_step fun K hK => ?_
            apply rg_fnS rfl
            · intro w4 hw
              obtain ⟨q1, q2⟩ := HQ.out w4 hw.undrew
              have y1 : w4.cell? ⟨w.heap.size + 1, 0, none⟩ = some (.slice A11 n11 c11) := (by rw [cell_blk q1]; rfl)
              have y2 := frozen_blk q1 0
              go_simp
              rw [setCell_same q1 rfl]
            go_simp
            (try with_reducible refine hK _ _ ?_)
            try clear hK K
            refine rg_step fun K hK => ?_
            apply rg_fnS rfl
            · intro w4 hw
              obtain ⟨q1, q2⟩ := HQ.out w4 hw.undrew
              have y1 : w4.cell? ⟨w.heap.size + 1 + 1, 0, none⟩ = some (.int .i64 (costPl m plan (k + 1))) := (by rw [cell_blk q2]; rfl)
              have y2 := frozen_blk q2 0
              go_simp
              rw [setCell_same q2 rfl]
            go_simp
            (try with_reducible refine hK _ _ ?_)
            try clear hK K
            refine rg_nil ?_
            intro w14 hw14 _
            have hI14 := HI13.out.later hw14.undrew
            simp only [List.drop_succ_cons, List.drop_zero]
            have y3 : w14.cell? ⟨w.heap.size + 1 + 1 + 1, 0, none⟩ = some (.int .i64 0) := (by rw [cell_blk hI14.c6]; rfl)
            have y4 : w14.cell? ⟨w.heap.size + 1 + 1 + 1 + 1, 0, none⟩ = some (.int .i64 0) := (by rw [cell_blk hI14.c7]; rfl)
            have f3 := frozen_blk hI14.c6 0
            have f4 := frozen_blk hI14.c7 0
            have HI14 := Lib.hid hI14
            clear hI14 hw14 HQ HI13
            go_wp2_with fail
            have hI14 := HI14.out
            refine leaves_cons (f := 38) (args := #[.pointer (some ⟨w.heap.size + 1, 0, none⟩), .pointer (some ⟨w.heap.size + 1 + 1, 0, none⟩), .pointer (some ⟨w.heap.size + 1 + 1 + 1, 0, none⟩), .pointer (some ⟨w.heap.size + 1 + 1 + 1 + 1, 0, none⟩)]) (by simp) (by simp [go_sem]) ?_
            refine (catch_idle _ _ _ _ _).mono ?_
            rintro e u' w'' ⟨rfl, rfl, rfl⟩
            have hs := set4 (w.heap.size + 1) w14 _ _ _ _ _ _ _ _ hI14.c4 hI14.c5 hI14.c6 hI14.c7 (.slice A11 n11 c11) (.int .i64 (costPl m plan (k + 1))) (.int .i64 (k : Int)) (.int .i64 0)
            rw [setCell_same hI14.c4 rfl, setCell_same hI14.c5 rfl] at hs
            obtain ⟨q1, q2, q3, q4, q5⟩ := hs
            have hth : OwnRows ((w14.setCell ⟨w.heap.size + 1 + 1 + 1, 0, none⟩ (.int .i64 (k : Int))).setCell ⟨w.heap.size + 1 + 1 + 1 + 1, 0, none⟩ (.int .i64 0)) (w5.heap.size + 1) (.slice A11 n11 c11) (thTo m plan (k + 1)) := (hI14.thick.setCell (by show w.heap.size + 1 + 1 + 1 < _; omega) _).setCell (by show w.heap.size + 1 + 1 + 1 + 1 < _; omega) _
            have hbel := hI14.below.trans (q5.mono (show w.heap.size ≤ w.heap.size + 1 by omega))
            generalize (w14.setCell ⟨w.heap.size + 1 + 1 + 1, 0, none⟩ (.int .i64 (k : Int))).setCell ⟨w.heap.size + 1 + 1 + 1 + 1, 0, none⟩ (.int .i64 0) = W15 at *
            have d1 : W15.cell? ⟨w.heap.size + 1, 0, none⟩ = some (.slice A11 n11 c11) := by rw [cell_blk q1]; rfl
            have d2 : W15.cell? ⟨w.heap.size + 1 + 1, 0, none⟩ = some (.int .i64 (costPl m plan (k + 1))) := by rw [cell_blk q2]; rfl
            have d3 : W15.cell? ⟨w.heap.size + 1 + 1 + 1, 0, none⟩ = some (.int .i64 (k : Int)) := by rw [cell_blk q3]; rfl
            have d4 : W15.cell? ⟨w.heap.size + 1 + 1 + 1 + 1, 0, none⟩ = some (.int .i64 0) := by rw [cell_blk q4]; rfl
            have hp41 : (plan.length : Int) ≤ 40 := by rw [HPL.out]; exact hy40.2
            have hrw := hth.rows (by rw [thTo_length]; omega) (fun xs hx => by
              simp only [thTo, List.mem_map] at hx
              obtain ⟨j, _, rfl⟩ := hx
              rw [thicks_length]
              have := hm.few
              omega)
            exact ⟨.tuple #[(.slice A11 n11 c11), .int .i64 (costPl m plan (k + 1)), .int .i64 (k : Int), .int .i64 0], by simp [results, Tryz.results13, go_sem, d1, d2, d3, d4], (.slice A11 n11 c11), by rw [HFO.out], by rw [HFO.out]; exact hrw, hbel⟩
          · go_wp2_with fail
            exact ⟨⟨k + 1, _, by omega, by go_num, Lib.hid (HI13.out.next HN.out.2.2.2 _ rfl)⟩, by simp [intOf]; omega⟩
        · have hke : k = plan.length := by omega
          have hil : ¬ (k : Int) < (plan.length : Int) := by omega
          have hfo := followS_good HCK.out HPO.out (fun j hj => HI.out.kept j (by omega))
          rw [← hke] at hfo
          have HFO := Lib.hid hfo
          obtain ⟨vs, hv1, hv2⟩ := id HI.out.thick
          obtain ⟨A11, n11, c11, rfl⟩ := own_slice hv1
          clear hfo hv1 hv2 hke hlt
          go_wp2_with fail
          have hq : ∀ w4, Grows wr w4 → _ := fun w4 hw4 => And.intro (blk_below hw4 HI.out.c4 (lt_blk HI.out.c4)) (blk_below hw4 HI.out.c5 (lt_blk HI.out.c5))
          have HQ := Lib.hid hq
          clear hq
          refine wp_region_rg_tail 3 Grows (fun _ => .fn) (by kernel_rfl) (by kernel_rfl) Grows.refl growsT (fun _ => trivial) ?_
          iterate 2 (refine rg_step fun K hK => ?_; apply rg_fn rfl; (intro w4 hw; obtain ⟨q1, q2⟩ := HQ.out w4 hw.undrew; have y1 : w4.cell? ⟨w.heap.size + 1, 0, none⟩ = some (.slice A11 n11 c11) := (by rw [cell_blk q1]; rfl); have y2 : w4.cell? ⟨w.heap.size + 1 + 1, 0, none⟩ = some (.int .i64 (costPl m plan k)) := (by rw [cell_blk q2]; rfl); go_simp; try rfl); go_simp; (try with_reducible refine hK _ _ ?_); try clear hK K)
          refine rg_step fun K hK => ?_
          apply rg_fnS rfl
          · intro w4 hw
            obtain ⟨q1, q2⟩ := HQ.out w4 hw.undrew
            have y1 : w4.cell? ⟨w.heap.size + 1, 0, none⟩ = some (.slice A11 n11 c11) := (by rw [cell_blk q1]; rfl)
            have y2 := frozen_blk q1 0
            go_simp
            rw [setCell_same q1 rfl]
          go_simp
          (try with_reducible refine hK _ _ ?_)
          try clear hK K
          refine rg_nil ?_
          intro w14 hw14 _
          have hI14 := HI.out.later hw14.undrew
          simp only [List.drop_succ_cons, List.drop_zero]
          have y2 : w14.cell? ⟨w.heap.size + 1 + 1, 0, none⟩ = some (.int .i64 (costPl m plan k)) := (by rw [cell_blk hI14.c5]; rfl)
          have y3 : w14.cell? ⟨w.heap.size + 1 + 1 + 1, 0, none⟩ = some (.int .i64 0) := (by rw [cell_blk hI14.c6]; rfl)
          have y4 : w14.cell? ⟨w.heap.size + 1 + 1 + 1 + 1, 0, none⟩ = some (.int .i64 0) := (by rw [cell_blk hI14.c7]; rfl)
          have f2 := frozen_blk hI14.c5 0
          have f3 := frozen_blk hI14.c6 0
          have f4 := frozen_blk hI14.c7 0
          have HI14 := Lib.hid hI14
          clear hI14 hw14 HQ HI
          go_wp2_with fail
          have hI14 := HI14.out
          rw [setCell_same hI14.c5 rfl]
          refine leaves_cons (f := 38) (args := #[.pointer (some ⟨w.heap.size + 1, 0, none⟩), .pointer (some ⟨w.heap.size + 1 + 1, 0, none⟩), .pointer (some ⟨w.heap.size + 1 + 1 + 1, 0, none⟩), .pointer (some ⟨w.heap.size + 1 + 1 + 1 + 1, 0, none⟩)]) (by simp) (by simp [go_sem]) ?_
          refine (catch_idle _ _ _ _ _).mono ?_
          rintro e u' w'' ⟨rfl, rfl, rfl⟩
          have hs := set4 (w.heap.size + 1) w14 _ _ _ _ _ _ _ _ hI14.c4 hI14.c5 hI14.c6 hI14.c7 (.slice A11 n11 c11) (.int .i64 (costPl m plan k)) (.int .i64 (-1)) (.int .i64 0)
          rw [setCell_same hI14.c4 rfl, setCell_same hI14.c5 rfl] at hs
          obtain ⟨q1, q2, q3, q4, q5⟩ := hs
          have hth : OwnRows ((w14.setCell ⟨w.heap.size + 1 + 1 + 1, 0, none⟩ (.int .i64 (-1))).setCell ⟨w.heap.size + 1 + 1 + 1 + 1, 0, none⟩ (.int .i64 0)) (w5.heap.size + 1) (.slice A11 n11 c11) (thTo m plan k) := (hI14.thick.setCell (by show w.heap.size + 1 + 1 + 1 < _; omega) _).setCell (by show w.heap.size + 1 + 1 + 1 + 1 < _; omega) _
          have hbel := hI14.below.trans (q5.mono (show w.heap.size ≤ w.heap.size + 1 by omega))
          generalize (w14.setCell ⟨w.heap.size + 1 + 1 + 1, 0, none⟩ (.int .i64 (-1))).setCell ⟨w.heap.size + 1 + 1 + 1 + 1, 0, none⟩ (.int .i64 0) = W15 at *
          have d1 : W15.cell? ⟨w.heap.size + 1, 0, none⟩ = some (.slice A11 n11 c11) := by rw [cell_blk q1]; rfl
          have d2 : W15.cell? ⟨w.heap.size + 1 + 1, 0, none⟩ = some (.int .i64 (costPl m plan k)) := by rw [cell_blk q2]; rfl
          have d3 : W15.cell? ⟨w.heap.size + 1 + 1 + 1, 0, none⟩ = some (.int .i64 (-1)) := by rw [cell_blk q3]; rfl
          have d4 : W15.cell? ⟨w.heap.size + 1 + 1 + 1 + 1, 0, none⟩ = some (.int .i64 0) := by rw [cell_blk q4]; rfl
          have hp41 : (plan.length : Int) ≤ 40 := by rw [HPL.out]; exact hy40.2
          have hrw := hth.rows (by rw [thTo_length]; omega) (fun xs hx => by
            simp only [thTo, List.mem_map] at hx
            obtain ⟨j, _, rfl⟩ := hx
            rw [thicks_length]
            have := hm.few
            omega)
          exact ⟨.tuple #[(.slice A11 n11 c11), .int .i64 (costPl m plan k), .int .i64 (-1), .int .i64 0], by simp [results, Tryz.results13, go_sem, d1, d2, d3, d4], (.slice A11 n11 c11), by rw [HFO.out], by rw [HFO.out]; exact hrw, hbel⟩
    · rw [if_neg hpo]
      have hfo : followS m plan = ([], 0, 0, 1) := by unfold followS; rw [if_pos hc, if_neg hpo]
      have HFO := Lib.hid hfo
      obtain ⟨g1, g2, g3, g4⟩ := G4.out
      refine leaves_cons (f := 38) (args := #[.pointer (some ⟨w.heap.size + 1, 0, none⟩), .pointer (some ⟨w.heap.size + 1 + 1, 0, none⟩), .pointer (some ⟨w.heap.size + 1 + 1 + 1, 0, none⟩), .pointer (some ⟨w.heap.size + 1 + 1 + 1 + 1, 0, none⟩)]) (by simp) (by simp [go_sem]) ?_
      refine (catch_bad (w.heap.size + 1) (w.heap.size + 1 + 1) (w.heap.size + 1 + 1 + 1) (w.heap.size + 1 + 1 + 1 + 1) _ _ _ _ _ _ _ _ w4 g1 g2 g3 g4 (by omega) (by omega) (by omega)).mono ?_
      rintro e u' w5 ⟨rfl, rfl, rfl⟩
      obtain ⟨w5, hw5⟩ : ∃ w5, w5 = w4.alloc (.cells #[] 87) := ⟨_, rfl⟩
      rw [← hw5]
      have hb5 : Below w4.heap.size w4 w5 := by rw [hw5]; exact below1 _ _
      have k1 := blk_below hb5 g1 (by omega)
      have k2 := blk_below hb5 g2 (by omega)
      have k3 := blk_below hb5 g3 (by omega)
      have k4 := blk_below hb5 g4 (by omega)
      clear hw5
      obtain ⟨W, hW⟩ : ∃ W, W = ((((w5.setCell ⟨w.heap.size + 1, 0, none⟩ (.slice none 0 0)).setCell ⟨w.heap.size + 1 + 1, 0, none⟩ (.int .i64 0)).setCell ⟨w.heap.size + 1 + 1 + 1, 0, none⟩ (.int .i64 0)).setCell ⟨w.heap.size + 1 + 1 + 1 + 1, 0, none⟩ (.int .i64 1)) := ⟨_, rfl⟩
      have hs := set4 (w.heap.size + 1) w5 _ _ _ _ _ _ _ _ k1 k2 k3 k4 (.slice none 0 0) (.int .i64 0) (.int .i64 0) (.int .i64 1)
      rw [← hW] at hs
      obtain ⟨q1, q2, q3, q4, q5⟩ := hs
      rw [← hW]
      clear hW k1 k2 k3 k4 g1 g2 g3 g4
      have d1 : W.cell? ⟨w.heap.size + 1, 0, none⟩ = some (.slice none 0 0) := by rw [cell_blk q1]; rfl
      have d2 : W.cell? ⟨w.heap.size + 1 + 1, 0, none⟩ = some (.int .i64 0) := by rw [cell_blk q2]; rfl
      have d3 : W.cell? ⟨w.heap.size + 1 + 1 + 1, 0, none⟩ = some (.int .i64 0) := by rw [cell_blk q3]; rfl
      have d4 : W.cell? ⟨w.heap.size + 1 + 1 + 1 + 1, 0, none⟩ = some (.int .i64 1) := by rw [cell_blk q4]; rfl
      refine ⟨.tuple #[.slice none 0 0, .int .i64 0, .int .i64 0, .int .i64 1], by simp [results, Tryz.results13, go_sem, d1, d2, d3, d4], .slice none 0 0, by rw [HFO.out], by rw [HFO.out]; exact RowsAt.nil _ _, (HB04.out.trans (hb5.mono (by omega))).trans (q5.mono (by omega))⟩
  · have hne : (checkS m != 0) = true := by simpa using hc
    have hne2 : (!(checkS m == 0)) = true := by simpa using hc
    have hfo : followS m plan = ([], 0, 0, checkS m) := by unfold followS; rw [if_neg hc]
    have HFO := Lib.hid hfo
    clear hfo hc
    go_enter_defers Tryz.func13, Tryz.ntmps13
    go_wp2_with fail
    rw [← HW0.out]
    refine HCHK.out.mono ?_
    rintro e w1 ⟨rfl, hb1⟩
    have hb01 := HB0.out.trans (hb1.mono (by omega))
    obtain ⟨g0, g1, g2, g3, g4⟩ := HG.out
    have y1 := blk_below hb1 g1 (by omega)
    have y2 := blk_below hb1 g2 (by omega)
    have y3 := blk_below hb1 g3 (by omega)
    have y4 := blk_below hb1 g4 (by omega)
    have c1 : w1.cell? ⟨w.heap.size + 1, 0, none⟩ = some (.slice none 0 0) := by rw [cell_blk y1]; rfl
    have c2 : w1.cell? ⟨w.heap.size + 1 + 1, 0, none⟩ = some (.int .i64 0) := by rw [cell_blk y2]; rfl
    have c3 : w1.cell? ⟨w.heap.size + 1 + 1 + 1, 0, none⟩ = some (.int .i64 0) := by rw [cell_blk y3]; rfl
    have c4 : w1.cell? ⟨w.heap.size + 1 + 1 + 1 + 1, 0, none⟩ = some (.int .i64 0) := by rw [cell_blk y4]; rfl
    have f1 := frozen_blk y1 0
    have f2 := frozen_blk y2 0
    have f3 := frozen_blk y3 0
    have f4 := frozen_blk y4 0
    have HB01 := Lib.hid hb01
    have Y := Lib.hid (And.intro y1 (And.intro y2 (And.intro y3 y4)))
    clear hb1 g0 g1 g2 g3 g4 hb01 y1 y2 y3 y4
    go_wp2_with fail
    obtain ⟨y1, y2, y3, y4⟩ := Y.out
    obtain ⟨g0, g1, g2, g3, g4⟩ := HG.out
    have hs := set4 (w.heap.size + 1) w1 _ _ _ _ _ _ _ _ y1 y2 y3 y4 (.slice none 0 0) (.int .i64 0) (.int .i64 0) (.int .i64 (checkS m))
    generalize (((w1.setCell ⟨w.heap.size + 1, 0, none⟩ (.slice none 0 0)).setCell ⟨w.heap.size + 1 + 1, 0, none⟩ (.int .i64 0)).setCell ⟨w.heap.size + 1 + 1 + 1, 0, none⟩ (.int .i64 0)).setCell ⟨w.heap.size + 1 + 1 + 1 + 1, 0, none⟩ (.int .i64 (checkS m)) = W at *
    obtain ⟨q1, q2, q3, q4, q5⟩ := hs
    have d1 : W.cell? ⟨w.heap.size + 1, 0, none⟩ = some (.slice none 0 0) := by rw [cell_blk q1]; rfl
    have d2 : W.cell? ⟨w.heap.size + 1 + 1, 0, none⟩ = some (.int .i64 0) := by rw [cell_blk q2]; rfl
    have d3 : W.cell? ⟨w.heap.size + 1 + 1 + 1, 0, none⟩ = some (.int .i64 0) := by rw [cell_blk q3]; rfl
    have d4 : W.cell? ⟨w.heap.size + 1 + 1 + 1 + 1, 0, none⟩ = some (.int .i64 (checkS m)) := by rw [cell_blk q4]; rfl
    refine ⟨.tuple #[.slice none 0 0, .int .i64 0, .int .i64 0, .int .i64 (checkS m)], by simp [results, Tryz.results13, go_sem, d1, d2, d3, d4], .slice none 0 0, by rw [HFO.out], by rw [HFO.out]; exact RowsAt.nil _ _, HB01.out.trans (q5.mono (by omega))⟩
end Go.Proofs.YtcbhldfipfcjaaaGreatDoor
