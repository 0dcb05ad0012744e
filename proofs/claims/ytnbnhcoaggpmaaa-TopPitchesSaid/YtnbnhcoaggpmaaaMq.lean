/- put into a bag. -/
import Derived.Test.YtnbnhcoaggpmaaaMp
import Derived.Test.YtnbnhcoaggpmaaaRh
import Derived.Deep.AppendLies

namespace Go.Proofs.Ytnbnhcoaggpmaaa
open Go Go.RowKit Go.Shelf
set_option maxRecDepth 100000

/-- What lay lies as it lay. -/
def Grows (a b : World) : Prop := Below a.heap.size a b
theorem Grows.refl (a : World) : Grows a a := Below.refl _ _
theorem growsT : ∀ a b c : World, Grows a b → Grows b c → Grows a c := fun _ _ _ h k => Below.trans h (Below.mono k (Below.size h))
theorem Grows.undrew {a b : World} (h : Grows a.drew b) : Below a.heap.size a b := ⟨h.os, h.tape, h.output, h.size, h.block⟩

def stC (s : St) : List Value := [.int .i64 s.y, .int .i64 s.a, .int .i64 s.b, .int .i64 s.c, .int .i64 s.d]
def cellsL (L : List St) : List Value := L.flatMap stC
theorem cellsL_snoc (L : List St) (x : St) : cellsL (L ++ [x]) = cellsL L ++ stC x := by simp [cellsL]
theorem cellsL_length (L : List St) : (cellsL L).length = L.length * 5 := by
  induction L with
  | nil => rfl
  | cons x L ih =>
    have : cellsL (x :: L) = stC x ++ cellsL L := by simp [cellsL]
    rw [this, List.length_append, ih]; simp [stC]; omega

/-- A bag: its list, and the set of those on it. -/
structure Bag (w : World) (base bb kb : Nat) (v : Value) (L : List St) : Prop where
  box : w.heap[bb]? = some (.cells #[v, .map (some kb)] 116 (0, 0))
  set : StSet w kb L.length (fun s => decide (s ∈ L))
  own : w.ownsRow base 79 5 v L.length (cellsL L)
def putL (L : List St) (x : St) : List St := if x ∈ L then L else L ++ [x]

theorem own_kept {w w' : World} {b e size n : Nat} {v : Value} {xs : List Value} (h : w.ownsRow b e size v n xs) (hk : ∀ k, v.ownBlock = some k → w'.heap[k]? = w.heap[k]?) : w'.ownsRow b e size v n xs := by
  refine ⟨h.1, ?_⟩
  rcases h.2 with ⟨h1, h2⟩ | ⟨g, cap, cur, h1, h2, h3, r⟩
  · exact .inl ⟨h1, h2⟩
  · exact .inr ⟨g, cap, cur, h1, h2, (hk g (by subst h1; rfl)).trans h3, r⟩
theorem own_type {w : World} {b e size n : Nat} {v : Value} {xs : List Value} (h : w.ownsRow b e size v n xs) : ∀ k, v.ownBlock = some k → ∃ cur, w.heap[k]? = some (.cells cur e (0, 0)) := by
  rintro k hk
  rcases h.2 with ⟨rfl, _⟩ | ⟨g, cap, cur, rfl, _, h3, _⟩
  · simp [Value.ownBlock] at hk
  · have : g = k := by simpa [Value.ownBlock] using hk
    subst this; exact ⟨cur, h3⟩
/-- append(v, x) where x lies in a block that is known whole, inside a fence. -/
theorem wpListIn_app2 {F : Fence} {N : Nat} {P : Program} {ops : Array Oper} {rest : List Oper} {o : Oper} {a : Act} {Q : Exit → Act → World → Prop} {W : World} (base : Nat) (s x : Operand) (t e : TypeId) (z : Value) (size bytes : Nat) (news : List Value)
    (hgd : o.guard = none) (ho : o.op = .call { callee := .builtin .append, args := #[s, x], argTypes := #[t, t] })
    (ht : P.underlying t = some (.slice e)) (hinfo : (P.info? e).map (fun i => (i.zero, i.size, i.bytes)) = some (some z, size, bytes)) (hzs : z.cells.size = size) (hsz : 0 < size) (hb0 : 0 < bytes)
    (v : Value) (n : Nat) (xs : List Value) (hs : a.eval s = v) (b : Nat) (hx : a.eval x = .slice (some ⟨b, 0, none⟩) 1 1) (hblk : W.heap[b]? = some (.cells news.toArray e (0, 0))) (hl : news.length = size) (h1 : ∀ u ∈ news, u.oneCell' = true)
    (hown : W.ownsRow base e size v n xs) (hn : (n + 1) * bytes ≤ 140737488355328) (hbase : base ≤ W.heap.size)
    (h : ∀ v1 w1, w1.ownsRow base e size v1 (n + 1) (xs ++ news) → W.grownBy w1 v.ownBlock → (v1.ownBlock = v.ownBlock ∨ ∃ b, v1.ownBlock = some b ∧ W.heap.size ≤ b) → Below base W w1 → wpListIn F N P ops Q rest (a.put o.dst v1) w1) :
    wpListIn F N P ops Q (o :: rest) a W := by
  obtain ⟨i0, hi, hzz⟩ := Option.map_eq_some_iff.1 hinfo
  simp only [Prod.mk.injEq] at hzz
  obtain ⟨hz0, hz1, hz2⟩ := hzz
  have hlen : n + 1 ≤ 140737488355328 := Nat.le_trans (Nat.le_mul_of_pos_right _ hb0) hn
  refine wpListIn_plain hgd fun K hK' => ?_
  obtain ⟨v1, w1, hrun, ho1, hg, _, hat⟩ := run_append_own_at (P := P) W base t o.type e i0 z size bytes ht hi hz0 hz1 hz2 hzs hsz v n xs hown ⟨b, 0, none⟩ 1 1 news (by omega)
    (World.news_of_block (cs := news.toArray) (t := e) (fr := (0, 0)) hblk) h1 (by simp only [maxLen]; omega) hn hbase
  have hbb : ∀ k, v.ownBlock = some k → base ≤ k := fun k hk => (own_blk_lt hown k hk).1
  unfold Oper.wpIn
  refine ⟨?_, ?_⟩
  · simp [Oper.about, ho, resolve, Target.leads, Sem.run_pure]
  · rw [Oper.semAt_plain F _ _ (by rw [ho]; intro c hc'; cases hc')]
    simp [execOp, ho, resolve, invoke, builtin, hs, hx, hrun, Result.andThen]
    refine hK' _ _ (h v1 w1 ho1 hg ?_ ((Below.refl _ _).grown hg hbase hbb))
    rcases hat with hat | hat
    · exact .inl hat
    · exact .inr ⟨_, hat, Nat.le_refl _⟩
theorem infoSt : (Try.prog.info? 79).map (fun i => (i.zero, i.size, i.bytes)) = some (some (.agg #[.int .i64 0, .int .i64 0, .int .i64 0, .int .i64 0, .int .i64 0]), 5, 40) := by kernel_rfl
theorem put_calls (base bb kb : Nat) (v : Value) (L : List St) (x : St) (w : World) (hx : x.Wf) (hB : Bag w base bb kb v L) (hL : L.length ≤ 3000) (hbase : base ≤ w.heap.size) :
    Calls Try.prog 52 #[.pointer (some ⟨bb, 0, none⟩), stV x] w fun e w' => (∃ r, e = .returned r) ∧ ∃ v', Bag w' base bb kb v' (putL L x) ∧
      (v'.ownBlock = v.ownBlock ∨ ∃ b, v'.ownBlock = some b ∧ w.heap.size ≤ b) ∧ Bel (fun k => k = bb ∨ k = kb ∨ v.ownBlock = some k) w w' := by
  have hb0 : w.cell? ⟨bb, 0, none⟩ = some v := by rw [cell_blk hB.box]; rfl
  have hb1 : w.cell? ⟨bb, 1, none⟩ = some (.map (some kb)) := by rw [cell_blk hB.box]; rfl
  have hbb := lt_blk hB.box
  have hkb := hB.set.lt
  have hkbx : (w.alloc (.cells #[.int .i64 x.y, .int .i64 x.a, .int .i64 x.b, .int .i64 x.c, .int .i64 x.d] 79)).heap[kb]? = w.heap[kb]? := Below.heap_alloc _ _ kb hkb
  have hkby : ((w.alloc (.cells #[.int .i64 x.y, .int .i64 x.a, .int .i64 x.b, .int .i64 x.c, .int .i64 x.d] 79)).alloc (.cells #[] 137)).drew.heap[kb]? = w.heap[kb]? := (Below.heap_alloc _ _ kb (by simp; omega)).trans hkbx
  have hl1 := StSet.look (hB.set.kept (w' := (w.alloc (.cells #[.int .i64 x.y, .int .i64 x.a, .int .i64 x.b, .int .i64 x.c, .int .i64 x.d] 79)).drew) hkbx) x hx
  have hl2 := StSet.look (hB.set.kept hkby) x hx
  simp only [stV] at hl1 hl2
  have HB := Lib.hid hB
  clear hB hkbx hkby
  by_cases hin : x ∈ L
  · simp only [hin, decide_true] at hl1 hl2
    go_enter Try.func52, Try.ntmps52
    simp only [stV]
    go_wp2
    go_region
    all_goals
      go_wp2
      go_end0
      refine ⟨⟨_, rfl⟩, v, ?_, .inl rfl, ?_⟩
      · have e : putL L x = L := if_pos hin
        rw [e]
        have hk : ∀ k, k < w.heap.size → (((w.alloc (.cells #[.int .i64 x.y, .int .i64 x.a, .int .i64 x.b, .int .i64 x.c, .int .i64 x.d] 79)).alloc (.cells #[] 137)).drew.heap[k]?) = w.heap[k]? := fun k hk =>
          (Below.heap_alloc _ _ k (by simp; omega)).trans (Below.heap_alloc _ _ k hk)
        exact ⟨(hk bb hbb).trans HB.out.box, HB.out.set.kept (hk kb hkb), own_kept HB.out.own fun k h => hk k (own_blk_lt HB.out.own k h).2⟩
      · exact Bel.of_below (((below1 _ _).alloc (by simp) _).drew)
  · simp only [hin, decide_false] at hl1 hl2
    go_enter Try.func52, Try.ntmps52
    simp only [stV]
    go_wp2
    go_region
    all_goals
      go_wp2
      obtain ⟨W2, hW2⟩ : ∃ W2, W2 = ((w.alloc (.cells #[.int .i64 x.y, .int .i64 x.a, .int .i64 x.b, .int .i64 x.c, .int .i64 x.d] 79)).alloc (.cells #[] 137)).drew := ⟨_, rfl⟩
      rw [← hW2]
      have b2 : Below w.heap.size w W2 := by rw [hW2]; exact ((below1 _ _).alloc (by simp) _).drew
      have z2 : W2.heap.size = w.heap.size + 2 := by rw [hW2]; simp [World.drew]
      have gx : W2.heap[w.heap.size]? = some (.cells (stC x).toArray 79 (0, 0)) := by
        rw [hW2]; exact (Below.heap_alloc _ _ _ (by simp)).trans (heap_alloc_self _ _)
      have gb : W2.heap[bb]? = some (.cells #[v, .map (some kb)] 116 (0, 0)) := blk_below b2 HB.out.box hbb
      have gs : StSet W2 kb L.length (fun s => decide (s ∈ L)) := HB.out.set.kept (b2.block kb hkb)
      have go : W2.ownsRow base 79 5 v L.length (cellsL L) := own_below HB.out.own b2 (fun k h => (own_blk_lt HB.out.own k h).2)
      have c1 : W2.cell? ⟨bb, 1, none⟩ = some (.map (some kb)) := by rw [cell_blk gb]; rfl
      obtain ⟨x0, x1, x2, x3, x4⟩ := blk5 gx
      clear hW2 hl1 hl2 hb0 hb1
      have hbb2 : bb < W2.heap.size := by omega
      have hkb2 : kb < W2.heap.size := by omega
      have hxx2 : w.heap.size < W2.heap.size := by omega
      clear z2
      have GX := Lib.hid gx
      have GB := Lib.hid gb
      have GS := Lib.hid gs
      have GO := Lib.hid go
      clear gx gb gs go
      refine wp_region_rg_tail 6 (Below W2.heap.size) (fun _ => .fn) (by kernel_rfl) (by kernel_rfl) (Below.refl _) belowR (fun _ => trivial) ?_
      iterate 6 (refine rg_step fun K hK => ?_; apply rg_fn rfl; (intro w4 hw; have hc := below_cells (undrew hw); go_simp; try rfl); go_simp; (try with_reducible refine hK _ _ ?_); try clear hK K)
      refine rg_nil ?_
      intro w5 hw5 _
      replace hw5 := undrew hw5
      have gb5 := blk_below hw5 GB.out hbb2
      have gx5 := blk_below hw5 GX.out hxx2
      have gs5 := GS.out.kept (hw5.block kb hkb2)
      have go5 := own_below GO.out hw5 (fun k h => (own_blk_lt GO.out k h).2)
      obtain ⟨w6, hst, hs6, hb6⟩ := gs5.store x hx (by unfold maxLen; omega)
      obtain ⟨es, clock, hmp⟩ := gs5.obj
      have gb6 := hb6.heap gb5 (fun e => by rw [e, hmp] at gb5; simp at gb5)
      have gx6 := hb6.heap gx5 (fun e => by rw [e, hmp] at gx5; simp at gx5)
      have go6 : w6.ownsRow base 79 5 v L.length (cellsL L) := own_kept go5 fun k h => by
        obtain ⟨cur, hcur⟩ := own_type go5 k h
        exact (hb6.heap hcur (fun e => by rw [e, hmp] at hcur; simp at hcur)).trans hcur.symm
      have hbel : Bel (fun k => k = kb) w w6 := ((Bel.of_below b2).trans (Bel.of_below hw5)).trans (hb6.mono fun _ _ h => h)
      have hs5 := hw5.size
      have hs6z := hb6.size
      have HB6 := Lib.hid hbel
      have GB6 := Lib.hid gb6
      have GX6 := Lib.hid gx6
      have GO6 := Lib.hid go6
      have HS6 := Lib.hid hs6
      clear gb5 gx5 gs5 go5 hw5 hmp hb6 gb6 gx6 go6 hs6 hbel
      simp only [stV] at hst
      simp only [List.drop_succ_cons, List.drop_zero]
      go_wp2
      clear hst x0 x1 x2 x3 x4 c1 b2
      have d0 : w6.cell? ⟨bb, 0, none⟩ = some v := by rw [cell_blk GB6.out]; rfl
      have df : w6.frozen? ⟨bb, 0, none⟩ = false := frozen_blk GB6.out 0
      obtain ⟨y0, y1, y2, y3, y4⟩ := blk5 GX6.out
      have hvb : v.ownBlock ≠ some bb := fun e => by
        obtain ⟨cur, hcur⟩ := own_type GO6.out bb e
        rw [GB6.out] at hcur
        simp at hcur
      have hvx : v.ownBlock ≠ some w.heap.size := fun e => by
        have := (own_blk_lt HB.out.own _ e).2
        omega
      have hbb6 : bb < w6.heap.size := by omega
      have hxx6 : w.heap.size < w6.heap.size := by omega
      have hvb' : some bb ≠ v.ownBlock := fun e => hvb e.symm
      have hvx' : some w.heap.size ≠ v.ownBlock := fun e => hvx e.symm
      have hq : ∀ w4, Grows w6 w4 → _ := fun w4 hw4 => And.intro (blk5 (blk_below hw4 GX6.out hxx6)) (show w4.cell? ⟨bb, 0, none⟩ = some v by rw [cell_blk (blk_below hw4 GB6.out hbb6)]; rfl)
      have HQ := Lib.hid hq
      clear hq y0 y1 y2 y3 y4 d0 df
      refine (wpIn_wide (n := 10)).1 ?_
      refine wpIn_region_rg_late 7 7 0 Grows (fun | 6 => .any anyV (fun _ v w4 => ∃ b, v = .slice (some ⟨b, 0, none⟩) 1 1 ∧ w4.heap[b]? = some (.cells (stC x).toArray 79 (0, 0))) | _ => .fn) (by kernel_rfl) (fun _ => trivial) (by kernel_rfl) (fun c a w d v h => by cases d <;> exact h) (by kernel_rfl) Grows.refl growsT
        (by intro i; split <;> first | trivial | exact (fun l v w1 w2 h ⟨b, h2, h3⟩ => ⟨b, h2, blk_below h h3 (lt_blk h3)⟩)) ?_
      iterate 6 (refine rg_step fun K hK => ?_; apply rg_fn rfl; (intro w4 hw; obtain ⟨⟨y0, y1, y2, y3, y4⟩, d0⟩ := HQ.out w4 hw.undrew; go_simp; try rfl); go_simp; (try with_reducible refine hK _ _ ?_); try clear hK K)
      refine rg_step fun K hK => ?_
      apply rg_any rfl
      · intro w4 hw
        refine ⟨.slice (some ⟨w4.heap.size, 0, none⟩) 1 1, w4.alloc (.cells (stC x).toArray 79), ?_, below1 _ _, trivial, ⟨_, rfl, heap_alloc_self _ _⟩⟩
        go_simp
        try rfl
      rintro v10 _
      go_simp
      (try with_reducible refine hK _ _ ?_)
      try clear hK K
      refine rg_nil ?_
      rintro w8 hw8 ⟨b8, rfl, hblk⟩
      replace hw8 := hw8.undrew
      have gb8 := blk_below hw8 GB6.out hbb6
      have go8 := own_below GO6.out hw8 (fun k h => (own_blk_lt GO6.out k h).2)
      have z8 := hw8.size
      have hbase8 : base ≤ w8.heap.size := by omega
      have GB8 := Lib.hid gb8
      have HB8 := Lib.hid hw8
      clear HQ hw8 gb8
      show wpListIn _ _ _ _ _ [_, _, _, _] _ _
      refine wpListIn_app2 base _ _ 81 79 (.agg #[.int .i64 0, .int .i64 0, .int .i64 0, .int .i64 0, .int .i64 0]) 5 40 (stC x) (by rfl) (by rfl) Try.underlying81 infoSt rfl (by decide) (by decide) v L.length (cellsL L) (by rfl) b8 (by rfl) hblk rfl (by simp [stC, Value.oneCell']) go8 (by omega) hbase8 ?_
      intro v9 w7 hown7 hgrow hat _
      obtain ⟨gg, cap, rfl⟩ := ownsRow_succ hown7
      have h7 : w7.heap[bb]? = some (.cells #[v, .map (some kb)] 116 (0, 0)) := (hgrow.block bb (by omega) hvb').trans GB8.out
      have e1 : w7.cell? ⟨bb, 0, none⟩ = some v := by rw [cell_blk h7]; rfl
      have e2 := frozen_blk h7 0
      have H7 := Lib.hid h7
      have HG := Lib.hid hgrow
      clear h7 hgrow
      simp only [lateOp, Act.put, List.setIfInBounds_toArray, List.set_cons_zero, List.set_cons_succ]
      gi_wp2_with fail
      all_goals
        go_end0
        have h7 := H7.out
        have hgrow := HG.out
        have hkv : some kb ≠ v.ownBlock := fun e => by
          obtain ⟨cur, hcur⟩ := own_type HB.out.own kb e.symm
          obtain ⟨es, clock, hm⟩ := HB.out.set.obj
          rw [hm] at hcur; simp at hcur
        have hkbb : kb ≠ bb := fun e => by
          obtain ⟨es, clock, hm⟩ := HB.out.set.obj
          rw [e, HB.out.box] at hm; simp at hm
        have hk6 : kb < w6.heap.size := HS6.out.lt
        have hat' : v.ownBlock = some gg ∨ w8.heap.size ≤ gg := by
          rcases hat with h | ⟨b, h, hb⟩
          · exact .inl h.symm
          · simp [Value.ownBlock] at h
            subst h
            exact .inr hb
        have hgb : gg ≠ bb := fun e => by
          rcases hat' with h | h
          · exact hvb (by rw [h, e])
          · omega
        have e : putL L x = L ++ [x] := if_neg hin
        have hgz := hgrow.size
        refine ⟨⟨_, rfl⟩, .slice (some ⟨gg, 0, none⟩) (L.length + 1) cap, ⟨?_, ?_, ?_⟩, ?_, ?_⟩
        · rw [heap_set h7]; rfl
        · rw [e, List.length_append]
          have hk7 : (w7.setCell ⟨bb, 0, none⟩ (.slice (some ⟨gg, 0, none⟩) (L.length + 1) cap)).heap[kb]? = w6.heap[kb]? :=
            (Below.heap_setCell _ _ _ _ hkbb).trans ((hgrow.block kb (by omega) hkv).trans (HB8.out.block kb hk6))
          have hf : (fun t => decide (t ∈ L ++ [x])) = fun t => if t = x then true else decide (t ∈ L) := by
            funext t
            by_cases h : t = x <;> simp [h]
          rw [hf]
          exact HS6.out.kept hk7
        · rw [e, List.length_append, cellsL_snoc]
          exact own_kept hown7 fun k hk => by
            have : gg = k := by simpa [Value.ownBlock] using hk
            subst this
            exact Below.heap_setCell _ _ _ _ hgb
        · rcases hat' with h | h
          · exact .inl h.symm
          · exact .inr ⟨gg, rfl, by omega⟩
        · have hA : Bel (fun k => k = bb ∨ k = kb ∨ v.ownBlock = some k) w w6 := HB6.out.mono fun _ _ h => .inr (.inl h)
          have hB7 : Bel (fun k => k = bb ∨ k = kb ∨ v.ownBlock = some k) w6 w7 := ⟨hgrow.os.trans HB8.out.os, hgrow.tape.trans HB8.out.tape, hgrow.output.trans HB8.out.output, by omega, fun k hk hn => (hgrow.block k (by omega) (fun e => hn (.inr (.inr e.symm)))).trans (HB8.out.block k hk)⟩
          exact (hA.trans hB7).setCell (fun _ => .inl rfl) _
end Go.Proofs.Ytnbnhcoaggpmaaa
