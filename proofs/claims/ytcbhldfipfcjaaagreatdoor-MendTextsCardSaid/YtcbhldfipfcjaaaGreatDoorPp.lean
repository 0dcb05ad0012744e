/- Proves: plainly; the map of what a list says, and its range. -/
import Derived.Test.YtcbhldfipfcjaaaGreatDoorVs
import Derived.Sort.MapsRangeIn

namespace Go.Proofs.YtcbhldfipfcjaaaGreatDoor
open Go Go.RowKit Go.Shelf
set_option maxRecDepth 100000

def stW (x : Wo) : St := stOf x.y x.th
/-- May a value stand in a list? -/
def woOk (m : Wk) (x : Wo) : Bool := !(outB x.y 0 (m.years - 1) || decide (x.th.length ≠ m.slopes.length) || outB x.c 0 2000000000) && fitsTh m x.th
def dWo : Wo := ⟨0, [], 0⟩
def okAt (m : Wk) (ws : List Wo) (i : Nat) : Bool := woOk m (ws.getD i dWo) && (decide (i = 0) || decide (cmpS (stW (ws.getD (i - 1) dWo)) (stW (ws.getD i dWo)) < 0))
def listOk (m : Wk) (ws : List Wo) : Bool := (List.range ws.length).all (okAt m ws)
/-- What the list says of a state. -/
def costW (ws : List Wo) : St → Option Int := ws.foldl (fun f x => putS f (stW x) x.c) fun _ => none
def rowProves (m : Wk) (f : St → Option Int) (s : St) (n : Int) (r : List Int) : Bool :=
  !keptS m s r || !((decide ((stepS m s r).y < m.years) && !(f (stepS m s r)).isSome) || decide (n > costS m r + (f (stepS m s r)).getD 0))
def provesB (m : Wk) (least : Int) (ws : List Wo) : Bool :=
  listOk m ws && if m.years = 0 then decide (least ≤ 0) && decide (ws.length = 0) else
    !(!(costW ws (firstS m)).isSome || decide ((costW ws (firstS m)).getD 0 < least)) && ws.all fun x => (rowsS m).all (rowProves m (costW ws) (stW x) x.c)
def provesS (m : Wk) (least : Int) (ws : List Wo) : Bool × Int :=
  if checkS m = 0 then if 2000 < ws.length then (false, 3) else (provesB m least ws, 0) else (false, checkS m)

theorem listOk_not {m : Wk} {ws : List Wo} {i : Nat} (hi : i < ws.length) (h : okAt m ws i = false) : listOk m ws = false := by
  unfold listOk
  rw [List.all_eq_false]
  exact ⟨i, by simpa using hi, by rw [h]; simp⟩
theorem listOk_to {m : Wk} {ws : List Wo} (h : ∀ i, i < ws.length → okAt m ws i = true) : listOk m ws = true := by
  unfold listOk
  rw [List.all_eq_true]
  intro i hi
  exact h i (by simpa using hi)
theorem listOk_at {m : Wk} {ws : List Wo} (h : listOk m ws = true) {i : Nat} (hi : i < ws.length) : okAt m ws i = true := by
  unfold listOk at h
  rw [List.all_eq_true] at h
  exact h i (by simpa using hi)
theorem proves_not {m : Wk} {least : Int} {ws : List Wo} (h : listOk m ws = false) : provesB m least ws = false := by unfold provesB; rw [h]; rfl
theorem okAt_spec {m : Wk} {ws : List Wo} {i : Nat} (h : okAt m ws i = true) (hi : i < ws.length) : woOk m ws[i] = true ∧ (i ≠ 0 → cmpS (stW (ws.getD (i - 1) dWo)) (stW ws[i]) < 0) := by
  unfold okAt at h
  rw [Bool.and_eq_true, getD_lt hi] at h
  refine ⟨h.1, fun h0 => ?_⟩
  have := h.2
  simpa [h0] using this
theorem woOk_spec {m : Wk} {x : Wo} (h : woOk m x = true) : outB x.y 0 (m.years - 1) = false ∧ x.th.length = m.slopes.length ∧ outB x.c 0 2000000000 = false ∧ fitsTh m x.th = true := by
  unfold woOk at h
  simp only [Bool.and_eq_true, Bool.not_eq_true', Bool.or_eq_false_iff] at h
  obtain ⟨⟨⟨h1, h2⟩, h3⟩, h4⟩ := h
  exact ⟨h1, by simpa using h2, h3, h4⟩
theorem stW_ok {m : Wk} (hm : m.Ok) {x : Wo} (h : woOk m x = true) : (stW x).Ok m := by
  obtain ⟨h1, _, _, h4⟩ := woOk_spec h
  refine stOf_ok hm ?_ h4
  rw [outB_false] at h1 ⊢
  omega

theorem snoc_ind {α : Type} {p : List α → Prop} (h0 : p []) (h1 : ∀ l x, p l → p (l ++ [x])) (l : List α) : p l := by
  have : ∀ l : List α, p l.reverse := fun l => by
    induction l with
    | nil => exact h0
    | cons x l ih => rw [List.reverse_cons]; exact h1 _ _ ih
  rw [← List.reverse_reverse l]
  exact this _
theorem costW_snoc (l : List Wo) (x : Wo) : costW (l ++ [x]) = putS (costW l) (stW x) x.c := by unfold costW; rw [List.foldl_append]; rfl
theorem costW_take {ws : List Wo} {k : Nat} {x : Wo} (h : ws[k]? = some x) : costW (ws.take (k + 1)) = putS (costW (ws.take k)) (stW x) x.c := by
  rw [List.take_add_one, h]; exact costW_snoc _ _
theorem costW_dom : ∀ {ws : List Wo} {s : St} {c : Int}, costW ws s = some c → ∃ x ∈ ws, stW x = s ∧ x.c = c := by
  refine fun {ws} => snoc_ind (p := fun ws => ∀ {s : St} {c : Int}, costW ws s = some c → ∃ x ∈ ws, stW x = s ∧ x.c = c) ?_ ?_ ws
  · intro s c h; cases h
  · intro l x ih s c h
    rw [costW_snoc] at h
    unfold putS at h
    by_cases hs : s = stW x
    · rw [if_pos hs] at h
      exact ⟨x, by simp, hs.symm, by simpa using h⟩
    · rw [if_neg hs] at h
      obtain ⟨y, hy, h1⟩ := ih h
      exact ⟨y, by simp [hy], h1⟩
theorem costW_at : ∀ {ws : List Wo}, ws.Pairwise (fun x y => stW x ≠ stW y) → ∀ x ∈ ws, costW ws (stW x) = some x.c := by
  refine fun {ws} => snoc_ind (p := fun ws => ws.Pairwise (fun x y => stW x ≠ stW y) → ∀ x ∈ ws, costW ws (stW x) = some x.c) ?_ ?_ ws
  · intro _ x h; cases h
  · intro l x ih hp y hy
    rw [List.pairwise_append] at hp
    rw [costW_snoc]
    unfold putS
    rcases List.mem_append.1 hy with h | h
    · rw [if_neg (hp.2.2 y h x (by simp))]
      exact ih hp.1 y h
    · have : y = x := by simpa using h
      subst this
      rw [if_pos rfl]
theorem listOk_lt {m : Wk} {ws : List Wo} (h : listOk m ws = true) : ∀ (d i : Nat) (hj : i + d + 1 < ws.length), lexI (lst (stW ws[i])) (lst (stW ws[i + d + 1])) < 0 := by
  intro d
  have step : ∀ i (hj : i + 1 < ws.length), lexI (lst (stW ws[i])) (lst (stW ws[i + 1])) < 0 := fun i hj => by
    have := (okAt_spec (listOk_at h hj) hj).2 (by omega)
    rw [Nat.add_sub_cancel, getD_lt (by omega)] at this
    exact this
  induction d with
  | zero => intro i hj; exact step i hj
  | succ d ih =>
    intro i hj
    exact lexI_trans _ _ _ (ih i (by omega)) (step (i + d + 1) (by omega))
theorem listOk_apart {m : Wk} {ws : List Wo} (h : listOk m ws = true) : ws.Pairwise (fun x y => stW x ≠ stW y) := by
  rw [List.pairwise_iff_getElem]
  intro i j hi hj hij e
  have := listOk_lt h (j - i - 1) i (by omega)
  have hx : i + (j - i - 1) + 1 = j := by omega
  simp only [hx] at this
  rw [e, lexI_self] at this
  omega

/-! ### The map, and a range over it -/
/-- As StMap; and no other key lies in it. -/
def StMapD (w : World) (b n : Nat) (f : St → Option Int) (D : DataW Unit) : Prop :=
  w.ownsMap Tryz.prog 95 (plainElem Tryz.prog 3) b n D ∧ (∀ s : St, s.Wf → Maps.has D (stK s) = (f s).isSome ∧ ∀ x, f s = some x → D.atKey (stK s) (.lit (.int .i64 0)) = .lit (.int .i64 x)) ∧ ∀ kl, Maps.has D kl = true → ∃ s : St, s.Wf ∧ kl = stK s
def StMapE (w : World) (b n : Nat) (f : St → Option Int) : Prop := ∃ D, StMapD w b n f D
theorem StMapE.toMap {w : World} {b n : Nat} {f : St → Option Int} (h : StMapE w b n f) : StMap w b n f := by
  obtain ⟨D, h1, h2, _⟩ := h
  exact ⟨D, h1, h2⟩
theorem StMapE.made (w : World) : StMapE (w.alloc (.map #[] 0)) w.heap.size 0 (fun _ => none) :=
  ⟨.map [], World.ownsMap_made _ _ _ _, fun s _ => ⟨by simp [Maps.has], fun x h => by cases h⟩, fun kl h => by simp [Maps.has] at h⟩
theorem StMapE.kept {w w' : World} {b n : Nat} {f : St → Option Int} (h : StMapE w b n f) (hk : w'.heap[b]? = w.heap[b]?) : StMapE w' b n f := by
  obtain ⟨D, ⟨es, clock, hb, rest⟩, hf⟩ := h
  exact ⟨D, ⟨es, clock, hk.trans hb, rest⟩, hf⟩
theorem StMapE.store {w : World} {b n : Nat} {f : St → Option Int} (h : StMapE w b n f) (s : St) (hs : s.Wf) (x : Int) (hx : -9223372036854775808 ≤ x ∧ x ≤ 9223372036854775807) (hn : n < maxLen) :
    ∃ w', (Instr.mapUpdate 111 (.map (some b)) (stV s) (.int .i64 x)).run Tryz.prog w = .ok () w' ∧ StMapE w' b (n + 1) (putS f s x) ∧ Bel (fun k => k = b) w w' := by
  obtain ⟨D, ho, hf, hd⟩ := h
  obtain ⟨w', hrun, ho', hg⟩ := ho.update keyLaw Tryz.underlying111 hn (stK_eq s hs) (plainElem_int Tryz.underlying3 (wf_lit hx))
  have hM := ho.isMap
  refine ⟨w', hrun, ⟨_, ho', fun t ht => ?_, fun kl hk => ?_⟩, ⟨hg.os, hg.tape, hg.output, hg.size, fun k hk hne => hg.block k hk (fun e => hne (by simpa using e))⟩⟩
  · unfold putS
    by_cases hts : t = s
    · subst hts
      rw [if_pos rfl, Maps.has_put_same hM (stK_key t hs)]
      refine ⟨rfl, fun y hy => ?_⟩
      rw [Maps.atKey_put_same hM (stK_key t hs)]
      simp at hy
      rw [hy]
    · have hne : stK t ≠ stK s := fun e => hts (stK_inj ht hs e)
      rw [if_neg hts, Maps.has_put_other hne]
      refine ⟨(hf t ht).1, fun y hy => ?_⟩
      rw [Maps.atKey_put_other hne]
      exact (hf t ht).2 y hy
  · by_cases hks : kl = stK s
    · exact ⟨s, hs, hks⟩
    · rw [Maps.has_put_other hks] at hk
      exact hd kl hk

theorem StMapE.again {w : World} {b n : Nat} {f : St → Option Int} (h : StMapE w b n f) (s : St) (hs : s.Wf) (x : Int) (hx : -9223372036854775808 ≤ x ∧ x ≤ 9223372036854775807) (hn : n < maxLen) (hf : f s = some x) :
    ∃ w', (Instr.mapUpdate 111 (.map (some b)) (stV s) (.int .i64 x)).run Tryz.prog w = .ok () w' ∧ StMapE w' b n f ∧ Bel (fun k => k = b) w w' := by
  obtain ⟨D, ho, hff, hd⟩ := id h
  have hsz : Maps.size D ≤ n := by
    obtain ⟨es, clock, _, _, hl, rfl⟩ := ho
    simpa [Maps.size, length_sorted] using hl
  obtain ⟨w', hrun, ho', hg⟩ := ho.update keyLaw Tryz.underlying111 hn (stK_eq s hs) (plainElem_int Tryz.underlying3 (wf_lit hx))
  have hM := ho.isMap
  have hhas : Maps.has D (stK s) = true := by rw [(hff s hs).1, hf]; rfl
  have hsz2 : Maps.size (D.put (stK s) (.lit (.int .i64 x))) = Maps.size D := by rw [Maps.size_put (ho.tidy keyLaw), if_pos hhas]
  refine ⟨w', hrun, ⟨D.put (stK s) (.lit (.int .i64 x)), ?_, fun t ht => ?_, fun kl hk => ?_⟩, ⟨hg.os, hg.tape, hg.output, hg.size, fun k hk hne => hg.block k hk (fun e => hne (by simpa using e))⟩⟩
  · obtain ⟨es, clock, h1, h2, h3, h4⟩ := ho'
    refine ⟨es, clock, h1, h2, ?_, h4⟩
    rw [h4] at hsz2
    have e : ∀ l : List (Lit × DataW Unit), Maps.size (DataW.map (l.foldr DataW.insert [])) = l.length := fun l => by simp [Maps.size, length_sorted]
    rw [e, List.length_map, Array.length_toList] at hsz2
    omega
  · by_cases hts : t = s
    · subst hts
      rw [Maps.has_put_same hM (stK_key t hs), hf]
      refine ⟨rfl, fun y hy => ?_⟩
      rw [Maps.atKey_put_same hM (stK_key t hs)]
      cases hy; rfl
    · have hne : stK t ≠ stK s := fun e => hts (stK_inj ht hs e)
      rw [Maps.has_put_other hne]
      refine ⟨(hff t ht).1, fun y hy => ?_⟩
      rw [Maps.atKey_put_other hne]
      exact (hff t ht).2 y hy
  · by_cases hks : kl = stK s
    · exact ⟨s, hs, hks⟩
    · rw [Maps.has_put_other hks] at hk
      exact hd kl hk

section
variable {F : Fence} {N : Nat} {P : Program} {ops : Array Oper} {R : World → World → Prop} {w0 : World}
/-- An operation without a value. -/
theorem rg_exS {o : Oper} {K : (World → Prop) → Act → Prop} {Φ : World → Prop} {a : Act} {D : World → Prop} (hw : Region.wanted o (yielded ops a.tmps) = true)
    (hv : ∀ w, R w0 w → ∃ w', (o.semAt F.round a.eval).run P w = .ok .skip w' ∧ R w w' ∧ D w')
    (h : K (fun w => Φ w ∧ D w) (a.put o.dst undef)) : rgOper F N P ops R w0 (.exw undef D) o K Φ a := by
  unfold rgOper; rw [if_pos hw]
  exact ⟨fun w hr => by
    unfold rgDo; obtain ⟨w', e, h1, h2⟩ := hv w hr; rw [e]
    exact ⟨h1, rfl, h2⟩, h⟩
end
/-- The map of costs gets one entry, once or again. -/
structure PutsR (b n : Nat) (f g : St → Option Int) (w w' : World) : Prop where
  bel : Bel (fun k => k = b) w w'
  one : StMapE w b n f → StMapE w' b n f ∨ StMapE w' b (n + 1) g
  two : StMapE w b (n + 1) g → StMapE w' b (n + 1) g
theorem PutsR.refl (b n : Nat) (f g : St → Option Int) (w : World) : PutsR b n f g w w := ⟨Bel.refl _ _, .inl, id⟩
theorem PutsR.trans {b n : Nat} {f g : St → Option Int} {w1 w2 w3 : World} (h : PutsR b n f g w1 w2) (k : PutsR b n f g w2 w3) : PutsR b n f g w1 w3 :=
  ⟨h.bel.trans k.bel, fun hf => (h.one hf).elim k.one (fun h2 => .inr (k.two h2)), fun hg => k.two (h.two hg)⟩

theorem PutsR.undrew {b n : Nat} {f g : St → Option Int} {w w' : World} (h : PutsR b n f g w.drew w') : PutsR b n f g w w' :=
  ⟨⟨h.bel.os, h.bel.tape, h.bel.output, h.bel.size, h.bel.block⟩, fun hf => h.one (hf.kept rfl), fun hg => h.two (hg.kept rfl)⟩
theorem puts_step {b n : Nat} {f : St → Option Int} {w : World} {s : St} {x : Int} (hs : s.Wf) (hx : -9223372036854775808 ≤ x ∧ x ≤ 9223372036854775807) (hn : n + 1 < maxLen) (h : StMapE w b n f ∨ StMapE w b (n + 1) (putS f s x)) :
    ∃ w', (Instr.mapUpdate 111 (.map (some b)) (stV s) (.int .i64 x)).run Tryz.prog w = .ok () w' ∧ PutsR b n f (putS f s x) w w' ∧ StMapE w' b (n + 1) (putS f s x) := by
  have hg : putS f s x s = some x := by unfold putS; rw [if_pos rfl]
  have one : ∀ w', (Instr.mapUpdate 111 (.map (some b)) (stV s) (.int .i64 x)).run Tryz.prog w = .ok () w' → StMapE w b n f → StMapE w' b (n + 1) (putS f s x) := fun w' hr h1 => by
    obtain ⟨w2, hr2, h2, _⟩ := h1.store s hs x hx (by omega)
    rw [hr] at hr2
    simp only [Result.ok.injEq, true_and] at hr2
    subst hr2; exact h2
  have two : ∀ w', (Instr.mapUpdate 111 (.map (some b)) (stV s) (.int .i64 x)).run Tryz.prog w = .ok () w' → StMapE w b (n + 1) (putS f s x) → StMapE w' b (n + 1) (putS f s x) := fun w' hr h1 => by
    obtain ⟨w2, hr2, h2, _⟩ := h1.again s hs x hx hn hg
    rw [hr] at hr2
    simp only [Result.ok.injEq, true_and] at hr2
    subst hr2; exact h2
  rcases h with h | h
  · obtain ⟨w', hr, hE, hB⟩ := h.store s hs x hx (by omega)
    exact ⟨w', hr, ⟨hB, fun h1 => .inr (one w' hr h1), two w' hr⟩, hE⟩
  · obtain ⟨w', hr, hE, hB⟩ := h.again s hs x hx hn hg
    exact ⟨w', hr, ⟨hB, fun h1 => .inr (one w' hr h1), two w' hr⟩, hE⟩

/-- A range over such a map: what is left, what is done. -/
structure StRange (w : World) (b r n : Nat) (f : St → Option Int) (D : DataW Unit) (done : St → Int → Prop) (cnt : Nat) (left : Lit → Bool) : Prop where
  ranges : w.ranges Tryz.prog 95 (plainElem Tryz.prog 3) b r n D left cnt
  map : StMapD w b n f D
  sub : ∀ kl, left kl = true → Maps.has D kl = true
  done : ∀ s : St, s.Wf → ∀ c, f s = some c → left (stK s) = false → done s c
theorem StRange.kept {w w' : World} {b r n : Nat} {f : St → Option Int} {D : DataW Unit} {done : St → Int → Prop} {cnt : Nat} {left : Lit → Bool} (h : StRange w b r n f D done cnt left) (hb : Below w.heap.size w w') : StRange w' b r n f D done cnt left := by
  have hr : w'.ranges Tryz.prog 95 (plainElem Tryz.prog 3) b r n D left cnt :=
    h.ranges.kept (row := none) ⟨hb.os, hb.tape, hb.output, hb.size, fun i hi _ => hb.block i hi⟩ (by simp) (by simp)
  exact ⟨hr, ⟨hr.owns, h.map.2⟩, h.sub, h.done⟩
theorem wpListIn_range_st {F : Fence} {N : Nat} {ops : Array Oper} {rest : List Oper} {o : Oper} {a : Act} {Q : Exit → Act → World → Prop} {w : World} (hg : o.guard = none) (x : Operand) (hop : o.op = Op.range 111 x) {b n : Nat} {f : St → Option Int}
    (hm : a.eval x = .map (some b)) (h : StMapE w b n f) (done : St → Int → Prop)
    (hK : ∀ D w' cnt left, StRange w' b w.heap.size n f D done cnt left → Below w.heap.size w w' → w'.heap.size = w.heap.size + 1 → wpListIn F N Tryz.prog ops Q rest (a.put o.dst (.pointer (some ⟨w.heap.size, 0, none⟩))) w') :
    wpListIn F N Tryz.prog ops Q (o :: rest) a w := by
  obtain ⟨D, hD⟩ := h
  refine wpListIn_range_own w hg x _ hop _ _ keyLaw Tryz.underlying111 _ b n D hm hD.1 fun w' h1 h2 h3 => hK D w' _ _ ⟨h1, ⟨h1.owns, hD.2⟩, fun _ h => h, fun s hs c hc hl => ?_⟩ ⟨h2.os, h2.tape, h2.output, h2.size, fun i hi => h2.block i hi (by simp)⟩ h3
  rw [(hD.2.1 s hs).1, hc] at hl
  cases hl
theorem wpListIn_next_st {F : Fence} {N : Nat} {ops : Array Oper} {rest : List Oper} {o : Oper} {a : Act} {Q : Exit → Act → World → Prop} {w : World} (hg : o.guard = none) (it : Operand) (hop : o.op = Op.next it false) {b r n : Nat} {f : St → Option Int} {D : DataW Unit} {done : St → Int → Prop} {cnt : Nat} {left : Lit → Bool}
    (hit : a.eval it = .pointer (some ⟨r, 0, none⟩)) (h : StRange w b r n f D done cnt left)
    (hDone : (∀ s : St, s.Wf → ∀ c, f s = some c → done s c) → wpListIn F N Tryz.prog ops Q rest (a.put o.dst (.tuple #[.bool false])) w)
    (hMore : ∀ (s : St) (c : Int) (w' : World) (cnt' : Nat) (left' : Lit → Bool), s.Wf → f s = some c → cnt' < cnt → (done s c → StRange w' b r n f D done cnt' left') → w'.ranges Tryz.prog 95 (plainElem Tryz.prog 3) b r n D left' cnt' → StMapE w' b n f →
      Bel (fun k => k = r) w w' → w'.heap.size = w.heap.size → (Instr.entry (.pointer (some ⟨r, 0, none⟩))).run Tryz.prog w' = .ok (.tuple #[stV s, .int .i64 c]) w' → wpListIn F N Tryz.prog ops Q rest (a.put o.dst (.tuple #[.bool true, stV s, .int .i64 c])) w') :
    wpListIn F N Tryz.prog ops Q (o :: rest) a w := by
  refine wpListIn_next_ranges w hg it hop _ keyLaw _ (fun v : Value => v) (Value.int .i64) (fun key kl _ => ⟨key, rfl⟩) (fun v y hv => by obtain ⟨c, rfl, _⟩ := plainElem_int_inv Tryz.underlying3 hv; exact ⟨c, rfl⟩) b r n D left cnt hit h.ranges
    (fun _ hl => hDone fun s hs c hc => h.done s hs c hc (hl _)) (fun x c kl y w' cnt' hkey hlk hv hat hrg hlt hgr hsz hen => ?_)
  obtain ⟨s, hs, rfl⟩ := h.map.2.2 kl (h.sub kl hlk)
  obtain rfl : x = stV s := keyLaw.inj hkey (stK_eq s hs)
  obtain ⟨c', ec, rfl, hwc⟩ := plainElem_int_inv Tryz.underlying3 hv
  cases ec
  have hhas := h.sub _ hlk
  rw [(h.map.2.1 s hs).1] at hhas
  obtain ⟨c2, hc2⟩ := Option.isSome_iff_exists.1 hhas
  have h2 := (h.map.2.1 s hs).2 c2 hc2
  rw [hat] at h2
  have hc : c2 = c := by simpa using h2.symm
  subst hc
  refine hMore s c2 w' cnt' _ hs hc2 hlt (fun hd => ⟨hrg, ⟨hrg.owns, h.map.2⟩, fun kl hk => h.sub kl (by simp at hk; exact hk.1), fun t ht c hc hl => ?_⟩) hrg ⟨D, hrg.owns, h.map.2⟩ ⟨hgr.os, hgr.tape, hgr.output, hgr.size, fun i hi hn => hgr.block i hi (fun e => hn (by simpa using e))⟩ hsz hen
  by_cases hts : t = s
  · subst hts
    rw [hc2] at hc
    cases hc
    exact hd
  · simp only [Bool.and_eq_false_iff, Bool.not_eq_false'] at hl
    rcases hl with hl | hl
    · exact h.done t ht c hc hl
    · exact absurd (stK_inj ht hs (WideAt.sameKey_eq hl)) hts
end Go.Proofs.YtcbhldfipfcjaaaGreatDoor
