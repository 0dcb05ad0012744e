/- Regions whose order of evaluation is open, walked once in the order of the text: operations and calls may read, lay new blocks and keep a relation R of worlds. -/
import Derived.StillTail
import Derived.OrdersIn
import Derived.TacticsIn
import Derived.ControlIn
import Derived.RangeFuncNested
import Derived.RangeFuncCalls

namespace Go.Proofs.Ytnbnhcoaggpmaaa
open Go

/-- What is told of an operation's value. -/
inductive Sp where
  | fn
  | ex (v : Value)
  | any (S : { S : Value → Prop // ∃ u, S u }) (D : List Value → Value → World → Prop)
  | exw (v : Value) (D : World → Prop)

/-- What the operation's operands hold. -/
def opv (o : Oper) (a : Act) : List Value := o.op.operands.toList.map a.eval
def SpStable (R : World → World → Prop) : Sp → Prop
  | .any _ D => ∀ l v w w', R w w' → D l v w → D l v w'
  | .exw _ D => ∀ w w', R w w' → D w → D w'
  | _ => True

section
variable (F : Fence) (N : Nat) (P : Program) (ops : Array Oper) (R : World → World → Prop) (w0 : World)

/-- The operation's value is this one, whatever the world of the class; it is no call. -/
def rgVal (o : Oper) (a : Act) (v : Value) (w : World) : Prop :=
  match (o.semAt F.round a.eval).run P w with
  | .ok (.value u) w' => w' = w ∧ u = v
  | .ok .skip w' => w' = w ∧ v = undef
  | _ => False
/-- A walk through a region, shut: so nothing runs ahead through the operations that are skipped. -/
structure Rgw (p : Prop) : Prop where
  out : p
/-- The operation keeps R; its value has D. -/
def rgDo (o : Oper) (a : Act) (D : Value → World → Prop) (w : World) : Prop :=
  match (o.semAt F.round a.eval).run P w with
  | .ok (.value u) w' => R w w' ∧ D u w'
  | .ok .skip w' => R w w' ∧ D undef w'
  | .ok (.enter f args) w' => (F.depth.isSome = true → 1 ≤ N) ∧ CallsIn F (N - 1) P f args w' fun e w'' => ∃ v, e = .returned v ∧ R w w'' ∧ D v w''
  | _ => False
def rgSp (o : Oper) (a : Act) (K : (World → Prop) → Act → Prop) (Φ : World → Prop) : Sp → Prop
  | .fn => ∃ v, (∀ w, R w0 w → rgVal F P o a v w) ∧ K Φ (a.put o.dst v)
  | .ex v => (∀ w, R w0 w → rgDo F N P R o a (fun u _ => u = v) w) ∧ K Φ (a.put o.dst v)
  | .any S D => (∀ w, R w0 w → rgDo F N P R o a (fun v w => S.1 v ∧ D (opv o a) v w) w) ∧ ∀ v, S.1 v → K (fun w => Φ w ∧ D (opv o a) v w) (a.put o.dst v)
  | .exw v D => (∀ w, R w0 w → rgDo F N P R o a (fun u w' => u = v ∧ D w') w) ∧ K (fun w => Φ w ∧ D w) (a.put o.dst v)
def rgOper (sp : Sp) (o : Oper) (K : (World → Prop) → Act → Prop) (Φ : World → Prop) (a : Act) : Prop :=
  if Region.wanted o (yielded ops a.tmps) then rgSp F N P R w0 o a K Φ sp else K Φ (a.put o.dst undef)
def rgOp (X : Nat → Sp) (i : Nat) (K : (World → Prop) → Act → Prop) (Φ : World → Prop) (a : Act) : Prop :=
  match ops[i]? with
  | none => K Φ a
  | some o => rgOper F N P ops R w0 (X i) o K Φ a
/-- The lexical walk. -/
def wpRg (X : Nat → Sp) (Q : (World → Prop) → Act → Prop) : List Oper → Nat → (World → Prop) → Act → Prop
  | [], _, Φ, a => Q Φ a
  | o :: rest, k, Φ, a => rgOper F N P ops R w0 (X k) o (wpRg X Q rest (k + 1)) Φ a
def rgAny (md : Region.Mode) (X : Nat → Sp) (n : Nat) (L : Array Bool → (World → Prop) → Act → Prop) : Nat → Array Bool → (World → Prop) → Act → Prop
  | 0, listed, Φ, a => L listed Φ a
  | f + 1, listed, Φ, a => Region.ready md ops listed ≠ [] ∧ ∀ i ∈ Region.ready md ops listed, i < n ∧ rgOp F N P ops R w0 X i (rgAny md X n L f (listed.setIfInBounds i true)) Φ a
end

section
variable {F : Fence} {N : Nat} {P : Program} {ops : Array Oper} {R : World → World → Prop} {w0 : World} {md : Region.Mode} {X : Nat → Sp} {n : Nat}
  {L : Array Bool → (World → Prop) → Act → Prop}

theorem rgSp_mono {o : Oper} {a : Act} {K K' : (World → Prop) → Act → Prop} {Φ : World → Prop} {sp : Sp} (h : ∀ Φ a, K Φ a → K' Φ a)
    (hh : rgSp F N P R w0 o a K Φ sp) : rgSp F N P R w0 o a K' Φ sp := by
  cases sp with
  | fn => obtain ⟨v, h1, h2⟩ := hh; exact ⟨v, h1, h _ _ h2⟩
  | ex v => exact ⟨hh.1, h _ _ hh.2⟩
  | any S D => exact ⟨hh.1, fun v hv => h _ _ (hh.2 v hv)⟩
  | exw v D => exact ⟨hh.1, h _ _ hh.2⟩
theorem rgOper_mono {sp : Sp} {o : Oper} {a : Act} {K K' : (World → Prop) → Act → Prop} {Φ : World → Prop} (h : ∀ Φ a, K Φ a → K' Φ a)
    (hh : rgOper F N P ops R w0 sp o K Φ a) : rgOper F N P ops R w0 sp o K' Φ a := by
  unfold rgOper at *
  split
  · rename_i hw; rw [if_pos hw] at hh; exact rgSp_mono h hh
  · rename_i hw; rw [if_neg hw] at hh; exact h _ _ hh
theorem rgOp_mono {i : Nat} {a : Act} {K K' : (World → Prop) → Act → Prop} {Φ : World → Prop} (h : ∀ Φ a, K Φ a → K' Φ a)
    (hh : rgOp F N P ops R w0 X i K Φ a) : rgOp F N P ops R w0 X i K' Φ a := by
  unfold rgOp at *
  split
  · rename_i ho; simp only [ho] at hh; exact h _ _ hh
  · rename_i o ho; simp only [ho] at hh; exact rgOper_mono h hh

/-- Sound: one operation. -/
theorem wpIn_of_rgOper (hF : ∀ f, F.fn f) (hrt : ∀ a b c : World, R a b → R b c → R a c) {sp : Sp} (hst : SpStable R sp) {o : Oper}
    {K : (World → Prop) → Act → Prop} {K' : Act → World → Prop} {Q : Exit → Act → World → Prop} {Φ : World → Prop} {a : Act} {w : World}
    (hΦ : ∀ w w', R w w' → Φ w → Φ w') (hw0 : R w0 w) (hp : Φ w)
    (h : ∀ Φ' a' w', (∀ w w', R w w' → Φ' w → Φ' w') → R w0 w' → Φ' w' → K Φ' a' → K' a' w') (hh : rgOper F N P ops R w0 sp o K Φ a) :
    if Region.wanted o (yielded ops a.tmps) then o.wpIn F N P a w K' Q else (∀ f, o.about P w a.eval = some f → F.fn f) ∧ K' (a.put o.dst undef) w := by
  unfold rgOper at hh
  split
  · rename_i hw
    rw [if_pos hw] at hh
    refine ⟨fun f _ => hF f, ?_⟩
    have doit : ∀ (D : Value → World → Prop), rgDo F N P R o a D w → (∀ v w', R w w' → D v w' → K' (a.put o.dst v) w') →
        o.uponIn F N P a K' Q ((o.semAt F.round a.eval).run P w) := fun D hd hk => by
      unfold rgDo at hd
      generalize (o.semAt F.round a.eval).run P w = r at *
      cases r with
      | ok x w' =>
        cases x <;> simp only [Oper.uponIn] at hd ⊢
        case value u => exact hk _ _ hd.1 hd.2
        case skip => exact hk _ _ hd.1 hd.2
        case enter f args => exact ⟨hd.1, hd.2.mono fun e w'' ⟨v, he, h1, h2⟩ => by subst he; exact hk _ _ h1 h2⟩
      | halt x w' => exact hd.elim
    cases sp with
    | fn =>
      obtain ⟨v, h1, h2⟩ := hh
      have h3 := h1 w hw0
      unfold rgVal at h3
      generalize (o.semAt F.round a.eval).run P w = r at *
      cases r with
      | ok x w' =>
        cases x <;> simp only [Oper.uponIn] at h3 ⊢
        case value u => obtain ⟨rfl, rfl⟩ := h3; exact h _ _ _ hΦ hw0 hp h2
        case skip => obtain ⟨rfl, rfl⟩ := h3; exact h _ _ _ hΦ hw0 hp h2
      | halt x w' => exact h3.elim
    | ex v => exact doit _ (hh.1 w hw0) fun u w' hr hd => by subst hd; exact h _ _ _ hΦ (hrt _ _ _ hw0 hr) (hΦ _ _ hr hp) hh.2
    | any S D =>
      exact doit _ (hh.1 w hw0) fun u w' hr ⟨hs, hd⟩ => h _ _ _ (fun w1 w2 hr ⟨x, y⟩ => ⟨hΦ _ _ hr x, hst _ _ _ _ hr y⟩) (hrt _ _ _ hw0 hr) ⟨hΦ _ _ hr hp, hd⟩ (hh.2 u hs)
    | exw v D =>
      exact doit _ (hh.1 w hw0) fun u w' hr ⟨hu, hd⟩ => by subst hu; exact h _ _ _ (fun w1 w2 hr ⟨x, y⟩ => ⟨hΦ _ _ hr x, hst _ _ hr y⟩) (hrt _ _ _ hw0 hr) ⟨hΦ _ _ hr hp, hd⟩ hh.2
  · rename_i hw
    rw [if_neg hw] at hh
    exact ⟨fun f _ => hF f, h _ _ _ hΦ hw0 hp hh⟩

theorem wpAnyIn_of_rg (hF : ∀ f, F.fn f) (hrt : ∀ a b c : World, R a b → R b c → R a c) (hst : ∀ i, SpStable R (X i))
    {Q : Exit → Act → World → Prop} {g : Nat}
    (hL : ∀ listed Φ a w, L listed Φ a → R w0 w → Φ w → wpAnyIn F N P md ops Q g listed a w) :
    ∀ (f : Nat) (listed : Array Bool) (Φ : World → Prop) (a : Act) (w : World), (∀ w w', R w w' → Φ w → Φ w') → R w0 w → Φ w →
      rgAny F N P ops R w0 md X n L f listed Φ a → wpAnyIn F N P md ops Q (f + g) listed a w
  | 0, listed, Φ, a, w, hΦ, hw, hp, h => by rw [Nat.zero_add]; exact hL _ _ _ _ h hw hp
  | f + 1, listed, Φ, a, w, hΦ, hw, hp, h => by
    rw [show f + 1 + g = (f + g) + 1 by omega]
    refine ⟨fun h0 => absurd h0 h.1, fun i hi => ?_⟩
    have h2 := (h.2 i hi).2
    unfold rgOp at h2
    unfold wpOpIn
    split
    · rename_i ho; simp only [ho] at h2; exact wpAnyIn_of_rg hF hrt hst hL f _ _ _ _ hΦ hw hp h2
    · rename_i o ho
      simp only [ho] at h2
      exact wpIn_of_rgOper hF hrt (hst i) hΦ hw hp (fun Φ' a' w' hΦ' hw' hp' h' => wpAnyIn_of_rg hF hrt hst hL f _ Φ' a' w' hΦ' hw' hp' h') h2

theorem sem_put (ro : Option Nat) (o : Oper) (hs : ∀ cs b, o.op ≠ .select cs b) (a : Act) (dst : Option Tmp) (v : Value) (h : ∀ d, dst = some d → d ∉ o.looksAt ops) :
    Oper.semAt ro (a.put dst v).eval o = Oper.semAt ro a.eval o := by
  by_cases hd : ∃ c, o.op = .defer c
  · obtain ⟨c, hc⟩ := hd
    unfold Oper.semAt
    cases ro with
    | none => exact execOp_put o hs a dst v h
    | some l =>
      simp only [hc]
      have e := resolve_congr (ρ := (a.put dst v).eval) (ρ' := a.eval) c o.type (fun x hx => Act.eval_put fun d hd hxd => h d hd (by
        subst hxd
        exact List.mem_append_left _ (List.mem_filterMap.2 ⟨.tmp d, by rw [hc]; simpa [Op.operands] using hx, rfl⟩)))
      rw [e]
  · rw [Oper.semAt_eq _ _ _ (fun c hc => hd ⟨c, hc⟩), Oper.semAt_eq _ _ _ (fun c hc => hd ⟨c, hc⟩)]
    exact execOp_put o hs a dst v h

theorem opv_put (o : Oper) (a : Act) (dst : Option Tmp) (v : Value) (h : ∀ d, dst = some d → d ∉ o.looksAt ops) : opv o (a.put dst v) = opv o a := by
  unfold opv
  refine List.map_congr_left fun x hx => Act.eval_put fun d hd hxd => h d hd (by
    subst hxd
    exact List.mem_append_left _ (List.mem_filterMap.2 ⟨.tmp d, hx, rfl⟩))
/-- What operation i does in this frame, by its specification. -/
def Does (F : Fence) (N : Nat) (P : Program) (ops : Array Oper) (R : World → World → Prop) (w0 : World) (sp : Sp) (o : Oper) (v : Value) (a : Act) : Prop :=
  (Region.wanted o (yielded ops a.tmps) = true ∧ match sp with
    | .fn => ∀ w, R w0 w → rgVal F P o a v w
    | .ex u => u = v ∧ ∀ w, R w0 w → rgDo F N P R o a (fun x _ => x = v) w
    | .any S D => ∀ w, R w0 w → rgDo F N P R o a (fun v w => S.1 v ∧ D (opv o a) v w) w
    | .exw u D => u = v ∧ ∀ w, R w0 w → rgDo F N P R o a (fun x w' => x = v ∧ D w') w) ∨
  (Region.wanted o (yielded ops a.tmps) = false ∧ v = undef)

/-- What follows operation i: for 'any', whatever its value is. -/
def After (ops : Array Oper) (sp : Sp) (o : Oper) (v : Value) (K : (World → Prop) → Act → Prop) (Φ : World → Prop) (a : Act) : Prop :=
  if Region.wanted o (yielded ops a.tmps) then
    match sp with
    | .any S D => ∀ u, S.1 u → K (fun w => Φ w ∧ D (opv o a) u w) (a.put o.dst u)
    | .exw _ D => K (fun w => Φ w ∧ D w) (a.put o.dst v)
    | .fn => K Φ (a.put o.dst v)
    | .ex _ => K Φ (a.put o.dst v)
  else K Φ (a.put o.dst v)

theorem rgOp_of_does {i : Nat} {o : Oper} {v : Value} {a : Act} {Φ : World → Prop} {K : (World → Prop) → Act → Prop} (hi : ops[i]? = some o)
    (hd : Does F N P ops R w0 (X i) o v a) (h : After ops (X i) o v K Φ a) : rgOp F N P ops R w0 X i K Φ a := by
  unfold rgOp
  simp only [hi]
  unfold rgOper
  unfold After at h
  rcases hd with ⟨hw, hd⟩ | ⟨hw, rfl⟩
  · rw [if_pos hw] at h ⊢
    cases hx : X i with
    | fn => rw [hx] at hd h; exact ⟨v, hd, h⟩
    | ex u => rw [hx] at hd h; obtain ⟨rfl, hd⟩ := hd; exact ⟨hd, h⟩
    | any S D => rw [hx] at hd h; exact ⟨hd, h⟩
    | exw u D => rw [hx] at hd h; obtain ⟨rfl, hd⟩ := hd; exact ⟨hd, h⟩
  · rw [if_neg (by simp [hw])] at h ⊢
    exact h

theorem does_of_rgOper {sp : Sp} {o : Oper} {a : Act} {Φ : World → Prop} {K : (World → Prop) → Act → Prop} (h : rgOper F N P ops R w0 sp o K Φ a) :
    ∃ v, Does F N P ops R w0 sp o v a ∧ After ops sp o v K Φ a := by
  unfold rgOper at h
  unfold Does After
  by_cases hw : Region.wanted o (yielded ops a.tmps) = true
  · rw [if_pos hw] at h
    cases sp with
    | fn => obtain ⟨v, h1, h2⟩ := h; exact ⟨v, .inl ⟨hw, h1⟩, by rw [if_pos hw]; exact h2⟩
    | ex u => exact ⟨u, .inl ⟨hw, rfl, h.1⟩, by rw [if_pos hw]; exact h.2⟩
    | any S D => exact ⟨undef, .inl ⟨hw, h.1⟩, by rw [if_pos hw]; exact h.2⟩
    | exw u D => exact ⟨u, .inl ⟨hw, rfl, h.1⟩, by rw [if_pos hw]; exact h.2⟩
  · rw [if_neg hw] at h
    exact ⟨undef, .inr ⟨by simpa using hw, rfl⟩, by rw [if_neg hw]; exact h⟩

theorem rgVal_put {o : Oper} (hs : ∀ cs b, o.op ≠ .select cs b) (a : Act) (dst : Option Tmp) (u v : Value) (w : World) (h : ∀ d, dst = some d → d ∉ o.looksAt ops) :
    rgVal F P o (a.put dst u) v w = rgVal F P o a v w := by unfold rgVal; rw [sem_put F.round o hs a dst u h]
theorem rgDo_put {o : Oper} (hs : ∀ cs b, o.op ≠ .select cs b) (a : Act) (dst : Option Tmp) (u : Value) (D : Value → World → Prop) (w : World) (h : ∀ d, dst = some d → d ∉ o.looksAt ops) :
    rgDo F N P R o (a.put dst u) D w = rgDo F N P R o a D w := by unfold rgDo; rw [sem_put F.round o hs a dst u h]
theorem Does.put {sp : Sp} {o : Oper} {v : Value} {a : Act} (hs : ∀ cs b, o.op ≠ .select cs b) (dst : Option Tmp) (u : Value) (h : ∀ d, dst = some d → d ∉ o.looksAt ops) :
    Does F N P ops R w0 sp o v (a.put dst u) ↔ Does F N P ops R w0 sp o v a := by
  unfold Does
  rw [wanted_put o a dst u h]
  cases sp <;> simp only [rgVal_put hs a dst u _ _ h, rgDo_put hs a dst u _ _ h, opv_put o a dst u h]

/-- The value of a functional operation is one alone. -/
theorem rgVal_one {o : Oper} {a : Act} {u v : Value} {w : World} (h : rgVal F P o a u w) (k : rgVal F P o a v w) : u = v := by
  unfold rgVal at *
  generalize (o.semAt F.round a.eval).run P w = r at *
  cases r with
  | ok x w' => cases x <;> simp only at h k <;> first | exact h.2.symm.trans k.2 | exact h.2.trans k.2.symm | exact h.elim
  | halt x w' => exact h.elim

theorem rgAny_congr : ∀ (f : Nat) (listed : Array Bool) (Φ Φ' : World → Prop) (a : Act), (∀ l Φ Φ' a, (∀ w, Φ' w → Φ w) → L l Φ a → L l Φ' a) → (∀ w, Φ' w → Φ w) →
    rgAny F N P ops R w0 md X n L f listed Φ a → rgAny F N P ops R w0 md X n L f listed Φ' a
  | 0, _, _, _, _, hL, h, hh => hL _ _ _ _ h hh
  | f + 1, listed, Φ, Φ', a, hL, h, hh => by
    refine ⟨hh.1, fun i hi => ⟨(hh.2 i hi).1, ?_⟩⟩
    have h2 := (hh.2 i hi).2
    unfold rgOp at *
    split
    · rename_i ho; simp only [ho] at h2; exact rgAny_congr f _ _ _ _ hL h h2
    · rename_i o ho
      simp only [ho] at h2
      unfold rgOper at *
      split
      · rename_i hw
        rw [if_pos hw] at h2
        revert h2
        cases X i with
        | fn => rintro ⟨v, h3, h4⟩; exact ⟨v, h3, rgAny_congr f _ _ _ _ hL h h4⟩
        | ex u => rintro ⟨h3, h4⟩; exact ⟨h3, rgAny_congr f _ _ _ _ hL h h4⟩
        | any S D => rintro ⟨h3, h4⟩; exact ⟨h3, fun v hv => rgAny_congr f _ _ _ _ hL (fun w ⟨x, y⟩ => ⟨h w x, y⟩) (h4 v hv)⟩
        | exw u D => rintro ⟨h3, h4⟩; exact ⟨h3, rgAny_congr f _ _ _ _ hL (fun w ⟨x, y⟩ => ⟨h w x, y⟩) h4⟩
      · rename_i hw
        rw [if_neg hw] at h2
        exact rgAny_congr f _ _ _ _ hL h h2

/-- Operation j, apart from i, may come ahead of it. -/
theorem rgOp_put {j : Nat} {oi oj : Oper} {v : Value} (hr0 : R w0 w0) (hj : ops[j]? = some oj) (hap : oi.apart ops oj = true)
    (hsi : ∀ cs b, oi.op ≠ .select cs b) (hsj : ∀ cs b, oj.op ≠ .select cs b) {K : (World → Prop) → Act → Prop} {Φ : World → Prop} {a : Act} {spi : Sp}
    (hy : Does F N P ops R w0 spi oi v a) (h : After ops spi oi v (rgOp F N P ops R w0 X j K) Φ a) (hK : ∀ Φ Φ' a, (∀ w, Φ' w → Φ w) → K Φ a → K Φ' a) :
    rgOp F N P ops R w0 X j (fun Φ' a' => Does F N P ops R w0 spi oi v a' ∧ After ops spi oi v K Φ' a') Φ a := by
  obtain ⟨h1, h2, h3⟩ := Oper.apart_spec hap
  have keep : ∀ u, Does F N P ops R w0 spi oi v (a.put oj.dst u) := fun u => (Does.put hsi oj.dst u h3).2 hy
  have hwi : ∀ u, Region.wanted oi (yielded ops (a.put oj.dst u).tmps) = Region.wanted oi (yielded ops a.tmps) := fun u => wanted_put oi a oj.dst u h3
  have hwj : ∀ u, Region.wanted oj (yielded ops (a.put oi.dst u).tmps) = Region.wanted oj (yielded ops a.tmps) := fun u => wanted_put oj a oi.dst u h1
  have hoi : ∀ u, opv oi (a.put oj.dst u) = opv oi a := fun u => opv_put oi a oj.dst u h3
  have hoj : ∀ u, opv oj (a.put oi.dst u) = opv oj a := fun u => opv_put oj a oi.dst u h1
  have comm : ∀ u x, (a.put oi.dst u).put oj.dst x = (a.put oj.dst x).put oi.dst u := fun u x => Act.put_comm a u x h2
  unfold After at h
  unfold rgOp rgOper at *
  simp only [hj] at h ⊢
  by_cases hw : Region.wanted oi (yielded ops a.tmps) = true
  · rw [if_pos hw] at h
    cases hs : spi with
    | any S D =>
      rw [hs] at h
      obtain ⟨u0, hu0⟩ := S.2
      simp only [hwj] at h
      split
      · rename_i hwo
        simp only [hwo, if_true] at h
        revert h
        cases X j with
        | fn =>
          intro h
          obtain ⟨x, hx, hk⟩ := h u0 hu0
          refine ⟨x, fun w hw' => by have := hx w hw'; rwa [rgVal_put hsj a oi.dst u0 _ _ h1] at this, by rw [← hs]; exact keep x, ?_⟩
          unfold After
          rw [hwi, if_pos hw]
          intro u hu
          obtain ⟨y, hy', hk'⟩ := h u hu
          have e : y = x := by
            have a1 := hx w0 hr0
            have a2 := hy' w0 hr0
            rw [rgVal_put hsj a oi.dst _ _ _ h1] at a1 a2
            exact rgVal_one a2 a1
          subst e
          rw [hoi, ← comm]
          exact hk'
        | ex c =>
          intro h
          refine ⟨fun w hw' => by have := (h u0 hu0).1 w hw'; rwa [rgDo_put hsj a oi.dst u0 _ _ h1] at this, by rw [← hs]; exact keep c, ?_⟩
          unfold After
          rw [hwi, if_pos hw]
          intro u hu
          rw [hoi, ← comm]
          exact (h u hu).2
        | any S' D' =>
          intro h
          simp only [rgSp, hoj] at h
          refine ⟨fun w hw' => by have := (h u0 hu0).1 w hw'; rwa [rgDo_put hsj a oi.dst u0 _ _ h1] at this, fun x hx' => ⟨by rw [← hs]; exact keep x, ?_⟩⟩
          unfold After
          rw [hwi, if_pos hw]
          intro u hu
          rw [hoi, ← comm]
          exact hK _ _ _ (fun w ⟨⟨p, q⟩, r⟩ => ⟨⟨p, r⟩, q⟩) ((h u hu).2 x hx')
        | exw c D' =>
          intro h
          refine ⟨fun w hw' => by have := (h u0 hu0).1 w hw'; rwa [rgDo_put hsj a oi.dst u0 _ _ h1] at this, by rw [← hs]; exact keep c, ?_⟩
          unfold After
          rw [hwi, if_pos hw]
          intro u hu
          rw [hoi, ← comm]
          exact hK _ _ _ (fun w ⟨⟨p, q⟩, r⟩ => ⟨⟨p, r⟩, q⟩) (h u hu).2
      · rename_i hwo
        simp only [hwo] at h
        refine ⟨by rw [← hs]; exact keep undef, ?_⟩
        unfold After
        rw [hwi, if_pos hw]
        intro u hu
        rw [hoi, ← comm]
        exact h u hu
    | fn =>
      rw [hs] at h
      simp only [hwj] at h
      have af : ∀ Φ x, K Φ ((a.put oi.dst v).put oj.dst x) → After ops Sp.fn oi v K Φ (a.put oj.dst x) := fun Φ x hk => by
        unfold After; rw [hwi, if_pos hw, ← comm]; exact hk
      split
      · rename_i hwo
        simp only [hwo, if_true] at h
        revert h
        cases X j with
        | fn => rintro ⟨x, hx, hk⟩; exact ⟨x, fun w hw' => by have := hx w hw'; rwa [rgVal_put hsj a oi.dst v _ _ h1] at this, by rw [← hs]; exact keep x, af _ _ hk⟩
        | ex c => rintro ⟨hx, hk⟩; exact ⟨fun w hw' => by have := hx w hw'; rwa [rgDo_put hsj a oi.dst v _ _ h1] at this, by rw [← hs]; exact keep c, af _ _ hk⟩
        | any S' D' => rintro ⟨hx, hk⟩; simp only [hoj] at hx hk; exact ⟨fun w hw' => by have := hx w hw'; rwa [rgDo_put hsj a oi.dst v _ _ h1] at this, fun x hx' => ⟨by rw [← hs]; exact keep x, af _ _ (hk x hx')⟩⟩
        | exw c D' => rintro ⟨hx, hk⟩; exact ⟨fun w hw' => by have := hx w hw'; rwa [rgDo_put hsj a oi.dst v _ _ h1] at this, by rw [← hs]; exact keep c, af _ _ hk⟩
      · rename_i hwo
        simp only [hwo] at h
        exact ⟨by rw [← hs]; exact keep undef, af _ _ h⟩
    | ex c0 =>
      rw [hs] at h
      simp only [hwj] at h
      have af : ∀ Φ x, K Φ ((a.put oi.dst v).put oj.dst x) → After ops (Sp.ex c0) oi v K Φ (a.put oj.dst x) := fun Φ x hk => by
        unfold After; rw [hwi, if_pos hw, ← comm]; exact hk
      split
      · rename_i hwo
        simp only [hwo, if_true] at h
        revert h
        cases X j with
        | fn => rintro ⟨x, hx, hk⟩; exact ⟨x, fun w hw' => by have := hx w hw'; rwa [rgVal_put hsj a oi.dst v _ _ h1] at this, by rw [← hs]; exact keep x, af _ _ hk⟩
        | ex c => rintro ⟨hx, hk⟩; exact ⟨fun w hw' => by have := hx w hw'; rwa [rgDo_put hsj a oi.dst v _ _ h1] at this, by rw [← hs]; exact keep c, af _ _ hk⟩
        | any S' D' => rintro ⟨hx, hk⟩; simp only [hoj] at hx hk; exact ⟨fun w hw' => by have := hx w hw'; rwa [rgDo_put hsj a oi.dst v _ _ h1] at this, fun x hx' => ⟨by rw [← hs]; exact keep x, af _ _ (hk x hx')⟩⟩
        | exw c D' => rintro ⟨hx, hk⟩; exact ⟨fun w hw' => by have := hx w hw'; rwa [rgDo_put hsj a oi.dst v _ _ h1] at this, by rw [← hs]; exact keep c, af _ _ hk⟩
      · rename_i hwo
        simp only [hwo] at h
        exact ⟨by rw [← hs]; exact keep undef, af _ _ h⟩
    | exw c0 D0 =>
      rw [hs] at h
      simp only [hwj] at h
      have af : ∀ (Φ : World → Prop) x, K (fun w => Φ w ∧ D0 w) ((a.put oi.dst v).put oj.dst x) → After ops (Sp.exw c0 D0) oi v K Φ (a.put oj.dst x) := fun Φ x hk => by
        unfold After; rw [hwi, if_pos hw, ← comm]; exact hk
      split
      · rename_i hwo
        simp only [hwo, if_true] at h
        revert h
        cases X j with
        | fn => rintro ⟨x, hx, hk⟩; exact ⟨x, fun w hw' => by have := hx w hw'; rwa [rgVal_put hsj a oi.dst v _ _ h1] at this, by rw [← hs]; exact keep x, af _ _ hk⟩
        | ex c => rintro ⟨hx, hk⟩; exact ⟨fun w hw' => by have := hx w hw'; rwa [rgDo_put hsj a oi.dst v _ _ h1] at this, by rw [← hs]; exact keep c, af _ _ hk⟩
        | any S' D' => rintro ⟨hx, hk⟩; simp only [hoj] at hx hk; exact ⟨fun w hw' => by have := hx w hw'; rwa [rgDo_put hsj a oi.dst v _ _ h1] at this, fun x hx' => ⟨by rw [← hs]; exact keep x, af _ _ (hK _ _ _ (fun w ⟨⟨p, q⟩, r⟩ => ⟨⟨p, r⟩, q⟩) (hk x hx'))⟩⟩
        | exw c D' => rintro ⟨hx, hk⟩; exact ⟨fun w hw' => by have := hx w hw'; rwa [rgDo_put hsj a oi.dst v _ _ h1] at this, by rw [← hs]; exact keep c, af _ _ (hK _ _ _ (fun w ⟨⟨p, q⟩, r⟩ => ⟨⟨p, r⟩, q⟩) hk)⟩
      · rename_i hwo
        simp only [hwo] at h
        exact ⟨by rw [← hs]; exact keep undef, af _ _ h⟩
  · rw [if_neg hw] at h
    have hw' : Region.wanted oi (yielded ops a.tmps) = false := by simpa using hw
    simp only [hwj] at h
    have af : ∀ Φ x, K Φ ((a.put oi.dst v).put oj.dst x) → After ops spi oi v K Φ (a.put oj.dst x) := fun Φ x hk => by
      unfold After; rw [hwi, if_neg hw, ← comm]; exact hk
    split
    · rename_i hwo
      simp only [hwo, if_true] at h
      revert h
      cases X j with
      | fn => rintro ⟨x, hx, hk⟩; exact ⟨x, fun w hw' => by have := hx w hw'; rwa [rgVal_put hsj a oi.dst v _ _ h1] at this, keep x, af _ _ hk⟩
      | ex c => rintro ⟨hx, hk⟩; exact ⟨fun w hw' => by have := hx w hw'; rwa [rgDo_put hsj a oi.dst v _ _ h1] at this, keep c, af _ _ hk⟩
      | any S' D' => rintro ⟨hx, hk⟩; simp only [hoj] at hx hk; exact ⟨fun w hw' => by have := hx w hw'; rwa [rgDo_put hsj a oi.dst v _ _ h1] at this, fun x hx' => ⟨keep x, af _ _ (hk x hx')⟩⟩
      | exw c D' => rintro ⟨hx, hk⟩; exact ⟨fun w hw' => by have := hx w hw'; rwa [rgDo_put hsj a oi.dst v _ _ h1] at this, keep c, af _ _ hk⟩
    · rename_i hwo
      simp only [hwo] at h
      exact ⟨keep undef, af _ _ h⟩

theorem after_mono {sp : Sp} {o : Oper} {v : Value} {a : Act} {K K' : (World → Prop) → Act → Prop} {Φ : World → Prop} (h : ∀ Φ a, K Φ a → K' Φ a) (hh : After ops sp o v K Φ a) : After ops sp o v K' Φ a := by
  unfold After at *
  split
  · rename_i hw
    rw [if_pos hw] at hh
    cases sp with
    | any S D => exact fun u hu => h _ _ (hh u hu)
    | fn => exact h _ _ hh
    | ex c => exact h _ _ hh
    | exw c D => exact h _ _ hh
  · rename_i hw
    rw [if_neg hw] at hh
    exact h _ _ hh
/-- 'After' at some value. -/
theorem after_some {sp : Sp} {o : Oper} {v : Value} {a : Act} {K : (World → Prop) → Act → Prop} {Φ : World → Prop} (hh : After ops sp o v K Φ a) : ∃ Φ' u, K Φ' (a.put o.dst u) := by
  unfold After at hh
  split at hh
  · cases sp with
    | any S D => exact ⟨_, _, hh _ S.2.choose_spec⟩
    | fn => exact ⟨_, v, hh⟩
    | ex c => exact ⟨_, v, hh⟩
    | exw c D => exact ⟨_, v, hh⟩
  · exact ⟨_, v, hh⟩

/-- An operation that may come now may be taken first. -/
theorem rgAny_first {i : Nat} {oi : Oper} {v : Value} (hr0 : R w0 w0) (hi : ops[i]? = some oi) (hsel : ∀ (j : Nat) (o : Oper) cs b, ops[j]? = some o → o.op ≠ .select cs b)
    (hLc : ∀ l Φ Φ' a, (∀ w, Φ' w → Φ w) → L l Φ a → L l Φ' a) (hin : i < n)
    (hT : ∀ listed, HeadInv md ops n listed → listed.getD i true = false → ∀ j ∈ Region.ready md ops listed, j < n)
    (hdone : ∀ listed Φ a, L listed Φ a → ∀ j ∈ Region.ready md ops listed, n ≤ j) :
    ∀ (f : Nat) (listed : Array Bool) (Φ : World → Prop) (a : Act), HeadInv md ops n listed →
      (∀ j oj, ops[j]? = some oj → j ≠ i → listed.getD j true = false → (∀ e ∈ oj.after, Region.binds md e = true → e.on ≠ i) → oi.apart ops oj = true) →
      i ∈ Region.ready md ops listed → Does F N P ops R w0 (X i) oi v a →
      After ops (X i) oi v (rgAny F N P ops R w0 md X n L f (listed.setIfInBounds i true)) Φ a → rgAny F N P ops R w0 md X n L (f + 1) listed Φ a := by
  intro f
  induction f with
  | zero =>
    intro listed Φ a inv _ hr hy H
    have hun := (mem_ready.1 hr).1
    refine ⟨fun h => (by rw [h] at hr; cases hr), fun j hj => ?_⟩
    have hjn := hT listed inv hun j hj
    refine ⟨hjn, ?_⟩
    by_cases hji : j = i
    · subst hji; exact rgOp_of_does hi hy H
    · obtain ⟨Φ', u, hl⟩ := after_some H
      have := hdone _ _ _ hl j (ready_mono hj hji)
      omega
  | succ f ih =>
    intro listed Φ a inv hfree hr hy H
    have hun := (mem_ready.1 hr).1
    refine ⟨fun h => (by rw [h] at hr; cases hr), fun j hj => ?_⟩
    have hjn := hT listed inv hun j hj
    refine ⟨hjn, ?_⟩
    by_cases hji : j = i
    · subst hji; exact rgOp_of_does hi hy H
    · obtain ⟨hjun, oj, hoj, hall⟩ := mem_ready.1 hj
      have hnot : ∀ e ∈ oj.after, Region.binds md e = true → e.on ≠ i := fun e he hb heq => by
        have h1 := hall e he hb
        rw [heq, getD_both hun] at h1
        cases h1
      have H' : After ops (X i) oi v (rgOp F N P ops R w0 X j (rgAny F N P ops R w0 md X n L f ((listed.setIfInBounds i true).setIfInBounds j true))) Φ a :=
        after_mono (fun Φ a h => (h.2 j (ready_mono hj hji)).2) H
      have h2 := rgOp_put hr0 hoj (hfree j oj hoj hji hjun hnot) (fun cs b => hsel i oi cs b hi) (fun cs b => hsel j oj cs b hoj)
        hy H' (fun Φ Φ' a hh hk => rgAny_congr f _ _ _ _ hLc hh hk)
      have hfree' : ∀ k ok, ops[k]? = some ok → k ≠ i → (listed.setIfInBounds j true).getD k true = false →
          (∀ e ∈ ok.after, Region.binds md e = true → e.on ≠ i) → oi.apart ops ok = true := fun k ok hk hki hun hno => by
        refine hfree k ok hk hki ?_ hno
        by_cases hjk : j = k
        · subst hjk; exact hjun
        · rw [getD_set_ne true hjk] at hun; exact hun
      refine rgOp_mono (fun Φ' a' h3 => ih (listed.setIfInBounds j true) Φ' a' (inv.set hj hjn) hfree' (ready_mono hr (Ne.symm hji)) h3.1 ?_) h2
      rw [Array.setIfInBounds_comm _ _ hji]
      exact h3.2

theorem wpRg_congr {Q : (World → Prop) → Act → Prop} (hQ : ∀ Φ Φ' a, (∀ w, Φ' w → Φ w) → Q Φ a → Q Φ' a) : ∀ (l : List Oper) (k : Nat) (Φ Φ' : World → Prop) (a : Act), (∀ w, Φ' w → Φ w) → wpRg F N P ops R w0 X Q l k Φ a → wpRg F N P ops R w0 X Q l k Φ' a
  | [], _, _, _, _, h, hh => hQ _ _ _ h hh
  | o :: l, k, Φ, Φ', a, h, hh => by
    unfold wpRg rgOper at *
    split
    · rename_i hw
      rw [if_pos hw] at hh
      revert hh
      cases X k with
      | fn => rintro ⟨v, h3, h4⟩; exact ⟨v, h3, wpRg_congr hQ l _ _ _ _ h h4⟩
      | ex u => rintro ⟨h3, h4⟩; exact ⟨h3, wpRg_congr hQ l _ _ _ _ h h4⟩
      | any S D => rintro ⟨h3, h4⟩; exact ⟨h3, fun v hv => wpRg_congr hQ l _ _ _ _ (fun w ⟨x, y⟩ => ⟨h w x, y⟩) (h4 v hv)⟩
      | exw u D => rintro ⟨h3, h4⟩; exact ⟨h3, wpRg_congr hQ l _ _ _ _ (fun w ⟨x, y⟩ => ⟨h w x, y⟩) h4⟩
    · rename_i hw
      rw [if_neg hw] at hh
      exact wpRg_congr hQ l _ _ _ _ h hh

theorem rgAny_lex (hr0 : R w0 w0) {Q : (World → Prop) → Act → Prop} (hQ : ∀ Φ Φ' a, (∀ w, Φ' w → Φ w) → Q Φ a → Q Φ' a) {T : Array Bool → Bool} (hsel : Region.noSelect ops = true)
    (hT : ∀ i, i < n → ∀ listed, HeadInv md ops n listed → listed.getD i true = false → ∀ j ∈ Region.ready md ops listed, j < n)
    (hdone : ∀ listed, T listed = true → ∀ j ∈ Region.ready md ops listed, n ≤ j)
    (lexH : Nat → Nat → Array Bool → Bool) (hlex0 : ∀ listed, lexH 0 n listed = true → T listed = true)
    (hlexs : ∀ f k listed, lexH (f + 1) k listed = true → (Region.ready md ops listed).contains k = true ∧ Region.free md ops listed k = true ∧ lexH f (k + 1) (listed.setIfInBounds k true) = true) :
    ∀ (l : List Oper) (k : Nat) (listed : Array Bool) (Φ : World → Prop) (a : Act), (∀ j, j < l.length → l[j]? = ops[k + j]?) → k + l.length = n → HeadInv md ops n listed →
    lexH l.length k listed = true → wpRg F N P ops R w0 X Q l k Φ a →
    rgAny F N P ops R w0 md X n (fun listed' Φ' a' => T listed' = true ∧ Q Φ' a') l.length listed Φ a
  | [], k, listed, Φ, a, _, hk, _, hB, h => by
    have : k = n := by simpa using hk
    subst this
    exact ⟨hlex0 _ hB, h⟩
  | o :: l, k, listed, Φ, a, hl, hk, inv, hB, h => by
    have h0 : ops[k]? = some o := by simpa using (hl 0 (by simp)).symm
    obtain ⟨hr, hf, hB'⟩ := hlexs _ _ _ hB
    have hkn : k < n := by simp only [List.length_cons] at hk; omega
    have hr' : k ∈ Region.ready md ops listed := by simpa using hr
    obtain ⟨v, hy, hK⟩ := does_of_rgOper h
    exact rgAny_first hr0 h0 (Region.noSelect_spec hsel) (fun _ _ _ _ hh ⟨x, y⟩ => ⟨x, hQ _ _ _ hh y⟩) hkn (hT k hkn) (fun listed' _ a' hL => hdone _ hL.1) l.length listed Φ a inv (Region.free_spec h0 hf) hr' hy
      (after_mono (fun Φ a hh => rgAny_lex hr0 hQ hsel hT hdone lexH hlex0 hlexs l (k + 1) _ Φ a (fun j hj => by have := hl (j + 1) (by simp; omega); simpa [Nat.add_assoc, Nat.add_comm 1 j] using this) (by simp only [List.length_cons] at hk; omega) (inv.set hr' hkn) hB' hh) hK)

theorem wpAnyIn_of_seq {Q' : Exit → Act → World → Prop} : ∀ (l : List Oper) (k : Nat) (listed : Array Bool) (a : Act) (w : World), (∀ j, l[j]? = ops[k + j]?) →
    Region.seqB md ops l.length k listed = true → wpListIn F N P ops Q' l a w → wpAnyIn F N P md ops Q' l.length listed a w
  | [], _, _, _, _, _, hB, h => ⟨by simpa [Region.seqB] using hB, h⟩
  | o :: l, k, listed, a, w, hl, hB, h => by
    have h0 : ops[k]? = some o := by simpa using (hl 0).symm
    simp only [List.length_cons, Region.seqB, Bool.and_eq_true, decide_eq_true_eq] at hB
    refine ⟨fun h1 => (by rw [hB.1] at h1; cases h1), fun i hi => ?_⟩
    rw [hB.1] at hi
    have hik : i = k := by simpa using hi
    subst hik
    have hw : wpOpIn F N P ops Q' i (wpListIn F N P ops Q' l) a w := by unfold wpOpIn; simp only [h0]; exact h
    exact wpOpIn_mono (fun a' w' h' => wpAnyIn_of_seq l (i + 1) _ a' w' (fun j => by have := hl (j + 1); simpa [Nat.add_assoc, Nat.add_comm 1 j] using this) hB.2 h') hw

/-- What is asked where the head has been walked. -/
def rgEnd (R : World → World → Prop) (w0 : World) (K : Act → World → Prop) (Φ : World → Prop) (a : Act) : Prop := ∀ w, R w0 w → Φ w → K a w
theorem rgEnd_congr {K : Act → World → Prop} (Φ Φ' : World → Prop) (a : Act) (h : ∀ w, Φ' w → Φ w) (hh : rgEnd R w0 K Φ a) : rgEnd R w0 K Φ' a := fun w hr hp => hh w hr (h w hp)

theorem head_inv (l : List Oper) : HeadInv md l.toArray n (Array.replicate l.toArray.size false) :=
  ⟨by simp, fun j oj _ hl => (by rw [getD_replicate_false] at hl; cases hl), fun t _ ht => getD_in (by simpa using ht) (getD_replicate_false _ _)⟩

/-- **A region that draws its order, all of whose operations keep R: walked once, in the order of the text.** -/
theorem wpIn_region_rg {id : Nat} {Q : Exit → Act → World → Prop} {a : Act} {w : World} {l : List Oper} (R : World → World → Prop) (X : Nat → Sp) (hm : P.follows .mixedOrders = true)
    (hF : ∀ f, F.fn f) (hB : Region.lexB .any l.toArray = true) (hrr : ∀ w, R w w) (hrt : ∀ a b c : World, R a b → R b c → R a c)
    (hst : ∀ i, SpStable R (X i))
    (h : Rgw (wpRg F N P l.toArray R w.drew X (rgEnd R w.drew (Q .normal)) l 0 (fun _ => True) a)) : (Code.region id l.toArray true).wpIn F N P Q a w := by
  replace h := h.out
  simp only [Region.lexB, Bool.and_eq_true] at hB
  refine wpIn_region_any hm ?_
  have H := rgAny_lex (F := F) (N := N) (P := P) (ops := l.toArray) (n := l.length) (X := X) (md := .any) (hrr w.drew) (fun Φ Φ' a => rgEnd_congr Φ Φ' a) (T := fun listed => (Region.ready .any l.toArray listed).isEmpty) hB.1
    (fun i _ listed _ _ j hj => by obtain ⟨_, o, ho, _⟩ := mem_ready.1 hj; have := (Array.getElem?_eq_some_iff.1 ho).1; simpa using this)
    (fun listed ht j hj => by simp only [List.isEmpty_iff] at ht; rw [ht] at hj; cases hj)
    (fun f k listed => Region.lexFrom .any l.toArray f k listed) (fun listed h => by simpa [Region.lexFrom] using h)
    (fun f k listed h => by simpa [Region.lexFrom, Bool.and_eq_true, and_assoc] using h)
    l 0 (Array.replicate l.toArray.size false) _ a (fun j _ => by simp) (by simp) (head_inv l) (by simpa using hB.2) h
  have := wpAnyIn_of_rg (g := 0) (Q := Q) (w0 := w.drew) (L := fun listed Φ' a' => (Region.ready .any l.toArray listed).isEmpty = true ∧ rgEnd R w.drew (Q .normal) Φ' a') hF hrt hst (fun listed Φ a w hL hr hp => ⟨by simpa using hL.1, hL.2 w hr hp⟩) _ _ _ _ w.drew (fun _ _ _ _ => trivial) (hrr _) trivial H
  simpa using this

/-- The same, with a tail that comes in one order alone, walked as any list. -/
theorem wpIn_region_rg_tail {id : Nat} {Q : Exit → Act → World → Prop} {a : Act} {w : World} {l : List Oper} (n : Nat) (R : World → World → Prop) (X : Nat → Sp) (hm : P.follows .mixedOrders = true)
    (hF : ∀ f, F.fn f) (hB : Region.lexTailB .any l.toArray n = true) (hrr : ∀ w, R w w) (hrt : ∀ a b c : World, R a b → R b c → R a c)
    (hst : ∀ i, SpStable R (X i))
    (h : Rgw (wpRg F N P l.toArray R w.drew X (rgEnd R w.drew (wpListIn F N P l.toArray Q (l.drop n))) (l.take n) 0 (fun _ => True) a)) : (Code.region id l.toArray true).wpIn F N P Q a w := by
  replace h := h.out
  simp only [Region.lexTailB, Bool.and_eq_true, decide_eq_true_eq] at hB
  obtain ⟨⟨⟨⟨hsel, hn⟩, hs⟩, hc⟩, hlex⟩ := hB
  have hn' : n < l.length := by simpa using hn
  have htl : (l.take n).length = n := by simp; omega
  have hdl : (l.drop n).length = l.toArray.size - n := by simp
  refine wpIn_region_any hm ?_
  have H := rgAny_lex (F := F) (N := N) (P := P) (ops := l.toArray) (n := n) (X := X) (md := .any) (hrr w.drew) (fun Φ Φ' a => rgEnd_congr Φ Φ' a) (T := fun listed => Region.seqB .any l.toArray (l.toArray.size - n) n listed) hsel
    (fun i hi listed inv hun j hj => by
      rcases Nat.lt_or_ge j n with h | h
      · exact h
      · exact absurd hj (tail_waits hs hc hn inv _ i rfl hi hun j h))
    (fun listed ht j hj => seqB_ready ht j hj)
    (fun f k listed => Region.lexHead .any l.toArray (l.toArray.size - n) f k listed) (fun listed h => by simpa [Region.lexHead] using h)
    (fun f k listed h => by simpa [Region.lexHead, Bool.and_eq_true, and_assoc] using h)
    (l.take n) 0 (Array.replicate l.toArray.size false) _ a (fun j hj => by
      have hj' : j < n := by rw [htl] at hj; exact hj
      simp [hj']) (by simpa using htl) (head_inv l) (by rw [htl]; exact hlex) h
  have := wpAnyIn_of_rg (g := l.toArray.size - n) (Q := Q) (w0 := w.drew) (ops := l.toArray) (L := fun listed Φ' a' => Region.seqB .any l.toArray (l.toArray.size - n) n listed = true ∧ rgEnd R w.drew (wpListIn F N P l.toArray Q (l.drop n)) Φ' a') hF hrt hst (fun listed Φ a w hL hr hp => by
    have := wpAnyIn_of_seq (F := F) (N := N) (P := P) (md := .any) (Q' := Q) (l.drop n) n listed a w (fun j => by simp [List.getElem?_drop]) (by rw [hdl]; exact hL.1) (hL.2 w hr hp)
    rwa [hdl] at this) _ _ _ _ w.drew (fun _ _ _ _ => trivial) (hrr _) trivial H
  rw [htl] at this
  rw [show n + (l.toArray.size - n) = l.toArray.size by omega] at this
  exact this

/-! ### Plain walks (no fence) -/
theorem wp_of_rgOper (hrt : ∀ a b c : World, R a b → R b c → R a c) {sp : Sp} (hst : SpStable R sp) {o : Oper}
    {K : (World → Prop) → Act → Prop} {K' : Act → World → Prop} {Q : Exit → Act → World → Prop} {Φ : World → Prop} {a : Act} {w : World}
    (hΦ : ∀ w w', R w w' → Φ w → Φ w') (hw0 : R w0 w) (hp : Φ w)
    (h : ∀ Φ' a' w', (∀ w w', R w w' → Φ' w → Φ' w') → R w0 w' → Φ' w' → K Φ' a' → K' a' w') (hh : rgOper Fence.wide 0 P ops R w0 sp o K Φ a) :
    if Region.wanted o (yielded ops a.tmps) then o.wp P a w K' Q ∨ (o.asks P a w ∧ LetsOut Q) else K' (a.put o.dst undef) w := by
  have H := wpIn_of_rgOper (Q := Q) (fun _ => trivial) hrt hst hΦ hw0 hp h hh
  split
  · rename_i hw
    rw [if_pos hw] at H
    refine .inl ?_
    have H2 := H.2
    unfold Oper.wp
    rw [show Oper.semAt Fence.wide.round a.eval o = execOp a.eval o from rfl] at H2
    unfold rgOper at hh
    rw [if_pos hw] at hh
    have nr : (∀ row args w', (execOp a.eval o).run P w ≠ .ok (.row row args) w') ∧ (∀ l f t x b w', (execOp a.eval o).run P w ≠ .ok (.round l f t x b) w') := by
      have aux : ∀ D, rgDo Fence.wide 0 P R o a D w → (∀ row args w', (execOp a.eval o).run P w ≠ .ok (.row row args) w') ∧ (∀ l f t x b w', (execOp a.eval o).run P w ≠ .ok (.round l f t x b) w') := by
        intro D hd
        refine ⟨fun row args w' e => ?_, fun l f t x b w' e => ?_⟩ <;>
        · unfold rgDo at hd
          rw [show Oper.semAt Fence.wide.round a.eval o = execOp a.eval o from rfl, e] at hd
          exact hd.elim
      cases sp with
      | fn =>
        obtain ⟨v, h1, _⟩ := hh
        have h3 := h1 w hw0
        refine ⟨fun row args w' e => ?_, fun l f t x b w' e => ?_⟩ <;>
        · unfold rgVal at h3
          rw [show Oper.semAt Fence.wide.round a.eval o = execOp a.eval o from rfl, e] at h3
          exact h3.elim
      | ex v => exact aux _ (hh.1 w hw0)
      | any S D => exact aux _ (hh.1 w hw0)
      | exw v D => exact aux _ (hh.1 w hw0)
    revert H2 nr
    generalize (execOp a.eval o).run P w = r
    intro H2 nr
    cases r with
    | ok x w' =>
      cases x <;> simp only [Oper.uponIn, Oper.upon] at H2 ⊢ <;> first | exact H2 | exact callsIn_wide.1 H2.2 | exact absurd rfl (nr.1 _ _ _) | exact absurd rfl (nr.2 _ _ _ _ _ _)
    | halt x w' => cases x <;> simp only [Oper.uponIn, Oper.upon] at H2 ⊢ <;> exact H2
  · rename_i hw
    rw [if_neg hw] at H
    exact H.2

theorem wpAny_of_rg (hrt : ∀ a b c : World, R a b → R b c → R a c) (hst : ∀ i, SpStable R (X i))
    {Q : Exit → Act → World → Prop} {g : Nat}
    (hL : ∀ listed Φ a w, L listed Φ a → R w0 w → Φ w → wpAny P md ops Q g listed a w) :
    ∀ (f : Nat) (listed : Array Bool) (Φ : World → Prop) (a : Act) (w : World), (∀ w w', R w w' → Φ w → Φ w') → R w0 w → Φ w →
      rgAny Fence.wide 0 P ops R w0 md X n L f listed Φ a → wpAny P md ops Q (f + g) listed a w
  | 0, listed, Φ, a, w, hΦ, hw, hp, h => by rw [Nat.zero_add]; exact hL _ _ _ _ h hw hp
  | f + 1, listed, Φ, a, w, hΦ, hw, hp, h => by
    rw [show f + 1 + g = (f + g) + 1 by omega]
    refine ⟨fun h0 => absurd h0 h.1, fun i hi => ?_⟩
    have h2 := (h.2 i hi).2
    unfold rgOp at h2
    unfold wpOp
    split
    · rename_i ho; simp only [ho] at h2; exact wpAny_of_rg hrt hst hL f _ _ _ _ hΦ hw hp h2
    · rename_i o ho
      simp only [ho] at h2
      exact wp_of_rgOper hrt (hst i) hΦ hw hp (fun Φ' a' w' hΦ' hw' hp' h' => wpAny_of_rg hrt hst hL f _ Φ' a' w' hΦ' hw' hp' h') h2

theorem wp_region_rg {id : Nat} {Q : Exit → Act → World → Prop} {a : Act} {w : World} {l : List Oper} (R : World → World → Prop) (X : Nat → Sp) (hm : P.follows .mixedOrders = true)
    (hB : Region.lexB .any l.toArray = true) (hrr : ∀ w, R w w) (hrt : ∀ a b c : World, R a b → R b c → R a c)
    (hst : ∀ i, SpStable R (X i))
    (h : Rgw (wpRg Fence.wide 0 P l.toArray R w.drew X (rgEnd R w.drew (Q .normal)) l 0 (fun _ => True) a)) : (Code.region id l.toArray true).wp P Q a w := by
  replace h := h.out
  simp only [Region.lexB, Bool.and_eq_true] at hB
  refine wp_region_any hm ?_
  have H := rgAny_lex (F := Fence.wide) (N := 0) (P := P) (ops := l.toArray) (n := l.length) (X := X) (md := .any) (hrr w.drew) (fun Φ Φ' a => rgEnd_congr Φ Φ' a) (T := fun listed => (Region.ready .any l.toArray listed).isEmpty) hB.1
    (fun i _ listed _ _ j hj => by obtain ⟨_, o, ho, _⟩ := mem_ready.1 hj; have := (Array.getElem?_eq_some_iff.1 ho).1; simpa using this)
    (fun listed ht j hj => by simp only [List.isEmpty_iff] at ht; rw [ht] at hj; cases hj)
    (fun f k listed => Region.lexFrom .any l.toArray f k listed) (fun listed h => by simpa [Region.lexFrom] using h)
    (fun f k listed h => by simpa [Region.lexFrom, Bool.and_eq_true, and_assoc] using h)
    l 0 (Array.replicate l.toArray.size false) _ a (fun j _ => by simp) (by simp) (head_inv l) (by simpa using hB.2) h
  have := wpAny_of_rg (g := 0) (Q := Q) (w0 := w.drew) (L := fun listed Φ' a' => (Region.ready .any l.toArray listed).isEmpty = true ∧ rgEnd R w.drew (Q .normal) Φ' a') hrt hst (fun listed Φ a w hL hr hp => ⟨by simpa using hL.1, hL.2 w hr hp⟩) _ _ _ _ w.drew (fun _ _ _ _ => trivial) (hrr _) trivial H
  simpa using this

theorem wp_region_rg_tail {id : Nat} {Q : Exit → Act → World → Prop} {a : Act} {w : World} {l : List Oper} (n : Nat) (R : World → World → Prop) (X : Nat → Sp) (hm : P.follows .mixedOrders = true)
    (hB : Region.lexTailB .any l.toArray n = true) (hrr : ∀ w, R w w) (hrt : ∀ a b c : World, R a b → R b c → R a c)
    (hst : ∀ i, SpStable R (X i))
    (h : Rgw (wpRg Fence.wide 0 P l.toArray R w.drew X (rgEnd R w.drew (wpList P l.toArray Q (l.drop n))) (l.take n) 0 (fun _ => True) a)) : (Code.region id l.toArray true).wp P Q a w := by
  replace h := h.out
  simp only [Region.lexTailB, Bool.and_eq_true, decide_eq_true_eq] at hB
  obtain ⟨⟨⟨⟨hsel, hn⟩, hs⟩, hc⟩, hlex⟩ := hB
  have hn' : n < l.length := by simpa using hn
  have htl : (l.take n).length = n := by simp; omega
  have hdl : (l.drop n).length = l.toArray.size - n := by simp
  refine wp_region_any hm ?_
  have H := rgAny_lex (F := Fence.wide) (N := 0) (P := P) (ops := l.toArray) (n := n) (X := X) (md := .any) (hrr w.drew) (fun Φ Φ' a => rgEnd_congr Φ Φ' a) (T := fun listed => Region.seqB .any l.toArray (l.toArray.size - n) n listed) hsel
    (fun i hi listed inv hun j hj => by
      rcases Nat.lt_or_ge j n with h | h
      · exact h
      · exact absurd hj (tail_waits hs hc hn inv _ i rfl hi hun j h))
    (fun listed ht j hj => seqB_ready ht j hj)
    (fun f k listed => Region.lexHead .any l.toArray (l.toArray.size - n) f k listed) (fun listed h => by simpa [Region.lexHead] using h)
    (fun f k listed h => by simpa [Region.lexHead, Bool.and_eq_true, and_assoc] using h)
    (l.take n) 0 (Array.replicate l.toArray.size false) _ a (fun j hj => by
      have hj' : j < n := by rw [htl] at hj; exact hj
      simp [hj']) (by simpa using htl) (head_inv l) (by rw [htl]; exact hlex) h
  have := wpAny_of_rg (g := l.toArray.size - n) (Q := Q) (w0 := w.drew) (ops := l.toArray) (L := fun listed Φ' a' => Region.seqB .any l.toArray (l.toArray.size - n) n listed = true ∧ rgEnd R w.drew (wpList P l.toArray Q (l.drop n)) Φ' a') hrt hst (fun listed Φ a w hL hr hp => by
    have := wpAny_of_seq (P := P) (md := .any) (Q' := Q) (l.drop n) n listed a w (fun j => by simp [List.getElem?_drop]) (by rw [hdl]; exact hL.1) (hL.2 w hr hp)
    rwa [hdl] at this) _ _ _ _ w.drew (fun _ _ _ _ => trivial) (hrr _) trivial H
  rw [htl] at this
  rw [show n + (l.toArray.size - n) = l.toArray.size by omega] at this
  exact this

/-! ### One operation of the walk -/
/-- The fences in which plain contracts serve. -/
def Open (F : Fence) : Prop := F = Fence.wide ∨ ∃ l, F = Fence.wide.inRound l
theorem Open.calls {F : Fence} (h : Open F) {N : Nat} {f : FuncId} {args : Array Value} {w : World} {T : Ending → World → Prop} (hc : Calls P f args w T) : CallsIn F N P f args w T := by
  rcases h with rfl | ⟨l, rfl⟩
  · exact callsIn_wide.2 hc
  · exact CallsIn.inRound l (callsIn_wide.2 hc)
theorem Open.fn {F : Fence} (h : Open F) : ∀ f, F.fn f := by rcases h with rfl | ⟨l, rfl⟩ <;> exact fun _ => trivial
theorem Open.depth {F : Fence} (h : Open F) : F.depth = none := by rcases h with rfl | ⟨l, rfl⟩ <;> rfl
theorem rg_step {o : Oper} {rest : List Oper} {k : Nat} {Φ : World → Prop} {a : Act} {Q : (World → Prop) → Act → Prop}
    (h : ∀ K : (World → Prop) → Act → Prop, (∀ Φ a, Rgw (wpRg F N P ops R w0 X Q rest (k + 1) Φ a) → K Φ a) → rgOper F N P ops R w0 (X k) o K Φ a) : Rgw (wpRg F N P ops R w0 X Q (o :: rest) k Φ a) :=
  ⟨h _ (fun _ _ h => h.out)⟩
theorem rg_nil {k : Nat} {Φ : World → Prop} {a : Act} {K : Act → World → Prop} (h : ∀ w, R w0 w → Φ w → K a w) : Rgw (wpRg F N P ops R w0 X (rgEnd R w0 K) [] k Φ a) := ⟨h⟩
theorem rg_skip {sp : Sp} {o : Oper} {K : (World → Prop) → Act → Prop} {Φ : World → Prop} {a : Act} (hw : Region.wanted o (yielded ops a.tmps) = false) (h : K Φ (a.put o.dst undef)) : rgOper F N P ops R w0 sp o K Φ a := by
  unfold rgOper; rw [if_neg (by simp [hw])]; exact h
theorem rg_fn {o : Oper} {K : (World → Prop) → Act → Prop} {Φ : World → Prop} {a : Act} {v : Value} (hw : Region.wanted o (yielded ops a.tmps) = true)
    (hv : ∀ w, R w0 w → (o.semAt F.round a.eval).run P w = .ok (.value v) w) (h : K Φ (a.put o.dst v)) : rgOper F N P ops R w0 .fn o K Φ a := by
  unfold rgOper; rw [if_pos hw]
  exact ⟨v, fun w hr => by unfold rgVal; rw [hv w hr]; exact ⟨rfl, rfl⟩, h⟩
theorem rg_call {o : Oper} {K : (World → Prop) → Act → Prop} {Φ : World → Prop} {a : Act} {v : Value} {f : FuncId} {args : Array Value} (hO : Open F) (hw : Region.wanted o (yielded ops a.tmps) = true)
    (hv : ∀ w, R w0 w → (o.semAt F.round a.eval).run P w = .ok (.enter f args) w) (hc : ∀ w, R w0 w → Calls P f args w fun e w' => e = .returned v ∧ R w w') (h : K Φ (a.put o.dst v)) : rgOper F N P ops R w0 (.ex v) o K Φ a := by
  unfold rgOper; rw [if_pos hw]
  exact ⟨fun w hr => by
    unfold rgDo; rw [hv w hr]
    exact ⟨fun h => by rw [hO.depth] at h; simp at h, hO.calls ((hc w hr).mono fun e w' ⟨he, hr'⟩ => ⟨v, he, hr', rfl⟩)⟩, h⟩
theorem rg_call_any {o : Oper} {K : (World → Prop) → Act → Prop} {Φ : World → Prop} {a : Act} {S : { S : Value → Prop // ∃ u, S u }} {D : List Value → Value → World → Prop} {f : FuncId} {args : Array Value} (hO : Open F) (hw : Region.wanted o (yielded ops a.tmps) = true)
    (hv : ∀ w, R w0 w → (o.semAt F.round a.eval).run P w = .ok (.enter f args) w) (hc : ∀ w, R w0 w → Calls P f args w fun e w' => ∃ v, e = .returned v ∧ R w w' ∧ S.1 v ∧ D (opv o a) v w')
    (h : ∀ v, S.1 v → K (fun w => Φ w ∧ D (opv o a) v w) (a.put o.dst v)) : rgOper F N P ops R w0 (.any S D) o K Φ a := by
  unfold rgOper; rw [if_pos hw]
  exact ⟨fun w hr => by
    unfold rgDo; rw [hv w hr]
    exact ⟨fun h => by rw [hO.depth] at h; simp at h, hO.calls (hc w hr)⟩, h⟩
theorem rg_exw {o : Oper} {K : (World → Prop) → Act → Prop} {Φ : World → Prop} {a : Act} {v : Value} {D : World → Prop} (hw : Region.wanted o (yielded ops a.tmps) = true)
    (hv : ∀ w, R w0 w → ∃ w', (o.semAt F.round a.eval).run P w = .ok (.value v) w' ∧ R w w' ∧ D w')
    (h : K (fun w => Φ w ∧ D w) (a.put o.dst v)) : rgOper F N P ops R w0 (.exw v D) o K Φ a := by
  unfold rgOper; rw [if_pos hw]
  exact ⟨fun w hr => by
    unfold rgDo; obtain ⟨w', e, h1, h2⟩ := hv w hr; rw [e]
    exact ⟨h1, rfl, h2⟩, h⟩
theorem rg_call_exw {o : Oper} {K : (World → Prop) → Act → Prop} {Φ : World → Prop} {a : Act} {v : Value} {D : World → Prop} {f : FuncId} {args : Array Value} (hO : Open F) (hw : Region.wanted o (yielded ops a.tmps) = true)
    (hv : ∀ w, R w0 w → (o.semAt F.round a.eval).run P w = .ok (.enter f args) w) (hc : ∀ w, R w0 w → Calls P f args w fun e w' => e = .returned v ∧ R w w' ∧ D w') (h : K (fun w => Φ w ∧ D w) (a.put o.dst v)) : rgOper F N P ops R w0 (.exw v D) o K Φ a := by
  unfold rgOper; rw [if_pos hw]
  exact ⟨fun w hr => by
    unfold rgDo; rw [hv w hr]
    exact ⟨fun h => by rw [hO.depth] at h; simp at h, hO.calls ((hc w hr).mono fun e w' ⟨he, hr', hd⟩ => ⟨v, he, hr', rfl, hd⟩)⟩, h⟩
theorem rg_any {o : Oper} {K : (World → Prop) → Act → Prop} {Φ : World → Prop} {a : Act} {S : { S : Value → Prop // ∃ u, S u }} {D : List Value → Value → World → Prop} (hw : Region.wanted o (yielded ops a.tmps) = true)
    (hv : ∀ w, R w0 w → ∃ v w', (o.semAt F.round a.eval).run P w = .ok (.value v) w' ∧ R w w' ∧ S.1 v ∧ D (opv o a) v w')
    (h : ∀ v, S.1 v → K (fun w => Φ w ∧ D (opv o a) v w) (a.put o.dst v)) : rgOper F N P ops R w0 (.any S D) o K Φ a := by
  unfold rgOper; rw [if_pos hw]
  exact ⟨fun w hr => by
    unfold rgDo; obtain ⟨v, w', e, h1, h2⟩ := hv w hr; rw [e]
    exact ⟨h1, h2⟩, h⟩
end
end Go.Proofs.Ytnbnhcoaggpmaaa
