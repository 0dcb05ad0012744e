/- Drawn regions: an operation that only reads the frame, and may come behind the region's last store. -/
import Derived.Test.YtnbnhcoaggpmaaaRg

namespace Go.Proofs.Ytnbnhcoaggpmaaa
open Go

/-- Any value; any slice. -/
def anyV : { S : Value → Prop // ∃ u, S u } := ⟨fun _ => True, undef, trivial⟩
def sliceV : { S : Value → Prop // ∃ u, S u } := ⟨fun v => ∃ A n c, v = .slice A n c, .slice none 0 0, none, 0, 0, rfl⟩

section
variable {F : Fence} {n : Nat} {P : Program} {ops : Array Oper} {Q : Exit → Act → World → Prop} {md : Region.Mode}

/-- The operation gives v in whatever world. -/
def YieldsR (F : Fence) (P : Program) (ops : Array Oper) (o : Oper) (v : Value) (a : Act) : Prop :=
  Region.wanted o (yielded ops a.tmps) = true ∧ (∀ w, (o.semAt F.round a.eval).run P w = .ok (.value v) w) ∧ ∀ w, o.about P w a.eval = none
theorem YieldsR.wpOpIn {i : Nat} {o : Oper} {v : Value} {a : Act} (hi : ops[i]? = some o) (hy : YieldsR F P ops o v a) {K : Act → World → Prop} {w : World} (h : K (a.put o.dst v) w) : wpOpIn F n P ops Q i K a w := by
  unfold Go.wpOpIn
  simp only [hi]
  simp only [hy.1, if_true, Oper.wpIn, hy.2.1 w, Oper.uponIn]
  exact ⟨fun f hf => (by rw [hy.2.2 w] at hf; cases hf), h⟩
theorem YieldsR.of_put {o : Oper} {v : Value} {a : Act} (hy : YieldsR F P ops o v a) (hs : ∀ cs b, o.op ≠ .select cs b) (dst : Option Tmp) (u : Value) (h : ∀ d, dst = some d → d ∉ o.looksAt ops) : YieldsR F P ops o v (a.put dst u) :=
  ⟨(wanted_put o a dst u h).trans hy.1, fun w => by rw [sem_put F.round o hs a dst u h]; exact hy.2.1 w, fun w => by rw [about_put o w a dst u h]; exact hy.2.2 w⟩
theorem YieldsR.defers {o : Oper} {v : Value} {a : Act} (hy : YieldsR F P ops o v a) (ds : List Deferred) : YieldsR F P ops o v { a with defers := ds } := hy

theorem wpOpIn_putR {j : Nat} {oi oj : Oper} {v : Value} (hj : ops[j]? = some oj) (hap : oi.apart ops oj = true)
    (hsi : ∀ cs b, oi.op ≠ .select cs b) (hsj : ∀ cs b, oj.op ≠ .select cs b)
    (hQ : ∀ c a w, Q (.panic c) (a.put oi.dst v) w → Q (.panic c) a w) {K : Act → World → Prop} {a : Act} {w : World}
    (hy : YieldsR F P ops oi v a) (h : wpOpIn F n P ops Q j K (a.put oi.dst v) w) :
    wpOpIn F n P ops Q j (fun a' w' => YieldsR F P ops oi v a' ∧ K (a'.put oi.dst v) w') a w := by
  obtain ⟨h1, h2, h3⟩ := Oper.apart_spec hap
  have keep : ∀ (a : Act), YieldsR F P ops oi v a → ∀ u, YieldsR F P ops oi v (a.put oj.dst u) := fun a hy u => hy.of_put hsi oj.dst u h3
  unfold wpOpIn at *
  simp only [hj] at *
  rw [wanted_put oj a oi.dst v h1, about_put oj w a oi.dst v h1] at h
  split
  · rename_i hw
    simp only [hw, if_true] at h
    unfold Oper.wpIn at *
    rw [about_put oj w a oi.dst v h1] at h
    refine ⟨h.1, ?_⟩
    have h := h.2
    rw [sem_put F.round oj hsj a oi.dst v h1] at h
    generalize (oj.semAt F.round a.eval).run P w = r at *
    cases r with
    | ok x w' =>
      cases x <;> simp only [Oper.uponIn] at h ⊢
      case value u => exact ⟨keep a hy u, by rw [← Act.put_comm a v u h2]; exact h⟩
      case skip => exact ⟨keep a hy _, by rw [← Act.put_comm a v undef h2]; exact h⟩
      case defer d =>
        refine ⟨keep _ (hy.defers _) _, ?_⟩
        rw [← Act.put_comm _ v undef h2, ← Act.put_defers]
        exact h
      case enter f args =>
        refine ⟨h.1, CallsIn.mono h.2 fun e w'' he => ?_⟩
        cases e with
        | returned u => exact ⟨keep a hy u, by rw [← Act.put_comm a v u h2]; exact he⟩
        | panicked c => exact hQ _ _ _ he
        | outgrown => exact he
      case row row args => exact ⟨h.1, RowsIn.mono h.2 fun u w'' he => ⟨keep a hy u, by rw [← Act.put_comm a v u h2]; exact he⟩⟩
      case round l f tmps assign body =>
        refine ⟨h.1, RoundIn.mono h.2 fun e w'' he => ?_⟩
        cases e with
        | returned u => exact ⟨keep a hy u, by rw [← Act.put_comm a v u h2]; exact he⟩
        | panicked c => exact hQ _ _ _ he
        | outgrown => exact he
    | halt x w' =>
      cases x <;> simp only [Oper.uponIn] at h ⊢
      case panic u => exact hQ _ _ _ h
  · rename_i hw
    simp only [hw] at h
    exact ⟨h.1, keep a hy _, by rw [← Act.put_comm a v undef h2]; exact h.2⟩

/-- Such an operation may be taken first. -/
theorem wpAnyIn_firstR {i : Nat} {oi : Oper} {v : Value} (hi : ops[i]? = some oi) (hsel : ∀ (j : Nat) (o : Oper) cs b, ops[j]? = some o → o.op ≠ .select cs b)
    (hQ : ∀ c a w, Q (.panic c) (a.put oi.dst v) w → Q (.panic c) a w)
    (hfree : ∀ j oj, ops[j]? = some oj → j ≠ i → (∀ e ∈ oj.after, Region.binds md e = true → e.on ≠ i) → (∀ e ∈ oi.after, Region.binds md e = true → e.on ≠ j) → oi.apart ops oj = true) :
    ∀ (fuel : Nat) (listed : Array Bool) (a : Act) (w : World), i ∈ Region.ready md ops listed → YieldsR F P ops oi v a →
      wpAnyIn F n P md ops Q fuel (listed.setIfInBounds i true) (a.put oi.dst v) w → wpAnyIn F n P md ops Q (fuel + 1) listed a w := by
  have noton : ∀ (listed : Array Bool) (j : Nat), j ∈ Region.ready md ops listed → i ∈ Region.ready md ops listed → ∀ oj, ops[j]? = some oj → ∀ e ∈ oj.after, Region.binds md e = true → e.on ≠ i := by
    intro listed j hj hr oj hoj e he hb heq
    obtain ⟨_, oj', hoj', hall⟩ := mem_ready.1 hj
    rw [hoj] at hoj'
    cases hoj'
    have h1 := hall e he hb
    have h0 := (mem_ready.1 hr).1
    rw [heq] at h1
    rcases Nat.lt_or_ge i listed.size with h' | h'
    · simp [h'] at h0 h1; rw [h0] at h1; cases h1
    · simp [Array.getElem?_eq_none h'] at h1
  have noton2 : ∀ (listed : Array Bool) (j : Nat), j ∈ Region.ready md ops listed → i ∈ Region.ready md ops listed → ∀ e ∈ oi.after, Region.binds md e = true → e.on ≠ j := by
    intro listed j hj hr e he hb heq
    obtain ⟨_, oi', hoi', hall⟩ := mem_ready.1 hr
    rw [hi] at hoi'
    cases hoi'
    have h1 := hall e he hb
    have h0 := (mem_ready.1 hj).1
    rw [heq] at h1
    rcases Nat.lt_or_ge j listed.size with h' | h'
    · simp [h'] at h0 h1; rw [h0] at h1; cases h1
    · simp [Array.getElem?_eq_none h'] at h1
  intro fuel
  induction fuel with
  | zero =>
    intro listed a w hr hy H
    refine ⟨fun h => (by rw [h] at hr; cases hr), fun j hj => ?_⟩
    by_cases hji : j = i
    · subst hji; exact hy.wpOpIn hi H
    · have := ready_mono hj hji
      rw [H.1] at this
      cases this
  | succ fuel ih =>
    intro listed a w hr hy H
    refine ⟨fun h => (by rw [h] at hr; cases hr), fun j hj => ?_⟩
    by_cases hji : j = i
    · subst hji; exact hy.wpOpIn hi H
    · have h1 := H.2 j (ready_mono hj hji)
      obtain ⟨hjun, oj, hoj, hall⟩ := mem_ready.1 hj
      have h2 := wpOpIn_putR hoj (hfree j oj hoj hji (noton listed j hj hr oj hoj) (noton2 listed j hj hr)) (fun cs b => hsel i oi cs b hi) (fun cs b => hsel j oj cs b hoj) hQ hy h1
      refine wpOpIn_mono (fun a' w' h3 => ih (listed.setIfInBounds j true) a' w' (ready_mono hr (Ne.symm hji)) h3.1 ?_) h2
      rw [Array.setIfInBounds_comm _ _ hji]
      exact h3.2

/-- Operation t, made to wait for q. -/
def lateOp (o : Oper) (q : Nat) : Oper := { o with after := o.after.push ⟨q, .data⟩ }
def lateL (l : List Oper) (t q : Nat) : List Oper := l.modify t (lateOp · q)
def lateB (l : List Oper) (t q : Nat) : Bool :=
  Region.noSelect l.toArray && match l[t]?, l[q]? with
  | some ot, some oq => (t != q) && oq.guard.isNone && (match oq.op with | .extract _ _ => true | .move _ => true | _ => false) &&
      oq.after.toList.all (fun e => !Region.binds .any e || ot.after.toList.any fun e' => Region.binds .any e' && e'.on == e.on) &&
      (List.range l.length).all fun j => j == q || oq.after.toList.any (fun e => Region.binds .any e && e.on == j) || match l[j]? with
        | some oj => oj.after.toList.any (fun e => Region.binds .any e && e.on == q) || oq.apart l.toArray oj
        | none => true
  | _, _ => false
theorem lateL_get (l : List Oper) (t q j : Nat) : (lateL l t q)[j]? = if t = j then (l[j]?).map (lateOp · q) else l[j]? := by
  unfold lateL
  rw [List.getElem?_modify]
  by_cases h : t = j
  · simp [h]
  · simp [h]
theorem yielded_late (l : List Oper) (t q : Nat) : yielded (lateL l t q).toArray = yielded l.toArray := by
  funext tmps j
  unfold yielded
  have : ((lateL l t q).toArray[j]?).bind (·.dst) = (l.toArray[j]?).bind (·.dst) := by
    simp only [List.getElem?_toArray, lateL_get]
    by_cases h : t = j
    · simp only [h, if_true]
      cases l[j]? <;> rfl
    · simp [h]
  rw [this]

theorem wpAnyIn_late {l : List Oper} {t q : Nat} (hB : lateB l t q = true) (hQ : ∀ c a w d v, Q (.panic c) (Act.put a d v) w → Q (.panic c) a w) :
    ∀ (f : Nat) (listed : Array Bool) (a : Act) (w : World), listed.size = l.length → wpAnyIn F n P .any (lateL l t q).toArray Q f listed a w → wpAnyIn F n P .any l.toArray Q f listed a w := by
  unfold lateB at hB
  rw [Bool.and_eq_true] at hB
  obtain ⟨hns, hB⟩ := hB
  have hsel := Region.noSelect_spec hns
  cases hot : l[t]? with
  | none => rw [hot] at hB; simp at hB
  | some ot =>
    cases hoq : l[q]? with
    | none => rw [hot, hoq] at hB; simp at hB
    | some oq =>
      rw [hot, hoq] at hB
      simp only [Bool.and_eq_true, bne_iff_ne, ne_eq] at hB
      obtain ⟨⟨⟨⟨htq, hgd⟩, hex⟩, hdep⟩, hfr⟩ := hB
      have hqa : l.toArray[q]? = some oq := by simpa using hoq
      have hqa' : (lateL l t q).toArray[q]? = some oq := by simp [lateL_get, htq, hoq]
      have hfree : ∀ j oj, l.toArray[j]? = some oj → j ≠ q → (∀ e ∈ oj.after, Region.binds .any e = true → e.on ≠ q) → (∀ e ∈ oq.after, Region.binds .any e = true → e.on ≠ j) → oq.apart l.toArray oj = true := by
        intro j oj hj hne hno hno2
        have hj' : l[j]? = some oj := by simpa using hj
        have hlt := (List.getElem?_eq_some_iff.1 hj').1
        have h := (List.all_eq_true.1 hfr) j (by simpa using hlt)
        rw [hj'] at h
        simp only [Bool.or_eq_true, beq_iff_eq] at h
        rcases h with (h | h) | h | h
        · exact absurd h hne
        · rw [List.any_eq_true] at h
          obtain ⟨e, he, hb⟩ := h
          rw [Bool.and_eq_true, beq_iff_eq] at hb
          exact absurd hb.2 (hno2 e (by simpa using he) hb.1)
        · rw [List.any_eq_true] at h
          obtain ⟨e, he, hb⟩ := h
          rw [Bool.and_eq_true, beq_iff_eq] at hb
          exact absurd hb.2 (hno e (by simpa using he) hb.1)
        · exact h
      have hr1 : ∀ listed j, j ∈ Region.ready .any (lateL l t q).toArray listed → j ∈ Region.ready .any l.toArray listed := by
        intro listed j hj
        rw [mem_ready] at hj ⊢
        obtain ⟨h0, o, ho, hall⟩ := hj
        refine ⟨h0, ?_⟩
        simp only [List.getElem?_toArray, lateL_get] at ho ⊢
        by_cases h : t = j
        · simp only [h, if_true, Option.map_eq_some_iff] at ho
          obtain ⟨o', ho', rfl⟩ := ho
          exact ⟨o', ho', fun e he hb => hall e (by simp [lateOp, he]) hb⟩
        · rw [if_neg h] at ho; exact ⟨o, ho, hall⟩
      have hr2 : ∀ listed j, listed.size = l.length → j ∈ Region.ready .any l.toArray listed → j ∈ Region.ready .any (lateL l t q).toArray listed ∨ q ∈ Region.ready .any (lateL l t q).toArray listed := by
        intro listed j hsz hj
        by_cases hq : listed.getD q true = false
        · by_cases h : t = j
          · right
            rw [mem_ready] at hj ⊢
            obtain ⟨h0, o, ho, hall⟩ := hj
            subst h
            have : o = ot := by simpa [hot] using ho.symm
            subst this
            refine ⟨hq, oq, hqa', fun e he hb => ?_⟩
            have h1 := (List.all_eq_true.1 hdep) e (by simpa using he)
            simp only [hb, Bool.not_true, Bool.false_or, List.any_eq_true, Bool.and_eq_true, beq_iff_eq] at h1
            obtain ⟨e', he', hb', hon⟩ := h1
            rw [← hon]; exact hall e' (by simpa using he') hb'
          · left
            rw [mem_ready] at hj ⊢
            obtain ⟨h0, o, ho, hall⟩ := hj
            exact ⟨h0, o, by simpa [lateL_get, h] using ho, hall⟩
        · left
          have hq' : listed.getD q false = true := by
            have hlt : q < listed.size := by rw [hsz]; exact (List.getElem?_eq_some_iff.1 hoq).1
            simp [hlt] at hq ⊢
            exact hq
          rw [mem_ready] at hj ⊢
          obtain ⟨h0, o, ho, hall⟩ := hj
          refine ⟨h0, ?_⟩
          simp only [List.getElem?_toArray] at ho
          simp only [List.getElem?_toArray, lateL_get]
          by_cases h : t = j
          · rw [if_pos h, ho]
            refine ⟨lateOp o q, rfl, fun e he hb => ?_⟩
            simp only [lateOp, Array.mem_push] at he
            rcases he with he | rfl
            · exact hall e he hb
            · exact hq'
          · rw [if_neg h]; exact ⟨o, ho, hall⟩
      have hop : ∀ {i : Nat} {K K' : Act → World → Prop} {a : Act} {w : World}, (∀ a w, K a w → K' a w) → wpOpIn F n P (lateL l t q).toArray Q i K a w → wpOpIn F n P l.toArray Q i K' a w := by
        intro i K K' a w hK h
        refine wpOpIn_mono hK ?_
        unfold wpOpIn at h ⊢
        rw [yielded_late] at h
        simp only [List.getElem?_toArray, lateL_get] at h ⊢
        by_cases hti : t = i
        · rw [if_pos hti] at h
          cases hoi : l[i]? with
          | none => rw [hoi] at h; exact h
          | some o => rw [hoi] at h; exact h
        · rw [if_neg hti] at h; exact h
      have key : ∀ (f : Nat) (listed : Array Bool) (a : Act) (w : World), listed.size = l.length → wpAnyIn F n P .any (lateL l t q).toArray Q f listed a w → wpAnyIn F n P .any l.toArray Q f listed a w := by
        intro f
        induction f with
        | zero =>
          intro listed a w hsz h
          refine ⟨?_, h.2⟩
          cases hr : Region.ready .any l.toArray listed with
          | nil => rfl
          | cons j r =>
            have hj : j ∈ Region.ready .any l.toArray listed := by rw [hr]; simp
            rcases hr2 listed j hsz hj with h1 | h1 <;> rw [h.1] at h1 <;> cases h1
        | succ f ih =>
          intro listed a w hsz h
          by_cases hq : q ∈ Region.ready .any (lateL l t q).toArray listed
          · have h1 := h.2 q hq
            unfold wpOpIn at h1
            rw [hqa'] at h1
            simp only at h1
            have hw : Region.wanted oq (yielded (lateL l t q).toArray a.tmps) = true := by
              unfold Region.wanted
              cases hg : oq.guard with
              | none => rfl
              | some g => rw [hg] at hgd; simp at hgd
            rw [if_pos hw] at h1
            obtain ⟨v, hv⟩ : ∃ v, (∀ w, (oq.semAt F.round a.eval).run P w = .ok (.value v) w) := by
              have h2 := h1.2
              cases hopq : oq.op <;> rw [hopq] at hex <;> simp at hex
              case extract x ix =>
                have hs : ∀ w, (oq.semAt F.round a.eval).run P w = (Sem.run P (Instr.extract (a.eval x) ix) w).andThen fun v w' => .ok (.value v) w' := by
                  intro w
                  rw [Oper.semAt_eq _ _ _ (fun c hc => by rw [hopq] at hc; cases hc)]
                  unfold execOp
                  rw [hopq]
                  simp
                rw [hs] at h2
                unfold Instr.extract at h2 hs
                split at h2
                · rename_i vs hvs
                  split at h2
                  · rename_i u hu
                    refine ⟨u, fun w => ?_⟩
                    rw [hs, hvs]
                    simp [hu]
                  · exact h2.elim
                · exact h2.elim
              case move x =>
                refine ⟨a.eval x, fun w => ?_⟩
                rw [Oper.semAt_eq _ _ _ (fun c hc => by rw [hopq] at hc; cases hc)]
                unfold execOp
                rw [hopq]
                simp
            have hab : ∀ w, oq.about P w a.eval = none := by
              intro w
              unfold Oper.about
              cases hopq : oq.op <;> rw [hopq] at hex <;> simp at hex
            have h2 := h1.2
            rw [hv w] at h2
            exact wpAnyIn_firstR hqa hsel (fun c a w => hQ c a w _ _) hfree f listed a w (hr1 _ _ hq) ⟨by rw [← yielded_late l t q]; exact hw, hv, hab⟩ (ih _ _ _ (by simpa using hsz) h2)
          · refine ⟨fun h0 => h.1 ?_, fun i hi => ?_⟩
            · cases hr : Region.ready .any (lateL l t q).toArray listed with
              | nil => rfl
              | cons j r =>
                have := hr1 listed j (by rw [hr]; simp)
                rw [h0] at this; cases this
            · rcases hr2 listed i hsz hi with h1 | h1
              · exact hop (fun a' w' h' => ih _ a' w' (by simpa using hsz) h') (h.2 i h1)
              · exact absurd h1 hq
      exact key
theorem wpAnyIn_rg_tail {Q : Exit → Act → World → Prop} {a : Act} {w : World} {l : List Oper} (n' : Nat) (R : World → World → Prop) (X : Nat → Sp)
    (hF : ∀ f, F.fn f) (hB : Region.lexTailB .any l.toArray n' = true) (hrr : ∀ w, R w w) (hrt : ∀ a b c : World, R a b → R b c → R a c)
    (hst : ∀ i, SpStable R (X i))
    (h : Rgw (wpRg F n P l.toArray R w X (rgEnd R w (wpListIn F n P l.toArray Q (l.drop n'))) (l.take n') 0 (fun _ => True) a)) : wpAnyIn F n P .any l.toArray Q l.length (Array.replicate l.length false) a w := by
  replace h := h.out
  simp only [Region.lexTailB, Bool.and_eq_true, decide_eq_true_eq] at hB
  obtain ⟨⟨⟨⟨hsel, hn⟩, hs⟩, hc⟩, hlex⟩ := hB
  have hn' : n' < l.length := by simpa using hn
  have htl : (l.take n').length = n' := by simp; omega
  have hdl : (l.drop n').length = l.toArray.size - n' := by simp
  have H := rgAny_lex (F := F) (N := n) (P := P) (ops := l.toArray) (n := n') (X := X) (md := .any) (hrr w) (fun Φ Φ' a => rgEnd_congr Φ Φ' a) (T := fun listed => Region.seqB .any l.toArray (l.toArray.size - n') n' listed) hsel
    (fun i hi listed inv hun j hj => by
      rcases Nat.lt_or_ge j n' with h | h
      · exact h
      · exact absurd hj (tail_waits hs hc hn inv _ i rfl hi hun j h))
    (fun listed ht j hj => seqB_ready ht j hj)
    (fun f k listed => Region.lexHead .any l.toArray (l.toArray.size - n') f k listed) (fun listed h => by simpa [Region.lexHead] using h)
    (fun f k listed h => by simpa [Region.lexHead, Bool.and_eq_true, and_assoc] using h)
    (l.take n') 0 (Array.replicate l.toArray.size false) _ a (fun j hj => by
      have hj' : j < n' := by rw [htl] at hj; exact hj
      simp [hj']) (by simpa using htl) (head_inv l) (by rw [htl]; exact hlex) h
  have := wpAnyIn_of_rg (g := l.toArray.size - n') (Q := Q) (w0 := w) (ops := l.toArray) (L := fun listed Φ' a' => Region.seqB .any l.toArray (l.toArray.size - n') n' listed = true ∧ rgEnd R w (wpListIn F n P l.toArray Q (l.drop n')) Φ' a') hF hrt hst (fun listed Φ a w hL hr hp => by
    have := wpAnyIn_of_seq (F := F) (N := n) (P := P) (md := .any) (Q' := Q) (l.drop n') n' listed a w (fun j => by simp [List.getElem?_drop]) (by rw [hdl]; exact hL.1) (hL.2 w hr hp)
    rwa [hdl] at this) _ _ _ _ w (fun _ _ _ _ => trivial) (hrr _) trivial H
  rw [htl] at this
  rw [show n' + (l.toArray.size - n') = l.length by simp; omega] at this
  simpa using this
/-- The law, where operation q, an extract or a move, may come behind operation t, the first of the tail. -/
theorem wpIn_region_rg_late {id : Nat} {Q : Exit → Act → World → Prop} {a : Act} {w : World} {l : List Oper} (n' t q : Nat) (R : World → World → Prop) (X : Nat → Sp) (hm : P.follows .mixedOrders = true)
    (hF : ∀ f, F.fn f) (hL : lateB l t q = true) (hQ : ∀ c a w d v, Q (.panic c) (Act.put a d v) w → Q (.panic c) a w) (hB : Region.lexTailB .any (lateL l t q).toArray n' = true) (hrr : ∀ w, R w w) (hrt : ∀ a b c : World, R a b → R b c → R a c)
    (hst : ∀ i, SpStable R (X i))
    (h : Rgw (wpRg F n P (lateL l t q).toArray R w.drew X (rgEnd R w.drew (wpListIn F n P (lateL l t q).toArray Q ((lateL l t q).drop n'))) ((lateL l t q).take n') 0 (fun _ => True) a)) : (Code.region id l.toArray true).wpIn F n P Q a w := by
  refine wpIn_region_any hm ?_
  have h1 := wpAnyIn_rg_tail (F := F) (n := n) (P := P) (Q := Q) n' R X hF hB hrr hrt hst h
  have hl : (lateL l t q).length = l.length := by simp [lateL]
  rw [hl] at h1
  have h2 := wpAnyIn_late (F := F) (n := n) (P := P) (Q := Q) hL hQ l.length (Array.replicate l.length false) a w.drew (by simp) h1
  simpa using h2
end
end Go.Proofs.Ytnbnhcoaggpmaaa
