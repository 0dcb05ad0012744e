/- The values of states, as plain functions; the map of those known. -/
import Derived.Test.YtccplobhfokcgaaMm
namespace Go.Proofs.Ytccplobhfokcgaa
open Go Go.RowKit Go.Shelf
set_option maxRecDepth 100000

theorem leftS_bd {m : Wk} (hm : m.Ok) {x : Slope} (hx : x ∈ m.slopes) (y k t : Int) (ht : 0 ≤ t ∧ t ≤ 1000) : 0 ≤ leftS m.crafts x y k t ∧ leftS m.crafts x y k t ≤ 1000 := by
  have h := mendC_bd hm.craft k t x.full ht (hm.slopes x hx).full
  unfold leftS
  split
  · exact h
  · have h2 : 0 ≤ takeOf x y := by
      unfold takeOf
      rw [List.getD_eq_getElem?_getD]
      cases he : x.takes[y.toNat % x.takes.length]? with
      | none => simp
      | some v => exact ((hm.slopes x hx).takes v (List.mem_of_getElem? he)).1
    omega
theorem upd_bd {m : Wk} (hm : m.Ok) (row : List Int) (y : Int) (i : Nat) (t : Int) (ht : 0 ≤ t ∧ t ≤ 1000) : 0 ≤ upd m.crafts m.slopes row y i t ∧ upd m.crafts m.slopes row y i t ≤ 1000 := by
  unfold upd
  split
  · rename_i x hx
    exact leftS_bd hm (List.mem_of_getElem? hx) _ _ _ ht
  · exact ht
theorem stepS_ok {m : Wk} (hm : m.Ok) {s : St} (hs : s.Ok m) (row : List Int) (hy : s.y < 40) : (stepS m s row).Ok m :=
  ⟨⟨by show 0 ≤ s.y + 1; have := hs.year; omega, by show s.y + 1 ≤ 40; omega⟩, upd_bd hm _ _ _ _ hs.a, upd_bd hm _ _ _ _ hs.b, upd_bd hm _ _ _ _ hs.c, upd_bd hm _ _ _ _ hs.d⟩
theorem stepS_y (m : Wk) (s : St) (row : List Int) : (stepS m s row).y = s.y + 1 := rfl
theorem rowsS_mem {m : Wk} {r : List Int} (h : r ∈ rowsS m) : RowOk m r ∧ mayS m r = true := by
  unfold rowsS rowsTo at h
  rw [List.mem_filter, List.mem_map] at h
  obtain ⟨⟨k, _, rfl⟩, h2⟩ := h
  exact ⟨rowK_ok m k, h2⟩
theorem costS_bd {m : Wk} (hm : m.Ok) {r : List Int} (hr : RowOk m r) : 0 ≤ costS m r ∧ costS m r ≤ 41000000 := by
  have h1 := costTo_bd hm r r.length (by rw [hr.len]; exact Nat.le_refl _)
  have h2 := hm.visit
  have h3 := hm.few
  have h4 := hr.len
  have h5 : (r.length : Int) ≤ 4 := by omega
  unfold costS
  split <;> omega

def valF (m : Wk) : Nat → St → Int
  | 0, _ => 0
  | n + 1, s => (rowsS m).foldl (fun a r => if keptS m s r then min a (costS m r + valF m n (stepS m s r)) else a) 2000000000
/-- What it costs at least to keep all from a state on. -/
def valS (m : Wk) (s : St) : Int := valF m (m.years - s.y).toNat s
def leastTo (m : Wk) (s : St) (k : Nat) : Int := ((rowsS m).take k).foldl (fun a r => if keptS m s r then min a (costS m r + valS m (stepS m s r)) else a) 2000000000
theorem valS_end {m : Wk} {s : St} (h : m.years ≤ s.y) : valS m s = 0 := by
  unfold valS
  rw [show (m.years - s.y).toNat = 0 by omega]; rfl
theorem valS_step {m : Wk} {s : St} (h : s.y < m.years) : valS m s = leastTo m s (rowsS m).length := by
  unfold valS leastTo
  rw [show (m.years - s.y).toNat = (m.years - (s.y + 1)).toNat + 1 by omega, List.take_length]
  rfl
theorem leastTo_zero (m : Wk) (s : St) : leastTo m s 0 = 2000000000 := rfl
theorem leastTo_succ {m : Wk} {s : St} {k : Nat} {r : List Int} (h : (rowsS m)[k]? = some r) :
    leastTo m s (k + 1) = if keptS m s r then min (leastTo m s k) (costS m r + valS m (stepS m s r)) else leastTo m s k := by
  unfold leastTo
  rw [List.take_add_one, h, List.foldl_append]
  rfl
theorem foldl_min_bd {α : Type} (p : α → Bool) (g : α → Int) : ∀ (l : List α) (z : Int), 0 ≤ z → z ≤ 2000000000 → (∀ a ∈ l, 0 ≤ g a) →
    0 ≤ l.foldl (fun a r => if p r then min a (g r) else a) z ∧ l.foldl (fun a r => if p r then min a (g r) else a) z ≤ 2000000000
  | [], z, h0, h1, _ => ⟨h0, h1⟩
  | a :: l, z, h0, h1, hg => by
    have h2 := hg a (by simp)
    rw [List.foldl_cons]
    refine foldl_min_bd p g l _ ?_ ?_ (fun b hb => hg b (by simp [hb]))
    · split <;> omega
    · split <;> omega
theorem valF_bd {m : Wk} (hm : m.Ok) : ∀ (n : Nat) (s : St), 0 ≤ valF m n s ∧ valF m n s ≤ 2000000000
  | 0, _ => by simp [valF]
  | n + 1, s => foldl_min_bd (fun r => keptS m s r) (fun r => costS m r + valF m n (stepS m s r)) _ _ (by omega) (by omega) (fun r hr => by
      have := (costS_bd hm (rowsS_mem hr).1).1
      have := (valF_bd hm n (stepS m s r)).1
      omega)
theorem valS_bd {m : Wk} (hm : m.Ok) (s : St) : 0 ≤ valS m s ∧ valS m s ≤ 2000000000 := valF_bd hm _ s
theorem leastTo_bd {m : Wk} (hm : m.Ok) (s : St) (k : Nat) : 0 ≤ leastTo m s k ∧ leastTo m s k ≤ 2000000000 :=
  foldl_min_bd (fun r => keptS m s r) (fun r => costS m r + valS m (stepS m s r)) _ _ (by omega) (by omega) (fun r hr => by
    have := (costS_bd hm (rowsS_mem (List.mem_of_mem_take hr)).1).1
    have := (valS_bd hm (stepS m s r)).1
    omega)

/-- A list of states that holds whatever can be come to from them. -/
structure Shut (m : Wk) (T : List St) : Prop where
  ok : ∀ t ∈ T, t.Ok m
  year : ∀ t ∈ T, t.y ≤ m.years
  next : ∀ t ∈ T, t.y < m.years → ∀ r ∈ rowsS m, keptS m t r = true → stepS m t r ∈ T
  few : T.length ≤ 2000

theorem nodup_length : ∀ (L T : List St), L.Nodup → (∀ t ∈ L, t ∈ T) → L.length ≤ T.length
  | [], _, _, _ => Nat.zero_le _
  | x :: L, T, hn, hs => by
    obtain ⟨hx, hn'⟩ := List.nodup_cons.1 hn
    have h1 : x ∈ T := hs x (by simp)
    have h2 := nodup_length L (T.erase x) hn' (fun t ht => (List.mem_erase_of_ne (fun e : t = x => hx (e ▸ ht))).2 (hs t (by simp [ht])))
    have h3 := List.length_erase_of_mem h1
    have h4 : 0 < T.length := List.length_pos_of_mem h1
    simp only [List.length_cons]
    omega

def memoF (m : Wk) (L : List St) : St → Option Int := fun t => if t ∈ L then some (valS m t) else none
/-- The map of values known: those of L. -/
structure Memo (m : Wk) (T : List St) (b : Nat) (w : World) (L : List St) : Prop where
  map : StMap w b L.length (memoF m L)
  nodup : L.Nodup
  sub : ∀ t ∈ L, t ∈ T
theorem Memo.few {m : Wk} {T : List St} {b : Nat} {w : World} {L : List St} (h : Memo m T b w L) (hT : Shut m T) : L.length ≤ 2000 := Nat.le_trans (nodup_length _ _ h.nodup h.sub) hT.few
theorem Memo.kept {m : Wk} {T : List St} {b : Nat} {w w' : World} {L : List St} (h : Memo m T b w L) (hk : w'.heap[b]? = w.heap[b]?) : Memo m T b w' L := ⟨h.map.kept hk, h.nodup, h.sub⟩
theorem StMap.same {w : World} {b n n' : Nat} {f g : St → Option Int} (h : StMap w b n f) (k : StMap w b n' g) (s : St) (hs : s.Wf) : (f s).isSome = (g s).isSome := by
  obtain ⟨D, ⟨es, clock, hb, F, hl, hD⟩, hf⟩ := h
  obtain ⟨D', ⟨es', clock', hb', F', hl', hD'⟩, hg⟩ := k
  rw [hb] at hb'
  simp only [Option.some.injEq, Obj.map.injEq] at hb'
  obtain ⟨rfl, rfl⟩ := hb'
  rw [← (hf s hs).1, ← (hg s hs).1, hD, hD']
theorem Memo.same {m : Wk} {T : List St} {b : Nat} {w : World} {L L' : List St} (h : Memo m T b w L) (k : Memo m T b w L') (hT : Shut m T) {t : St} (ht : t ∈ T) : t ∈ L ↔ t ∈ L' := by
  have := h.map.same k.map t (hT.ok t ht).wf
  unfold memoF at this
  by_cases h1 : t ∈ L <;> by_cases h2 : t ∈ L' <;> simp_all
theorem Memo.look {m : Wk} {T : List St} {b : Nat} {w : World} {L : List St} (h : Memo m T b w L) (s : St) (hs : s.Wf) :
    (Instr.lookup 107 (.map (some b)) (stV s) true).run Try.prog w = .ok (.tuple #[.int .i64 (if s ∈ L then valS m s else 0), .bool (decide (s ∈ L))]) w := by
  rw [h.map.look s hs]
  unfold memoF
  by_cases h1 : s ∈ L <;> simp [h1]
theorem Memo.store {m : Wk} {T : List St} {b : Nat} {w : World} {L : List St} (hm : m.Ok) (hT : Shut m T) (h : Memo m T b w L) {s : St} (hs : s ∈ T) (hn : s ∉ L) :
    ∃ w', (Instr.mapUpdate 107 (.map (some b)) (stV s) (.int .i64 (valS m s))).run Try.prog w = .ok () w' ∧ Memo m T b w' (s :: L) ∧ Bel (fun k => k = b) w w' := by
  have h1 := valS_bd hm s
  have h2 := h.few hT
  obtain ⟨w', hrun, hmp, hb⟩ := h.map.store s (hT.ok s hs).wf (valS m s) (by omega) (by unfold maxLen; omega)
  refine ⟨w', hrun, ⟨?_, List.nodup_cons.2 ⟨hn, h.nodup⟩, fun t ht => ?_⟩, hb⟩
  · have e : putS (memoF m L) s (valS m s) = memoF m (s :: L) := by
      funext t
      unfold putS memoF
      by_cases h1 : t = s
      · simp [h1]
      · simp [h1]
    rw [← e]; exact hmp
  · rcases List.mem_cons.1 ht with rfl | ht
    · exact hs
    · exact h.sub t ht

/-- What a call of value leaves: the map alone has turned; what is new in it are states of years from y on. -/
def Learnt (m : Wk) (T : List St) (b : Nat) (y : Int) (w w' : World) : Prop :=
  Bel (fun k => k = b) w w' ∧ ∀ L, Memo m T b w L → ∃ L', Memo m T b w' L' ∧ ∀ t ∈ L', t ∈ L ∨ y ≤ t.y
theorem Learnt.refl (m : Wk) (T : List St) (b : Nat) (y : Int) (w : World) : Learnt m T b y w w := ⟨Bel.refl _ _, fun L h => ⟨L, h, fun _ ht => .inl ht⟩⟩
theorem Learnt.trans {m : Wk} {T : List St} {b : Nat} {y : Int} {A B C : World} (h : Learnt m T b y A B) (k : Learnt m T b y B C) : Learnt m T b y A C :=
  ⟨h.1.trans k.1, fun L hL => by
    obtain ⟨L1, h1, h2⟩ := h.2 L hL
    obtain ⟨L2, h3, h4⟩ := k.2 L1 h1
    exact ⟨L2, h3, fun t ht => (h4 t ht).elim (fun h => h2 t h) .inr⟩⟩
theorem Learnt.mono {m : Wk} {T : List St} {b : Nat} {y y' : Int} {A B : World} (h : Learnt m T b y A B) (hy : y' ≤ y) : Learnt m T b y' A B :=
  ⟨h.1, fun L hL => by
    obtain ⟨L1, h1, h2⟩ := h.2 L hL
    exact ⟨L1, h1, fun t ht => (h2 t ht).imp id (fun h => by omega)⟩⟩
/-- Whatever leaves the map as it lay. -/
theorem Learnt.of_bel {m : Wk} {T : List St} {b : Nat} {y : Int} {S : Nat → Prop} {A B : World} (h : Bel S A B) (hb : b < A.heap.size) (hS : ¬ S b) (hl : ∀ k, k < A.heap.size → S k → k = b) : Learnt m T b y A B :=
  ⟨h.mono hl, fun L hL => ⟨L, hL.kept (h.block b hb hS), fun _ ht => .inl ht⟩⟩
theorem Learnt.of_below {m : Wk} {T : List St} {b : Nat} {y : Int} {A B : World} (h : Below A.heap.size A B) (hb : b < A.heap.size) : Learnt m T b y A B :=
  ⟨Bel.of_below h, fun L hL => ⟨L, hL.kept (h.block b hb), fun _ ht => .inl ht⟩⟩
end Go.Proofs.Ytccplobhfokcgaa
