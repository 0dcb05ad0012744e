/- Words for the mend proofs: works as plain data, how they lie in memory, and what a year and a row do. -/
import Derived.Test.YtnbnhcoaggpmaaaProg
import Derived.WalkKit
import Derived.LoopTactic
import Derived.Deep.LoopGhost
import Derived.Deep.QuietTactic
import Derived.BigQuiet
import Derived.OwnWalk
import Derived.WalkSpells
import Derived.WalkLawsBesides
import Derived.Below
import Derived.Outline
import Derived.Shelf.Abstract
import Derived.Lib.Hide
import Derived.IntWalk
import Derived.Maps.AppendAt
import Derived.Deep.AppendLies
import Derived.Lib.SliceRun
import Derived.Laws.CopyOwn
import Derived.Laws.OwnMore
import Derived.Test.YtnbnhcoaggpmaaaRg

namespace Go.Proofs.Ytnbnhcoaggpmaaa
open Go Go.RowKit Go.Shelf

structure Slope where
  now : Int
  need : Int
  full : Int
  size : Int
  takes : List Int
  deriving Inhabited, DecidableEq
structure Craft where
  add : Int
  price : Int
  strip : Bool
  deriving Inhabited, DecidableEq
structure Wk where
  slopes : List Slope
  crafts : List Craft
  years : Int
  visit : Int
  hands : Int
structure St where
  y : Int
  a : Int
  b : Int
  c : Int
  d : Int
  deriving Inhabited, DecidableEq
def St.get (s : St) : Nat → Int
  | 0 => s.a
  | 1 => s.b
  | 2 => s.c
  | _ => s.d

/-- Values in a row of cells. -/
def RowC (w : World) (n0 : Nat) (A : Option Addr) (vs : List Value) : Prop :=
  vs.length ≤ 9223372036854775807 ∧ (vs ≠ [] → ∃ b o, A = some ⟨b, o, none⟩ ∧ b < n0 ∧ ∀ j u, vs[j]? = some u → w.cell? ⟨b, o + j, none⟩ = some u)
theorem RowC.below {w w' : World} {n0 : Nat} {A : Option Addr} {vs : List Value} (h : RowC w n0 A vs) (hb : Below n0 w w') : RowC w' n0 A vs :=
  ⟨h.1, fun hn => by
    obtain ⟨b, o, e, hlt, hc⟩ := h.2 hn
    exact ⟨b, o, e, hlt, fun j u hu => (hb.cell (p := ⟨b, o + j, none⟩) hlt).trans (hc j u hu)⟩⟩
theorem RowC.mono {w : World} {n0 n1 : Nat} {A : Option Addr} {vs : List Value} (h : RowC w n0 A vs) (hn : n0 ≤ n1) : RowC w n1 A vs :=
  ⟨h.1, fun hne => by
    obtain ⟨b, o, e, hlt, hc⟩ := h.2 hne
    exact ⟨b, o, e, Nat.lt_of_lt_of_le hlt hn, hc⟩⟩
theorem RowC.at_ {w : World} {n0 : Nat} {A : Option Addr} {vs : List Value} (h : RowC w n0 A vs) (i : Nat) (hi : i < vs.length) :
    ∃ b o, A = some ⟨b, o, none⟩ ∧ b < n0 ∧ w.cell? ⟨b, o + i, none⟩ = some vs[i] := by
  obtain ⟨b, o, e, hlt, hc⟩ := h.2 (by intro e; simp [e] at hi)
  exact ⟨b, o, e, hlt, hc i _ (by simp [hi])⟩

/-- A slice of whole numbers. -/
def IntsAt (w : World) (n0 : Nat) (v : Value) (xs : List Int) : Prop := ∃ A c, v = .slice A xs.length c ∧ RowC w n0 A (xs.map (Value.int .i64))
theorem IntsAt.below {w w' : World} {n0 : Nat} {v : Value} {xs : List Int} (h : IntsAt w n0 v xs) (hb : Below n0 w w') : IntsAt w' n0 v xs := by
  obtain ⟨A, c, e, hr⟩ := h
  exact ⟨A, c, e, hr.below hb⟩
theorem IntsAt.mono {w : World} {n0 n1 : Nat} {v : Value} {xs : List Int} (h : IntsAt w n0 v xs) (hn : n0 ≤ n1) : IntsAt w n1 v xs := by
  obtain ⟨A, c, e, hr⟩ := h
  exact ⟨A, c, e, hr.mono hn⟩

/-- A slice of slopes. -/
def SlopesAt (w : World) (n0 : Nat) (v : Value) (ss : List Slope) : Prop := ∃ A c, v = .slice A ss.length c ∧ ss.length ≤ 9223372036854775807 ∧
  (ss ≠ [] → ∃ b o, A = some ⟨b, o, none⟩ ∧ b < n0 ∧ ∀ i s, ss[i]? = some s → ∃ t, IntsAt w n0 t s.takes ∧
    w.cell? ⟨b, o + i * 5, none⟩ = some (.int .i64 s.now) ∧ w.cell? ⟨b, o + i * 5 + 1, none⟩ = some (.int .i64 s.need) ∧ w.cell? ⟨b, o + i * 5 + 2, none⟩ = some (.int .i64 s.full) ∧
    w.cell? ⟨b, o + i * 5 + 3, none⟩ = some (.int .i64 s.size) ∧ w.cell? ⟨b, o + i * 5 + 4, none⟩ = some t)
theorem SlopesAt.below {w w' : World} {n0 : Nat} {v : Value} {ss : List Slope} (h : SlopesAt w n0 v ss) (hb : Below n0 w w') : SlopesAt w' n0 v ss := by
  obtain ⟨A, c, e, hl, hr⟩ := h
  refine ⟨A, c, e, hl, fun hn => ?_⟩
  obtain ⟨b, o, e, hlt, hc⟩ := hr hn
  refine ⟨b, o, e, hlt, fun i s hs => ?_⟩
  obtain ⟨t, ht, h0, h1, h2, h3, h4⟩ := hc i s hs
  have k : ∀ j, w'.cell? ⟨b, j, none⟩ = w.cell? ⟨b, j, none⟩ := fun j => hb.cell (p := ⟨b, j, none⟩) hlt
  exact ⟨t, ht.below hb, (k _).trans h0, (k _).trans h1, (k _).trans h2, (k _).trans h3, (k _).trans h4⟩
theorem SlopesAt.mono {w : World} {n0 n1 : Nat} {v : Value} {ss : List Slope} (h : SlopesAt w n0 v ss) (hn : n0 ≤ n1) : SlopesAt w n1 v ss := by
  obtain ⟨A, c, e, hl, hr⟩ := h
  refine ⟨A, c, e, hl, fun hne => ?_⟩
  obtain ⟨b, o, e, hlt, hc⟩ := hr hne
  refine ⟨b, o, e, Nat.lt_of_lt_of_le hlt hn, fun i s hs => ?_⟩
  obtain ⟨t, ht, r⟩ := hc i s hs
  exact ⟨t, ht.mono hn, r⟩

/-- A slice of crafts. -/
def CraftsAt (w : World) (n0 : Nat) (v : Value) (cs : List Craft) : Prop := ∃ A c, v = .slice A cs.length c ∧ cs.length ≤ 9223372036854775807 ∧
  (cs ≠ [] → ∃ b o, A = some ⟨b, o, none⟩ ∧ b < n0 ∧ ∀ i s, cs[i]? = some s →
    w.cell? ⟨b, o + i * 3, none⟩ = some (.int .i64 s.add) ∧ w.cell? ⟨b, o + i * 3 + 1, none⟩ = some (.int .i64 s.price) ∧ w.cell? ⟨b, o + i * 3 + 2, none⟩ = some (.bool s.strip))
theorem CraftsAt.below {w w' : World} {n0 : Nat} {v : Value} {ss : List Craft} (h : CraftsAt w n0 v ss) (hb : Below n0 w w') : CraftsAt w' n0 v ss := by
  obtain ⟨A, c, e, hl, hr⟩ := h
  refine ⟨A, c, e, hl, fun hn => ?_⟩
  obtain ⟨b, o, e, hlt, hc⟩ := hr hn
  refine ⟨b, o, e, hlt, fun i s hs => ?_⟩
  obtain ⟨h0, h1, h2⟩ := hc i s hs
  have k : ∀ j, w'.cell? ⟨b, j, none⟩ = w.cell? ⟨b, j, none⟩ := fun j => hb.cell (p := ⟨b, j, none⟩) hlt
  exact ⟨(k _).trans h0, (k _).trans h1, (k _).trans h2⟩
theorem CraftsAt.mono {w : World} {n0 n1 : Nat} {v : Value} {ss : List Craft} (h : CraftsAt w n0 v ss) (hn : n0 ≤ n1) : CraftsAt w n1 v ss := by
  obtain ⟨A, c, e, hl, hr⟩ := h
  refine ⟨A, c, e, hl, fun hne => ?_⟩
  obtain ⟨b, o, e, hlt, hc⟩ := hr hne
  exact ⟨b, o, e, Nat.lt_of_lt_of_le hlt hn, hc⟩

/-- A craft as a value of the interface. -/
def craftV (c : Craft) : Value := if c.strip then .iface 111 (.agg #[.int .i64 c.price]) else .iface 113 (.agg #[.int .i64 c.add, .int .i64 c.price])
/-- Crafts as interface values. -/
def McAt (w : World) (n0 : Nat) (v : Value) (cs : List Craft) : Prop := ∃ A c, v = .slice A cs.length c ∧ RowC w n0 A (cs.map craftV)
theorem McAt.below {w w' : World} {n0 : Nat} {v : Value} {xs : List Craft} (h : McAt w n0 v xs) (hb : Below n0 w w') : McAt w' n0 v xs := by
  obtain ⟨A, c, e, hr⟩ := h
  exact ⟨A, c, e, hr.below hb⟩
theorem McAt.mono {w : World} {n0 n1 : Nat} {v : Value} {xs : List Craft} (h : McAt w n0 v xs) (hn : n0 ≤ n1) : McAt w n1 v xs := by
  obtain ⟨A, c, e, hr⟩ := h
  exact ⟨A, c, e, hr.mono hn⟩

/-- Works that may be. -/
structure SlopeOk (s : Slope) : Prop where
  full : 1 ≤ s.full ∧ s.full ≤ 1000
  need : 0 ≤ s.need ∧ s.need ≤ s.full
  now : 0 ≤ s.now ∧ s.now ≤ s.full
  size : 1 ≤ s.size ∧ s.size ≤ 1000
  len : s.takes.length ≤ 12
  takes : ∀ t ∈ s.takes, 0 ≤ t ∧ t ≤ 500
structure CraftOk (c : Craft) : Prop where
  price : 0 ≤ c.price ∧ c.price ≤ 10000
  add : 0 ≤ c.add ∧ c.add ≤ 1000
  strip : c.strip = true → c.add = 0
structure Wk.Ok (k : Wk) : Prop where
  some : 1 ≤ k.slopes.length
  few : k.slopes.length ≤ 4
  slopes : ∀ s ∈ k.slopes, SlopeOk s
  crafts : k.crafts.length ≤ 4
  craft : ∀ c ∈ k.crafts, CraftOk c
  years : 0 ≤ k.years ∧ k.years ≤ 40
  visit : 0 ≤ k.visit ∧ k.visit ≤ 1000000
  hands : 0 ≤ k.hands ∧ k.hands ≤ 4

/-- How thick a slope becomes by a craft (or by none). -/
def mendC (cs : List Craft) (k t full : Int) : Int :=
  if k < 0 then t else match cs[k.toNat]? with
    | some c => if c.strip then full else min full (t + c.add)
    | none => t
def takeOf (s : Slope) (y : Int) : Int := s.takes.getD (y.toNat % s.takes.length) 0
/-- What a year leaves of it. -/
def leftS (cs : List Craft) (s : Slope) (y k t : Int) : Int := if s.takes.length = 0 then mendC cs k t s.full else max 0 (mendC cs k t s.full - takeOf s y)
def upd (cs : List Craft) (ss : List Slope) (row : List Int) (y : Int) (i : Nat) (t : Int) : Int :=
  match ss[i]? with
  | some s => leftS cs s y (row.getD i (-1)) t
  | none => t
def stepS (m : Wk) (s : St) (row : List Int) : St :=
  ⟨s.y + 1, upd m.crafts m.slopes row s.y 0 s.a, upd m.crafts m.slopes row s.y 1 s.b, upd m.crafts m.slopes row s.y 2 s.c, upd m.crafts m.slopes row s.y 3 s.d⟩
def keptAt (m : Wk) (s : St) (row : List Int) (i : Nat) : Bool :=
  match m.slopes[i]? with
  | some x => decide (x.need ≤ leftS m.crafts x s.y (row.getD i (-1)) (s.get i))
  | none => true
def keptS (m : Wk) (s : St) (row : List Int) : Bool := (List.range m.slopes.length).all (keptAt m s row)
def mayS (m : Wk) (row : List Int) : Bool :=
  row.all (fun n => decide (-1 ≤ n) && decide (n ≤ m.crafts.length - 1)) && decide (row.length = m.slopes.length) && decide ((row.countP (fun n => decide (0 ≤ n)) : Int) ≤ m.hands)
def priceC (cs : List Craft) (k : Int) : Int := if k < 0 then 0 else match cs[k.toNat]? with
  | some c => c.price
  | none => 0
/-- What a row costs, its first i numbers. -/
def costTo (m : Wk) (row : List Int) : Nat → Int
  | 0 => 0
  | i + 1 => costTo m row i + priceC m.crafts (row.getD i (-1)) * (match m.slopes[i]? with | some s => s.size | none => 0)
def costS (m : Wk) (row : List Int) : Int := costTo m row row.length + if row.any (fun k => decide (0 ≤ k)) then m.visit else 0
/-- A row that may be named: as many numbers as slopes, each -1 or a craft's. -/
structure RowOk (m : Wk) (row : List Int) : Prop where
  len : row.length = m.slopes.length
  each : ∀ k ∈ row, -1 ≤ k ∧ k < m.crafts.length
structure St.Ok (m : Wk) (s : St) : Prop where
  year : 0 ≤ s.y ∧ s.y ≤ 40
  a : 0 ≤ s.a ∧ s.a ≤ 1000
  b : 0 ≤ s.b ∧ s.b ≤ 1000
  c : 0 ≤ s.c ∧ s.c ≤ 1000
  d : 0 ≤ s.d ∧ s.d ≤ 1000
theorem St.Ok.get {m : Wk} {s : St} (h : s.Ok m) (i : Nat) : 0 ≤ s.get i ∧ s.get i ≤ 1000 := by
  unfold St.get
  split
  · exact h.a
  · exact h.b
  · exact h.c
  · exact h.d

theorem ret_int {k : IntKind} {a b : Int} (h : a = b) : Ending.returned (.int k a) = .returned (.int k b) := by rw [h]
theorem ret_bool {a b : Bool} (h : a = b) : Ending.returned (.bool a) = .returned (.bool b) := by rw [h]
theorem below1 (w : World) (o : Obj) : Below w.heap.size w (w.alloc o) := (Below.refl _ _).alloc (Nat.le_refl _) _
theorem below_next {w w1 w2 : World} {B : Nat} (h : Below B w w1) (hB : B ≤ w1.heap.size) (k : Below w1.heap.size w1 w2) : Below B w w2 := h.trans (k.mono hB)
theorem heap_alloc_self (w : World) (o : Obj) : (w.alloc o).heap[w.heap.size]? = some o := by
  show (w.heap.push o)[w.heap.size]? = some o
  simp

theorem cell_blk {w : World} {b : Nat} {cs : Array Value} {t : TypeId} {fr : Nat × Nat} (h : w.heap[b]? = some (.cells cs t fr)) (i : Nat) : w.cell? ⟨b, i, none⟩ = cs[i]? := by simp [World.cell?, h]
theorem frozen_blk {w : World} {b : Nat} {cs : Array Value} {t : TypeId} (h : w.heap[b]? = some (.cells cs t (0, 0))) (i : Nat) : w.frozen? ⟨b, i, none⟩ = false := by simp [World.frozen?, h]
theorem lt_blk {w : World} {b : Nat} {o : Obj} (h : w.heap[b]? = some o) : b < w.heap.size := (Array.getElem?_eq_some_iff.1 h).1
theorem blk6 {w : World} {b : Nat} {v0 v1 v2 v3 v4 v5 : Value} {t : TypeId} {fr : Nat × Nat} (h : w.heap[b]? = some (.cells #[v0, v1, v2, v3, v4, v5] t fr)) :
    w.cell? ⟨b, 0, none⟩ = some v0 ∧ w.cell? ⟨b, 1, none⟩ = some v1 ∧ w.cell? ⟨b, 2, none⟩ = some v2 ∧ w.cell? ⟨b, 3, none⟩ = some v3 ∧ w.cell? ⟨b, 4, none⟩ = some v4 ∧ w.cell? ⟨b, 5, none⟩ = some v5 :=
  ⟨cell_blk h 0, cell_blk h 1, cell_blk h 2, cell_blk h 3, cell_blk h 4, cell_blk h 5⟩
theorem blk5 {w : World} {b : Nat} {v0 v1 v2 v3 v4 : Value} {t : TypeId} {fr : Nat × Nat} (h : w.heap[b]? = some (.cells #[v0, v1, v2, v3, v4] t fr)) :
    w.cell? ⟨b, 0, none⟩ = some v0 ∧ w.cell? ⟨b, 1, none⟩ = some v1 ∧ w.cell? ⟨b, 2, none⟩ = some v2 ∧ w.cell? ⟨b, 3, none⟩ = some v3 ∧ w.cell? ⟨b, 4, none⟩ = some v4 :=
  ⟨cell_blk h 0, cell_blk h 1, cell_blk h 2, cell_blk h 3, cell_blk h 4⟩
theorem blk_below {n : Nat} {w w' : World} (h : Below n w w') {b : Nat} {o : Obj} (hb : w.heap[b]? = some o) (hn : b < n) : w'.heap[b]? = some o := (h.block b hn).trans hb
/-- The worlds of a region: as an elder one below its end: the rule for the walk. -/
theorem below_cells {B : Nat} {w w1 : World} (h : Below B w w1) : ∀ b o, b < B → w1.cell? ⟨b, o, none⟩ = w.cell? ⟨b, o, none⟩ := fun b o hb => h.cell (p := ⟨b, o, none⟩) hb
theorem undrew {B : Nat} {w w1 : World} (h : Below B w.drew w1) : Below B w w1 := ⟨h.os, h.tape, h.output, h.size, h.block⟩
/-- A closed relation for 'wp_region_rg'. -/
theorem belowR {B : Nat} : ∀ a b c : World, Below B a b → Below B b c → Below B a c := fun _ _ _ h k => h.trans k
theorem calls_below {P : Program} {f : FuncId} {args : Array Value} {B : Nat} {w : World} {v : Value} (hB : B ≤ w.heap.size) (h : Calls P f args w fun e w' => e = .returned v ∧ Below w.heap.size w w') :
    Calls P f args w fun e w' => e = .returned v ∧ Below B w w' := h.mono fun _ _ ⟨he, hb⟩ => ⟨he, hb.mono hB⟩

theorem own_mono {w : World} {b b' : Nat} {e : TypeId} {size n : Nat} {v : Value} {xs : List Value} (h : w.ownsRow b e size v n xs) (hb : b' ≤ b) : w.ownsRow b' e size v n xs := by
  refine ⟨h.1, ?_⟩
  rcases h.2 with ⟨h1, h2⟩ | ⟨g, cap, cur, h1, h2, r⟩
  · exact .inl ⟨h1, h2⟩
  · exact .inr ⟨g, cap, cur, h1, Nat.le_trans hb h2, r⟩
theorem own_below {w w' : World} {b e size n B : Nat} {v : Value} {xs : List Value} (h : w.ownsRow b e size v n xs) (hb : Below B w w') (hB : ∀ k, v.ownBlock = some k → k < B) : w'.ownsRow b e size v n xs := by
  refine ⟨h.1, ?_⟩
  rcases h.2 with ⟨h1, h2⟩ | ⟨g, cap, cur, h1, h2, h3, r⟩
  · exact .inl ⟨h1, h2⟩
  · exact .inr ⟨g, cap, cur, h1, h2, (hb.block g (hB g (by subst h1; rfl))).trans h3, r⟩
theorem own_blk_lt {w : World} {b e size n : Nat} {v : Value} {xs : List Value} (h : w.ownsRow b e size v n xs) : ∀ k, v.ownBlock = some k → b ≤ k ∧ k < w.heap.size := by
  intro k hk
  rcases h.2 with ⟨rfl, _⟩ | ⟨g, cap, cur, rfl, hb, hh, _⟩
  · simp [Value.ownBlock] at hk
  · have : g = k := by simpa [Value.ownBlock] using hk
    subst this
    exact ⟨hb, lt_blk hh⟩
/-- A row of one's own reads as a list. -/
theorem own_ints {w : World} {b e : Nat} {v : Value} {xs : List Int} (h : w.ownsRow b e 1 v xs.length (xs.map (Value.int .i64))) (hl : xs.length ≤ 140737488355328) : IntsAt w w.heap.size v xs := by
  rcases h.2 with ⟨rfl, h0⟩ | ⟨g, cap, cur, rfl, hb, hh, hc, _, hs, ht⟩
  · obtain rfl : xs = [] := List.eq_nil_of_length_eq_zero h0
    exact ⟨none, 0, rfl, by simp, fun hn => absurd rfl hn⟩
  · refine ⟨_, cap, rfl, by simp; omega, fun _ => ⟨g, 0, rfl, lt_blk hh, fun j u hu => ?_⟩⟩
    rw [cell_blk hh, ← ht] at *
    simp only [Nat.mul_one, List.getElem?_take] at hu
    split at hu
    · simpa using hu
    · cases hu
/-- append(v, x) where x lies in a new block of its own: what is left. -/
theorem wpList_app {P : Program} {ops : Array Oper} {rest : List Oper} {o : Oper} {a : Act} {Q : Exit → Act → World → Prop} {W : World} (base : Nat) (s x : Operand) (t e : TypeId) (z : Value) (size bytes : Nat) (news : List Value)
    (hgd : o.guard = none) (ho : o.op = .call { callee := .builtin .append, args := #[s, x], argTypes := #[t, t] })
    (ht : P.underlying t = some (.slice e)) (hinfo : (P.info? e).map (fun i => (i.zero, i.size, i.bytes)) = some (some z, size, bytes)) (hzs : z.cells.size = size) (hsz : 0 < size) (hb0 : 0 < bytes)
    (v : Value) (n : Nat) (xs : List Value) (hs : a.eval s = v) (hx : a.eval x = .slice (some ⟨W.heap.size, 0, none⟩) 1 1) (hl : news.length = size) (h1 : ∀ u ∈ news, u.oneCell' = true)
    (hown : W.ownsRow base e size v n xs) (hn : (n + 1) * bytes ≤ 140737488355328) (hbase : base ≤ W.heap.size)
    (h : ∀ v1 w1, w1.ownsRow base e size v1 (n + 1) (xs ++ news) → W.grownBy w1 v.ownBlock → (v1.ownBlock = v.ownBlock ∨ ∃ b, v1.ownBlock = some b ∧ W.heap.size ≤ b) → Below base W w1 → wpList P ops Q rest (a.put o.dst v1) w1) :
    wpList P ops Q (o :: rest) a (W.alloc (.cells news.toArray e)) := by
  obtain ⟨i0, hi, hzz⟩ := Option.map_eq_some_iff.1 hinfo
  simp only [Prod.mk.injEq] at hzz
  obtain ⟨hz0, hz1, hz2⟩ := hzz
  have hlen : n + 1 ≤ 140737488355328 := Nat.le_trans (Nat.le_mul_of_pos_right _ hb0) hn
  refine wpList_append_own_at (w := W.alloc (.cells news.toArray e)) hgd s x t ho base e i0 z size bytes ht hi hz0 hz1 hz2 hzs hsz v n xs hs (hown.alloc _) ⟨W.heap.size, 0, none⟩ 1 1 news hx (by omega)
    (World.news_of_block (cs := news.toArray) (t := e) (fr := (0, 0)) (heap_alloc_self W _)) h1 (by simp only [maxLen]; omega) hn (by simp; omega) ?_
  intro v1 w1 ho1 hg _ hat
  have hg' := World.grownBy.trans (World.grownBy_alloc W (.cells news.toArray e) v.ownBlock) hg
  have hbb : ∀ k, v.ownBlock = some k → base ≤ k := by
    intro k hk
    rcases hown.2 with ⟨rfl, _⟩ | ⟨g, cap, cur, rfl, hb, _⟩
    · simp [Value.ownBlock] at hk
    · have : g = k := by simpa [Value.ownBlock] using hk
      omega
  refine h v1 w1 ho1 hg' ?_ ((Below.refl _ _).grown hg' hbase hbb)
  rcases hat with hat | hat
  · exact .inl hat
  · exact .inr ⟨_, hat, by simp⟩
end Go.Proofs.Ytnbnhcoaggpmaaa
