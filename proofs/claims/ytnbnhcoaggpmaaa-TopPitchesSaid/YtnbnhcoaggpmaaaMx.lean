/- demand: a plan that may not be leaves by a panic. -/
import Derived.Test.YtnbnhcoaggpmaaaPa
import Derived.Test.YtnbnhcoaggpmaaaRh
import Derived.Test.YtnbnhcoaggpmaaaMu2
import Derived.Defers
import Derived.Recover

namespace Go.Proofs.Ytnbnhcoaggpmaaa
open Go Go.RowKit Go.Shelf
set_option maxRecDepth 100000

/-- A slice of slices of whole numbers. -/
def RowsAt (w : World) (n0 : Nat) (v : Value) (xss : List (List Int)) : Prop := ∃ A c, v = .slice A xss.length c ∧ xss.length ≤ 9223372036854775807 ∧
  (xss ≠ [] → ∃ b o, A = some ⟨b, o, none⟩ ∧ b < n0 ∧ ∀ i xs, xss[i]? = some xs → ∃ u, w.cell? ⟨b, o + i, none⟩ = some u ∧ IntsAt w n0 u xs)
theorem RowsAt.below {w w' : World} {n0 : Nat} {v : Value} {xss : List (List Int)} (h : RowsAt w n0 v xss) (hb : Below n0 w w') : RowsAt w' n0 v xss := by
  obtain ⟨A, c, e, hl, hr⟩ := h
  refine ⟨A, c, e, hl, fun hn => ?_⟩
  obtain ⟨b, o, e, hlt, hc⟩ := hr hn
  refine ⟨b, o, e, hlt, fun i xs hx => ?_⟩
  obtain ⟨u, h1, h2⟩ := hc i xs hx
  exact ⟨u, (hb.cell (p := ⟨b, o + i, none⟩) hlt).trans h1, h2.below hb⟩
theorem RowsAt.mono {w : World} {n0 n1 : Nat} {v : Value} {xss : List (List Int)} (h : RowsAt w n0 v xss) (hn : n0 ≤ n1) : RowsAt w n1 v xss := by
  obtain ⟨A, c, e, hl, hr⟩ := h
  refine ⟨A, c, e, hl, fun hne => ?_⟩
  obtain ⟨b, o, e, hlt, hc⟩ := hr hne
  refine ⟨b, o, e, Nat.lt_of_lt_of_le hlt hn, fun i xs hx => ?_⟩
  obtain ⟨u, h1, h2⟩ := hc i xs hx
  exact ⟨u, h1, h2.mono hn⟩

/-- May a plan be? -/
def planOk (m : Wk) (plan : List (List Int)) : Bool := decide ((plan.length : Int) = m.years) && plan.all (mayS m)
end Go.Proofs.Ytnbnhcoaggpmaaa
