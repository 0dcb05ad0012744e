/- MendCheapest: the walk. -/
import Derived.Test.YtcbhldfipfcjaaaGreatDoorPc
import Derived.Test.YtcbhldfipfcjaaaGreatDoorRu

namespace Go.Proofs.YtcbhldfipfcjaaaGreatDoor
open Go Go.RowKit Go.Shelf
set_option maxRecDepth 100000

/-- What stays through a law. -/
structure LawInv (m : Wk) (w : World) (sl cr : Value) (bx : Nat) (W : World) : Prop where
  below : Below w.heap.size w W
  slopes : SlopesAt W W.heap.size sl m.slopes
  crafts : CraftsAt W W.heap.size cr m.crafts
  box : W.heap[bx]? = some (.cells #[sl, cr, .int .i64 m.years, .int .i64 m.visit, .int .i64 m.hands] 25 (0, 0))
theorem LawInv.later {m : Wk} {w : World} {sl cr : Value} {bx : Nat} {W W' : World} (h : LawInv m w sl cr bx W) (hb : Below W.heap.size W W') : LawInv m w sl cr bx W' :=
  ⟨h.below.trans (hb.mono h.below.size), (h.slopes.below hb).mono hb.size, (h.crafts.below hb).mono hb.size, blk_below hb h.box (lt_blk h.box)⟩
theorem LawInv.start {m : Wk} {w : World} {sl cr : Value} (hsl : SlopesAt w w.heap.size sl m.slopes) (hcr : CraftsAt w w.heap.size cr m.crafts) :
    LawInv m w sl cr w.heap.size (w.alloc (.cells #[sl, cr, .int .i64 m.years, .int .i64 m.visit, .int .i64 m.hands] 25)) :=
  ⟨below1 _ _, (hsl.below (below1 _ _)).mono (by simp), (hcr.below (below1 _ _)).mono (by simp), heap_alloc_self _ _⟩
def LawPost (w : World) (e : Ending) (w' : World) : Prop := e = .returned (.bool true) ∧ Below w.heap.size w w'
theorem runs_law {m : Wk} {w : World} {sl cr : Value} {bx : Nat} {W : World} (h : LawInv m w sl cr bx W) : Calls Tryz.prog 6 #[] W fun e w' => e = .returned (.bool true) ∧ LawPost w (.returned (.bool true)) w' :=
  (runs_calls W).mono fun e w' ⟨he, hb⟩ => ⟨he, rfl, h.below.trans (hb.mono h.below.size)⟩

end Go.Proofs.YtcbhldfipfcjaaaGreatDoor
