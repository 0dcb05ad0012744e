/-
  No cell of these rows narrows 'for every input' (looked for: loops, veiled, ifaces, maps, wideKeys, modest, calm, conditions, laid).
  DERIVED. THE GIVEN ROWS OF THIS SEAT. 11 by the template 'for every input the law returns true; each argument reads behind the call as it read before'; 0 by the template 'total and deterministic' (their statements: YtccplobhfokcgaaTotals.lean).
  GIVEN WITH THE SEED: the statements are not yours to turn. If you find one false, say at which input.
  Laid BY PROGRAM, IN A SANDBOX (cutbox-rows.mjs): the forced cells as the released guide's own fill.sh prints them over the translation 2740540f76390e56… (all of the seat's roots in one cut). By AI agents, Wed Nov 11 2026. No macro, syntax, notation, axiom, sorry.
-/
import Derived.Test.YtccplobhfokcgaaChecked
import GoSem.Claim
import GoSem.ClaimJoined
import GoSem.ClaimMapViews
import Derived.JoinedTies
import Derived.KernelRfl
namespace Go.Proofs.Ytccplobhfokcgaa
/- THE CELL 'sum', in the pinned program and in every row, IS THE sha256 OF THE DUMP (.gsa) THAT YtccplobhfokcgaaProg.lean LOADS. Nothing in Lean hashes anything: it is a label: what it is worth is what the hold of that sum in a sandbox is worth. -/
noncomputable def Try.pinned : Pinned := { name := "ytccplobhfokcgaa", sum := "2740540f76390e56e67f7227e65090019d6219464fad318084749885a065f68b", checked := Try.checked }
namespace Rows
def none {H : Type} : Left H := { results := [], args := [] }

/-- 'thatchlaw08.MendFollows': WHATEVER THE INPUT: true; the input reads as it did. -/
def mendFollowsSpec : ChangeSpec := { name := "mendFollows", fn := fun _ => fun
  | [d1, d2] => { results := [.lit (.bool true)], args := [d1, d2] }
  | _ => none }
def mendFollowsRow : OpenClaim := { program := "ytccplobhfokcgaa", sum := "2740540f76390e56e67f7227e65090019d6219464fad318084749885a065f68b", func := "thatch/thatchlaw08.MendFollows", spec := "mendFollows", unfollowed := true, recurses := true, plainKeys := false, apart := false }
def MendFollowsSaid : Prop := mendFollowsRow.holds Try.pinned (OpenSpec.ofChange mendFollowsSpec)

/-- ITS FALSE NEIGHBOUR: 'it returns false'. Refute it at one input. -/
def mendFollowsWrong : ChangeSpec := { name := "mendFollows", fn := fun _ => fun
  | [d1, d2] => { results := [.lit (.bool false)], args := [d1, d2] }
  | _ => none }
def MendFollowsWrongFalsely : Prop := mendFollowsRow.holds Try.pinned (OpenSpec.ofChange mendFollowsWrong)

/-- 'thatchlaw08.MendPlans': WHATEVER THE INPUT: true; the input reads as it did. -/
def mendPlansSpec : ChangeSpec := { name := "mendPlans", fn := fun _ => fun
  | [d1, d2, d3] => { results := [.lit (.bool true)], args := [d1, d2, d3] }
  | _ => none }
def mendPlansRow : OpenClaim := { program := "ytccplobhfokcgaa", sum := "2740540f76390e56e67f7227e65090019d6219464fad318084749885a065f68b", func := "thatch/thatchlaw08.MendPlans", spec := "mendPlans", unfollowed := true, recurses := true, plainKeys := false, apart := false }
def MendPlansSaid : Prop := mendPlansRow.holds Try.pinned (OpenSpec.ofChange mendPlansSpec)

/-- ITS FALSE NEIGHBOUR: 'it returns false'. Refute it at one input. -/
def mendPlansWrong : ChangeSpec := { name := "mendPlans", fn := fun _ => fun
  | [d1, d2, d3] => { results := [.lit (.bool false)], args := [d1, d2, d3] }
  | _ => none }
def MendPlansWrongFalsely : Prop := mendPlansRow.holds Try.pinned (OpenSpec.ofChange mendPlansWrong)

/-- 'thatchlaw08.MendValues': WHATEVER THE INPUT: true; the input reads as it did. -/
def mendValuesSpec : ChangeSpec := { name := "mendValues", fn := fun _ => fun
  | [d1, d2, d3] => { results := [.lit (.bool true)], args := [d1, d2, d3] }
  | _ => none }
def mendValuesRow : OpenClaim := { program := "ytccplobhfokcgaa", sum := "2740540f76390e56e67f7227e65090019d6219464fad318084749885a065f68b", func := "thatch/thatchlaw08.MendValues", spec := "mendValues", unfollowed := true, recurses := true, plainKeys := false, apart := false }
def MendValuesSaid : Prop := mendValuesRow.holds Try.pinned (OpenSpec.ofChange mendValuesSpec)

/-- ITS FALSE NEIGHBOUR: 'it returns false'. Refute it at one input. -/
def mendValuesWrong : ChangeSpec := { name := "mendValues", fn := fun _ => fun
  | [d1, d2, d3] => { results := [.lit (.bool false)], args := [d1, d2, d3] }
  | _ => none }
def MendValuesWrongFalsely : Prop := mendValuesRow.holds Try.pinned (OpenSpec.ofChange mendValuesWrong)

/-- 'thatchlaw08.MendLate': WHATEVER THE INPUT: true; the input reads as it did. -/
def mendLateSpec : ChangeSpec := { name := "mendLate", fn := fun _ => fun
  | [d1, d2, d3, d4] => { results := [.lit (.bool true)], args := [d1, d2, d3, d4] }
  | _ => none }
def mendLateRow : OpenClaim := { program := "ytccplobhfokcgaa", sum := "2740540f76390e56e67f7227e65090019d6219464fad318084749885a065f68b", func := "thatch/thatchlaw08.MendLate", spec := "mendLate", unfollowed := true, recurses := true, plainKeys := false, apart := false }
def MendLateSaid : Prop := mendLateRow.holds Try.pinned (OpenSpec.ofChange mendLateSpec)

/-- ITS FALSE NEIGHBOUR: 'it returns false'. Refute it at one input. -/
def mendLateWrong : ChangeSpec := { name := "mendLate", fn := fun _ => fun
  | [d1, d2, d3, d4] => { results := [.lit (.bool false)], args := [d1, d2, d3, d4] }
  | _ => none }
def MendLateWrongFalsely : Prop := mendLateRow.holds Try.pinned (OpenSpec.ofChange mendLateWrong)

/-- 'thatchlaw08.MendKeeps': WHATEVER THE INPUT: true; the input reads as it did. -/
def mendKeepsSpec : ChangeSpec := { name := "mendKeeps", fn := fun _ => fun
  | [d1, d2] => { results := [.lit (.bool true)], args := [d1, d2] }
  | _ => none }
def mendKeepsRow : OpenClaim := { program := "ytccplobhfokcgaa", sum := "2740540f76390e56e67f7227e65090019d6219464fad318084749885a065f68b", func := "thatch/thatchlaw08.MendKeeps", spec := "mendKeeps", unfollowed := true, recurses := true, plainKeys := false, apart := false }
def MendKeepsSaid : Prop := mendKeepsRow.holds Try.pinned (OpenSpec.ofChange mendKeepsSpec)

/-- ITS FALSE NEIGHBOUR: 'it returns false'. Refute it at one input. -/
def mendKeepsWrong : ChangeSpec := { name := "mendKeeps", fn := fun _ => fun
  | [d1, d2] => { results := [.lit (.bool false)], args := [d1, d2] }
  | _ => none }
def MendKeepsWrongFalsely : Prop := mendKeepsRow.holds Try.pinned (OpenSpec.ofChange mendKeepsWrong)

/-- 'thatchlaw08.MendCheapest': WHATEVER THE INPUT: true; the input reads as it did. -/
def mendCheapestSpec : ChangeSpec := { name := "mendCheapest", fn := fun _ => fun
  | [d1, d2] => { results := [.lit (.bool true)], args := [d1, d2] }
  | _ => none }
def mendCheapestRow : OpenClaim := { program := "ytccplobhfokcgaa", sum := "2740540f76390e56e67f7227e65090019d6219464fad318084749885a065f68b", func := "thatch/thatchlaw08.MendCheapest", spec := "mendCheapest", unfollowed := true, recurses := true, plainKeys := false, apart := false }
def MendCheapestSaid : Prop := mendCheapestRow.holds Try.pinned (OpenSpec.ofChange mendCheapestSpec)

/-- ITS FALSE NEIGHBOUR: 'it returns false'. Refute it at one input. -/
def mendCheapestWrong : ChangeSpec := { name := "mendCheapest", fn := fun _ => fun
  | [d1, d2] => { results := [.lit (.bool false)], args := [d1, d2] }
  | _ => none }
def MendCheapestWrongFalsely : Prop := mendCheapestRow.holds Try.pinned (OpenSpec.ofChange mendCheapestWrong)

/-- 'thatchlaw08.MendEasier': WHATEVER THE INPUT: true; the input reads as it did. -/
def mendEasierSpec : ChangeSpec := { name := "mendEasier", fn := fun _ => fun
  | [d1, d2, d3, d4] => { results := [.lit (.bool true)], args := [d1, d2, d3, d4] }
  | _ => none }
def mendEasierRow : OpenClaim := { program := "ytccplobhfokcgaa", sum := "2740540f76390e56e67f7227e65090019d6219464fad318084749885a065f68b", func := "thatch/thatchlaw08.MendEasier", spec := "mendEasier", unfollowed := true, recurses := true, plainKeys := false, apart := false }
def MendEasierSaid : Prop := mendEasierRow.holds Try.pinned (OpenSpec.ofChange mendEasierSpec)

/-- ITS FALSE NEIGHBOUR: 'it returns false'. Refute it at one input. -/
def mendEasierWrong : ChangeSpec := { name := "mendEasier", fn := fun _ => fun
  | [d1, d2, d3, d4] => { results := [.lit (.bool false)], args := [d1, d2, d3, d4] }
  | _ => none }
def MendEasierWrongFalsely : Prop := mendEasierRow.holds Try.pinned (OpenSpec.ofChange mendEasierWrong)

/-- 'thatchlaw08.MendProved': WHATEVER THE INPUT: true; the input reads as it did. -/
def mendProvedSpec : ChangeSpec := { name := "mendProved", fn := fun _ => fun
  | [d1, d2, d3] => { results := [.lit (.bool true)], args := [d1, d2, d3] }
  | _ => none }
def mendProvedRow : OpenClaim := { program := "ytccplobhfokcgaa", sum := "2740540f76390e56e67f7227e65090019d6219464fad318084749885a065f68b", func := "thatch/thatchlaw08.MendProved", spec := "mendProved", unfollowed := true, recurses := true, plainKeys := false, apart := false }
def MendProvedSaid : Prop := mendProvedRow.holds Try.pinned (OpenSpec.ofChange mendProvedSpec)

/-- ITS FALSE NEIGHBOUR: 'it returns false'. Refute it at one input. -/
def mendProvedWrong : ChangeSpec := { name := "mendProved", fn := fun _ => fun
  | [d1, d2, d3] => { results := [.lit (.bool false)], args := [d1, d2, d3] }
  | _ => none }
def MendProvedWrongFalsely : Prop := mendProvedRow.holds Try.pinned (OpenSpec.ofChange mendProvedWrong)

/-- 'thatchlaw08.MendBound': WHATEVER THE INPUT: true; the input reads as it did. -/
def mendBoundSpec : ChangeSpec := { name := "mendBound", fn := fun _ => fun
  | [d1, d2, d3, d4] => { results := [.lit (.bool true)], args := [d1, d2, d3, d4] }
  | _ => none }
def mendBoundRow : OpenClaim := { program := "ytccplobhfokcgaa", sum := "2740540f76390e56e67f7227e65090019d6219464fad318084749885a065f68b", func := "thatch/thatchlaw08.MendBound", spec := "mendBound", unfollowed := true, recurses := true, plainKeys := false, apart := false }
def MendBoundSaid : Prop := mendBoundRow.holds Try.pinned (OpenSpec.ofChange mendBoundSpec)

/-- ITS FALSE NEIGHBOUR: 'it returns false'. Refute it at one input. -/
def mendBoundWrong : ChangeSpec := { name := "mendBound", fn := fun _ => fun
  | [d1, d2, d3, d4] => { results := [.lit (.bool false)], args := [d1, d2, d3, d4] }
  | _ => none }
def MendBoundWrongFalsely : Prop := mendBoundRow.holds Try.pinned (OpenSpec.ofChange mendBoundWrong)

/-- 'thatchlaw08.MendOn': WHATEVER THE INPUT: true; the input reads as it did. -/
def mendOnSpec : ChangeSpec := { name := "mendOn", fn := fun _ => fun
  | [d] => { results := [.lit (.bool true)], args := [d] }
  | _ => none }
def mendOnRow : OpenClaim := { program := "ytccplobhfokcgaa", sum := "2740540f76390e56e67f7227e65090019d6219464fad318084749885a065f68b", func := "thatch/thatchlaw08.MendOn", spec := "mendOn", unfollowed := true, recurses := true, plainKeys := false, apart := false }
def MendOnSaid : Prop := mendOnRow.holds Try.pinned (OpenSpec.ofChange mendOnSpec)

/-- ITS FALSE NEIGHBOUR: 'it returns false'. Refute it at one input. -/
def mendOnWrong : ChangeSpec := { name := "mendOn", fn := fun _ => fun
  | [d] => { results := [.lit (.bool false)], args := [d] }
  | _ => none }
def MendOnWrongFalsely : Prop := mendOnRow.holds Try.pinned (OpenSpec.ofChange mendOnWrong)

/-- 'thatchlaw08.MendPutOff': WHATEVER THE INPUT: true; the input reads as it did. -/
def mendPutOffSpec : ChangeSpec := { name := "mendPutOff", fn := fun _ => fun
  | [d1, d2, d3] => { results := [.lit (.bool true)], args := [d1, d2, d3] }
  | _ => none }
def mendPutOffRow : OpenClaim := { program := "ytccplobhfokcgaa", sum := "2740540f76390e56e67f7227e65090019d6219464fad318084749885a065f68b", func := "thatch/thatchlaw08.MendPutOff", spec := "mendPutOff", unfollowed := true, recurses := true, plainKeys := false, apart := false }
def MendPutOffSaid : Prop := mendPutOffRow.holds Try.pinned (OpenSpec.ofChange mendPutOffSpec)

/-- ITS FALSE NEIGHBOUR: 'it returns false'. Refute it at one input. -/
def mendPutOffWrong : ChangeSpec := { name := "mendPutOff", fn := fun _ => fun
  | [d1, d2, d3] => { results := [.lit (.bool false)], args := [d1, d2, d3] }
  | _ => none }
def MendPutOffWrongFalsely : Prop := mendPutOffRow.holds Try.pinned (OpenSpec.ofChange mendPutOffWrong)

/- THE SECOND FORM. 'bulk': how many values and letters a reading holds, each counted each time it is reached (what is shared counts as often as it is met; a slice's spare places count too). A statement '..UptoSaid' is the law's where the arguments, and the package variables that the reading takes, are together of bulk at most 1048576: NARROWER than '..Said'. Prove '..Said' where nothing that the law and all that it calls make is longer than what came in: it says more and counts as full. Else prove '..UptoSaid'. A law counts once. -/
mutual
def uptoBulk {H : Type} : DataW H → Nat
  | .lit (.string bytes) => bytes.length + 1
  | .lit _ => 1
  | .nil => 1
  | .ptr d => uptoBulk d + 1
  | .slice elems spare => uptoBulkAll elems + uptoBulkAll spare + 1
  | .agg parts => uptoBulkAll parts + 1
  | .iface _ d => uptoBulk d + 1
  | .map entries => uptoBulkEntries entries + 1
  | .held _ => 1
def uptoBulkAll {H : Type} : List (DataW H) → Nat
  | [] => 0
  | d :: r => uptoBulk d + uptoBulkAll r
def uptoBulkEntries {H : Type} : List (Lit × DataW H) → Nat
  | [] => 0
  | x :: r => uptoBulkEntry x + uptoBulkEntries r
def uptoBulkEntry {H : Type} : Lit × DataW H → Nat
  | (.string bytes, d) => bytes.length + uptoBulk d + 1
  | (_, d) => uptoBulk d + 1
 end
def uptoSmall : (H : Type) → List (DataW H) → Bool := fun _ ds => decide (uptoBulkAll ds ≤ 1048576)
def OpenSpec.upto (s : _root_.Go.ChangeSpec) : _root_.Go.OpenSpec := { _root_.Go.OpenSpec.ofChange s with cond := some uptoSmall }

/-- 'thatchlaw08.MendFollows', WHERE WHAT IT READS IS OF BULK AT MOST 1048576: true; the input reads as it did. -/
def mendFollowsUptoRow : OpenClaim := { program := "ytccplobhfokcgaa", sum := "2740540f76390e56e67f7227e65090019d6219464fad318084749885a065f68b", func := "thatch/thatchlaw08.MendFollows", spec := "mendFollows", unfollowed := true, recurses := true, plainKeys := false, apart := false, narrowed := true }
def MendFollowsUptoSaid : Prop := mendFollowsUptoRow.holds Try.pinned (OpenSpec.upto mendFollowsSpec)

/-- 'thatchlaw08.MendPlans', WHERE WHAT IT READS IS OF BULK AT MOST 1048576: true; the input reads as it did. -/
def mendPlansUptoRow : OpenClaim := { program := "ytccplobhfokcgaa", sum := "2740540f76390e56e67f7227e65090019d6219464fad318084749885a065f68b", func := "thatch/thatchlaw08.MendPlans", spec := "mendPlans", unfollowed := true, recurses := true, plainKeys := false, apart := false, narrowed := true }
def MendPlansUptoSaid : Prop := mendPlansUptoRow.holds Try.pinned (OpenSpec.upto mendPlansSpec)

/-- 'thatchlaw08.MendValues', WHERE WHAT IT READS IS OF BULK AT MOST 1048576: true; the input reads as it did. -/
def mendValuesUptoRow : OpenClaim := { program := "ytccplobhfokcgaa", sum := "2740540f76390e56e67f7227e65090019d6219464fad318084749885a065f68b", func := "thatch/thatchlaw08.MendValues", spec := "mendValues", unfollowed := true, recurses := true, plainKeys := false, apart := false, narrowed := true }
def MendValuesUptoSaid : Prop := mendValuesUptoRow.holds Try.pinned (OpenSpec.upto mendValuesSpec)

/-- 'thatchlaw08.MendLate', WHERE WHAT IT READS IS OF BULK AT MOST 1048576: true; the input reads as it did. -/
def mendLateUptoRow : OpenClaim := { program := "ytccplobhfokcgaa", sum := "2740540f76390e56e67f7227e65090019d6219464fad318084749885a065f68b", func := "thatch/thatchlaw08.MendLate", spec := "mendLate", unfollowed := true, recurses := true, plainKeys := false, apart := false, narrowed := true }
def MendLateUptoSaid : Prop := mendLateUptoRow.holds Try.pinned (OpenSpec.upto mendLateSpec)

/-- 'thatchlaw08.MendKeeps', WHERE WHAT IT READS IS OF BULK AT MOST 1048576: true; the input reads as it did. -/
def mendKeepsUptoRow : OpenClaim := { program := "ytccplobhfokcgaa", sum := "2740540f76390e56e67f7227e65090019d6219464fad318084749885a065f68b", func := "thatch/thatchlaw08.MendKeeps", spec := "mendKeeps", unfollowed := true, recurses := true, plainKeys := false, apart := false, narrowed := true }
def MendKeepsUptoSaid : Prop := mendKeepsUptoRow.holds Try.pinned (OpenSpec.upto mendKeepsSpec)

/-- 'thatchlaw08.MendCheapest', WHERE WHAT IT READS IS OF BULK AT MOST 1048576: true; the input reads as it did. -/
def mendCheapestUptoRow : OpenClaim := { program := "ytccplobhfokcgaa", sum := "2740540f76390e56e67f7227e65090019d6219464fad318084749885a065f68b", func := "thatch/thatchlaw08.MendCheapest", spec := "mendCheapest", unfollowed := true, recurses := true, plainKeys := false, apart := false, narrowed := true }
def MendCheapestUptoSaid : Prop := mendCheapestUptoRow.holds Try.pinned (OpenSpec.upto mendCheapestSpec)

/-- 'thatchlaw08.MendEasier', WHERE WHAT IT READS IS OF BULK AT MOST 1048576: true; the input reads as it did. -/
def mendEasierUptoRow : OpenClaim := { program := "ytccplobhfokcgaa", sum := "2740540f76390e56e67f7227e65090019d6219464fad318084749885a065f68b", func := "thatch/thatchlaw08.MendEasier", spec := "mendEasier", unfollowed := true, recurses := true, plainKeys := false, apart := false, narrowed := true }
def MendEasierUptoSaid : Prop := mendEasierUptoRow.holds Try.pinned (OpenSpec.upto mendEasierSpec)

/-- 'thatchlaw08.MendProved', WHERE WHAT IT READS IS OF BULK AT MOST 1048576: true; the input reads as it did. -/
def mendProvedUptoRow : OpenClaim := { program := "ytccplobhfokcgaa", sum := "2740540f76390e56e67f7227e65090019d6219464fad318084749885a065f68b", func := "thatch/thatchlaw08.MendProved", spec := "mendProved", unfollowed := true, recurses := true, plainKeys := false, apart := false, narrowed := true }
def MendProvedUptoSaid : Prop := mendProvedUptoRow.holds Try.pinned (OpenSpec.upto mendProvedSpec)

/-- 'thatchlaw08.MendBound', WHERE WHAT IT READS IS OF BULK AT MOST 1048576: true; the input reads as it did. -/
def mendBoundUptoRow : OpenClaim := { program := "ytccplobhfokcgaa", sum := "2740540f76390e56e67f7227e65090019d6219464fad318084749885a065f68b", func := "thatch/thatchlaw08.MendBound", spec := "mendBound", unfollowed := true, recurses := true, plainKeys := false, apart := false, narrowed := true }
def MendBoundUptoSaid : Prop := mendBoundUptoRow.holds Try.pinned (OpenSpec.upto mendBoundSpec)

/-- 'thatchlaw08.MendOn', WHERE WHAT IT READS IS OF BULK AT MOST 1048576: true; the input reads as it did. -/
def mendOnUptoRow : OpenClaim := { program := "ytccplobhfokcgaa", sum := "2740540f76390e56e67f7227e65090019d6219464fad318084749885a065f68b", func := "thatch/thatchlaw08.MendOn", spec := "mendOn", unfollowed := true, recurses := true, plainKeys := false, apart := false, narrowed := true }
def MendOnUptoSaid : Prop := mendOnUptoRow.holds Try.pinned (OpenSpec.upto mendOnSpec)

/-- 'thatchlaw08.MendPutOff', WHERE WHAT IT READS IS OF BULK AT MOST 1048576: true; the input reads as it did. -/
def mendPutOffUptoRow : OpenClaim := { program := "ytccplobhfokcgaa", sum := "2740540f76390e56e67f7227e65090019d6219464fad318084749885a065f68b", func := "thatch/thatchlaw08.MendPutOff", spec := "mendPutOff", unfollowed := true, recurses := true, plainKeys := false, apart := false, narrowed := true }
def MendPutOffUptoSaid : Prop := mendPutOffUptoRow.holds Try.pinned (OpenSpec.upto mendPutOffSpec)

end Rows
end Go.Proofs.Ytccplobhfokcgaa
