/- demand: a plan that may not be leaves by a panic. -/
import Derived.Test.YtcbhldfipfcjaaaGreatDoorPa
import Derived.Test.YtcbhldfipfcjaaaGreatDoorRh
import Derived.Test.YtcbhldfipfcjaaaGreatDoorMu2
import Derived.Defers
import Derived.Recover

namespace Go.Proofs.YtcbhldfipfcjaaaGreatDoor
open Go Go.RowKit Go.Shelf
set_option maxRecDepth 100000

/-- A slice of slices of whole numbers. -/
def RowsAt (w : World) (n0 : Nat) (v : Value) (xss : List (List Int)) : Prop := ∃ A c, v = .slice A xss.length c ∧ xss.length ≤ 9223372036854775807 ∧
  (xss ≠ [] → ∃ b o, A = some ⟨b, o, none⟩ ∧ b < n0 ∧ ∀ i xs, xss[i]? = some xs → ∃ u, w.cell? ⟨b, o + i, none⟩ = some u ∧ IntsAt w n0 u xs)
theorem RowsAt.below {w w' : World} {n0 : Nat} {v : Value} {xss : List (List Int)} (h : RowsAt w n0 v xss) (hb : Below n0 w w') : RowsAt w' n0 v xss := by
  obtain ⟨A, c, e, hl, hr⟩ := h
  refine ⟨A, c, e, hl, fun hn => ?_⟩
  obtain ⟨b, o, e, hlt, hc⟩ := hr hn
  refine ⟨b, o, e, hlt, fun i xs hx => ?_⟩
  obtain ⟨u, h1, h2⟩ := hc i xs hx
  exact ⟨u, (hb.cell (p := ⟨b, o + i, none⟩) hlt).trans h1, h2.below hb⟩
theorem RowsAt.mono {w : World} {n0 n1 : Nat} {v : Value} {xss : List (List Int)} (h : RowsAt w n0 v xss) (hn : n0 ≤ n1) : RowsAt w n1 v xss := by
  obtain ⟨A, c, e, hl, hr⟩ := h
  refine ⟨A, c, e, hl, fun hne => ?_⟩
  obtain ⟨b, o, e, hlt, hc⟩ := hr hne
  refine ⟨b, o, e, Nat.lt_of_lt_of_le hlt hn, fun i xs hx => ?_⟩
  obtain ⟨u, h1, h2⟩ := hc i xs hx
  exact ⟨u, h1, h2.mono hn⟩

/-- May a plan be? -/
def planOk (m : Wk) (plan : List (List Int)) : Bool := decide ((plan.length : Int) = m.years) && plan.all (mayS m)
def badV : Value := .iface 87 (.agg #[])

def DemandPost (m : Wk) (plan : List (List Int)) (w : World) (e : Ending) (w' : World) : Prop :=
  e = (if planOk m plan then .returned (.tuple #[]) else .panicked [{ v := badV, recovered := false }]) ∧ Below w.heap.size w w'
set_option maxHeartbeats 1000000 in
theorem demand_calls (m : Wk) (sA cA mA : Option Addr) (sc cn cc mc : Nat) (pv : Value) (plan : List (List Int)) (w : World) (hp : RowsAt w w.heap.size pv plan) (hm : m.crafts.length ≤ 1000) (hs : m.slopes.length ≤ 1000) :
    Calls Tryz.prog 40 #[.agg #[.slice sA m.slopes.length sc, .slice cA cn cc, .int .i64 m.years, .int .i64 m.visit, .int .i64 m.hands, .slice mA m.crafts.length mc], pv] w
      (DemandPost m plan w) := by
  obtain ⟨A, c, rfl, hl, hr⟩ := hp
  have HR := Lib.hid hr
  clear hr
  by_cases hy : (plan.length : Int) = m.years
  · have hfin : ∀ b, plan.all (mayS m) = b → planOk m plan = b := fun b hb => by unfold planOk; rw [hb]; simp [hy]
    have HF := Lib.hid hfin
    clear hfin
    have hy1 : (!((plan.length : Int) == m.years)) = false := by simpa using hy
    have hy2 : ((plan.length : Int) != m.years) = false := by simpa using hy
    have hmay := fun (w1 : World) (rA : Option Addr) (rc : Nat) (row : List Int) h => may_calls m sA cA mA rA sc cn cc mc rc row w1 h hm hs
    have HM := Lib.hid hmay
    clear hmay hy
    go_enter Tryz.func40, Tryz.ntmps40
    go_wp2_with fail
    go_loopw [16] (fun i wr => ∃ k : Nat, k ≤ plan.length ∧ i = .int .i64 (k : Int) ∧ Hid ((plan.take k).all (mayS m) = true) ∧ Hid (Below w.heap.size w wr) ∧
        Hid (wr.heap[w.heap.size]? = some (.cells #[.slice sA m.slopes.length sc, .slice cA cn cc, .int .i64 m.years, .int .i64 m.visit, .int .i64 m.hands, .slice mA m.crafts.length mc] 90 (0, 0)))) (fun i _ => plan.length - (intOf i).toNat)
    case atStart => exact ⟨0, Nat.zero_le _, rfl, Lib.hid (by simp), Lib.hid (below1 _ _), Lib.hid (heap_alloc_self _ _)⟩
    case round =>
      obtain ⟨k, hk, rfl, HA, hbe, hbx⟩ := hrel
      obtain ⟨m0, m1, m2, m3, m4, m5⟩ := blk6 hbx.out
      by_cases hlt : k < plan.length
      · obtain ⟨b, o, rfl, hb, hss⟩ := HR.out (by intro e; simp [e] at hlt)
        obtain ⟨u, hu, rA, rc, rfl, hrow⟩ := hss k _ (List.getElem?_eq_getElem hlt)
        have hu' : wr.cell? ⟨b, o + k, none⟩ = some (.slice rA plan[k].length rc) := (hbe.out.cell (p := ⟨b, o + k, none⟩) hb).trans hu
        have hil : (k : Int) < (plan.length : Int) := by omega
        have hi0 : (0 : Int) ≤ (k : Int) := by omega
        have hadd : IntKind.i64.wrap ((k : Int) + 1) = (k : Int) + 1 := IntWalk.i64_in _ (by omega)
        have hc := HM.out wr rA rc plan[k] ((hrow.below hbe.out).mono hbe.out.size)
        have hts : plan.take (k + 1) = plan.take k ++ [plan[k]] := List.take_succ_eq_append_getElem hlt
        have hmem : plan[k] ∈ plan := List.getElem_mem hlt
        have HC := Lib.hid hc
        have HTS := Lib.hid hts
        have HME := Lib.hid hmem
        clear hc hts hmem hss hrow hu
        generalize plan[k] = row at *
        generalize hmq : mayS m row = q at *
        have HQ := Lib.hid hmq
        clear hmq
        cases q
        · go_wp2_with (go_at_call 63; refine HC.out.mono ?_; rintro e w1 ⟨rfl, hb1⟩; have HB1 := Lib.hid hb1; clear hb1)
          have hbad : planOk m plan = false := HF.out false (List.all_eq_false.2 ⟨row, HME.out, by simp [HQ.out]⟩)
          exact ⟨rfl, by rw [hbad]; rfl, hbe.out.trans (HB1.out.mono hbe.out.size)⟩
        · go_wp2_with (go_at_call 63; refine HC.out.mono ?_; rintro e w1 ⟨rfl, hb1⟩; have HB1 := Lib.hid hb1; clear hb1)
          go_roundw
          case rel => exact ⟨k + 1, by omega, by go_num, Lib.hid (by rw [HTS.out, List.all_append, HA.out]; simp [HQ.out]), Lib.hid (hbe.out.trans (HB1.out.mono hbe.out.size)), Lib.hid (blk_below HB1.out hbx.out (lt_blk hbx.out))⟩
          case measure => simp [intOf]; omega
      · have hke : k = plan.length := by omega
        have hall : planOk m plan = true := HF.out true (by have := HA.out; rwa [hke, List.take_length] at this)
        have HALL := Lib.hid hall
        have hil : ¬ (k : Int) < (plan.length : Int) := by omega
        clear hall hke
        go_wp2_with fail
        go_end0
        exact ⟨by rw [HALL.out]; rfl, hbe.out⟩
  · have hfin : planOk m plan = false := by unfold planOk; simp [hy]
    have HF := Lib.hid hfin
    have hy1 : (!((plan.length : Int) == m.years)) = true := by simpa using hy
    have hy2 : ((plan.length : Int) != m.years) = true := by simpa using hy
    clear hfin
    go_enter Tryz.func40, Tryz.ntmps40
    go_wp2_with fail
    exact ⟨rfl, by rw [HF.out]; rfl, below1 _ _⟩
end Go.Proofs.YtcbhldfipfcjaaaGreatDoor
