/- Bytes that came in, opened. -/
import Derived.Test.YtccplobhfokcgaaAr
import Derived.Test.YtccplobhfokcgaaKp
import Derived.OpenShut
namespace Go.Proofs.Ytccplobhfokcgaa
open Go Go.RowKit Go.Shelf
open Go.Joins Go.ChangeShapes Go.WideShapes Go.Deep Go.OpenShut
set_option maxRecDepth 100000

section
variable {H : Type} {enc : TypeId × Value → H} {w : World} {base : Nat} {held : Bool}
theorem open_bytes_at {fuel : Nat} {cs : List Value} {x : DataW H × List MemPlace} (h : DataW.trod enc Try.prog w base (fun _ => true) held fuel 53 cs = some x) : ∃ v xs, cs = [v] ∧ BytesAt w w.heap.size v xs := by
  rcases open_ints Try.underlying53 Try.underlying5 (by kernel_rfl) h with ⟨rfl, _⟩ | ⟨a, l, c, zs, rfl, _, hl, hm, hz, _, hcell, hwz⟩
  · exact ⟨_, [], rfl, none, 0, rfl, ⟨by simp, fun hn => absurd rfl hn⟩, fun b hb => by cases hb⟩
  · have hzl : zs.length = c := by simpa using hz
    have hml : c ≤ 9223372036854775807 := by simp only [maxLen] at hm; omega
    refine ⟨_, zs.take l, rfl, some a, c, by rw [List.length_take, hzl, Nat.min_eq_left hl], ⟨by rw [List.length_map, List.length_take]; omega, fun hn => ?_⟩, fun b hb => bounds_u8 (hwz b (List.mem_of_mem_take hb))⟩
    have hl0 : 0 < l := by
      rcases Nat.eq_zero_or_pos l with e | e
      · rw [e] at hn; simp at hn
      · exact e
    have h0 := hcell 0 (by omega)
    obtain ⟨b, o, sp⟩ := a
    have hsp : sp = none := by simpa [Addr.add] using World.cell?_spot h0
    subst hsp
    refine ⟨b, o, rfl, by simpa [Addr.add] using cell_lt h0, fun j u hu => ?_⟩
    rw [List.getElem?_map, List.getElem?_take] at hu
    split at hu
    · rename_i hjl
      have hj : j < zs.length := by omega
      rw [List.getElem?_eq_getElem hj] at hu
      simp at hu
      subst hu
      have := hcell j hj
      rw [getD_lt hj] at this
      rw [add_plain] at this
      exact this
    · simp at hu
end
end Go.Proofs.Ytccplobhfokcgaa
