/- slices.SortFunc at states. -/
import Derived.Test.YtnbnhcoaggpmaaaMt0
import Derived.Shelf.SlSortCmp.WholeK
import Derived.Shelf.SlSortCmp.NoneTotal
import Derived.Ground.SlsfProg

namespace Go.Proofs.Ytnbnhcoaggpmaaa
open Go Go.RowKit Go.Shelf Go.Sort
set_option maxRecDepth 100000
def Try.sortSt_ren : Go.Shelf.Ren := ⟨fun | 6 => 53 | 15 => 70 | 14 => 69 | 28 => 82 | 29 => 83 | 20 => 74 | 21 => 75 | 22 => 76 | 23 => 77 | 24 => 78 | 25 => 79 | 26 => 80 | 27 => 81 | 46 => 87 | 47 => 88 | 48 => 89 | 49 => 90 | 50 => 91 | 57 => 92 | n => n, fun | 22 => 81 | 24 => 79 | 25 => 119 | 3 => 3 | 39 => 141 | 0 => 0 | 53 => 155 | 55 => 157 | 4 => 4 | 46 => 149 | 45 => 148 | 50 => 121 | 5 => 5 | 9 => 9 | 66 => 163 | 70 => 167 | 76 => 169 | 77 => 170 | n => n, fun | n => n⟩
theorem Try.sortSt : Go.Proofs.SlLaysF0.n6 Try.prog Try.sortSt_ren := {
  mixed := by kernel_rfl
  f6 := ⟨Try.f53.name, by decide, Try.func53.trans (congrArg some (by kernel_rfl))⟩
  f14 := ⟨Try.f69.name, by decide, Try.func69.trans (congrArg some (by kernel_rfl))⟩
  f15 := Try.func70.trans (congrArg some (by kernel_rfl))
  f20 := ⟨Try.f74.name, by decide, Try.func74.trans (congrArg some (by kernel_rfl))⟩
  f21 := ⟨Try.f75.name, by decide, Try.func75.trans (congrArg some (by kernel_rfl))⟩
  f22 := ⟨Try.f76.name, by decide, Try.func76.trans (congrArg some (by kernel_rfl))⟩
  f23 := ⟨Try.f77.name, by decide, Try.func77.trans (congrArg some (by kernel_rfl))⟩
  f24 := ⟨Try.f78.name, by decide, Try.func78.trans (congrArg some (by kernel_rfl))⟩
  f25 := ⟨Try.f79.name, by decide, Try.func79.trans (congrArg some (by kernel_rfl))⟩
  f26 := ⟨Try.f80.name, by decide, Try.func80.trans (congrArg some (by kernel_rfl))⟩
  f27 := ⟨Try.f81.name, by decide, Try.func81.trans (congrArg some (by kernel_rfl))⟩
  f28 := Try.func82.trans (congrArg some (by kernel_rfl))
  f29 := Try.func83.trans (congrArg some (by kernel_rfl))
  f46 := ⟨Try.f87.name, by decide, Try.func87.trans (congrArg some (by kernel_rfl))⟩
  f47 := Try.func88.trans (congrArg some (by kernel_rfl))
  f48 := Try.func89.trans (congrArg some (by kernel_rfl))
  f49 := ⟨Try.f90.name, by decide, Try.func90.trans (congrArg some (by kernel_rfl))⟩
  f50 := ⟨Try.f91.name, by decide, Try.func91.trans (congrArg some (by kernel_rfl))⟩
  f57 := ⟨Try.f92.name, by decide, Try.func92.trans (congrArg some (by kernel_rfl))⟩
  t0 := Try.underlying0
  a0 := Try.isAgg0
  z0 := Try.sizeOf0
  v0 := Try.zeroValue0
  t3 := Try.underlying3
  a3 := Try.isAgg3
  z3 := Try.sizeOf3
  v3 := Try.zeroValue3
  t4 := Try.underlying4
  a4 := Try.isAgg4
  z4 := Try.sizeOf4
  v4 := Try.zeroValue4
  t5 := Try.underlying5
  a5 := Try.isAgg5
  z5 := Try.sizeOf5
  v5 := Try.zeroValue5
  t9 := Try.underlying9
  a9 := Try.isAgg9
  z9 := Try.sizeOf9
  v9 := Try.zeroValue9
  t22 := Try.underlying81
  a22 := Try.isAgg81
  z22 := Try.sizeOf81
  v22 := Try.zeroValue81
  t25 := Try.underlying119
  a25 := Try.isAgg119
  z25 := Try.sizeOf119
  v25 := Try.zeroValue119
  t39 := Try.underlying141
  a39 := Try.isAgg141
  z39 := Try.sizeOf141
  v39 := Try.zeroValue141
  t45 := Try.underlying148
  a45 := Try.isAgg148
  z45 := Try.sizeOf148
  v45 := Try.zeroValue148
  t46 := Try.underlying149
  a46 := Try.isAgg149
  z46 := Try.sizeOf149
  v46 := Try.zeroValue149
  t50 := Try.underlying121
  a50 := Try.isAgg121
  z50 := Try.sizeOf121
  v50 := Try.zeroValue121
  t53 := Try.underlying155
  a53 := Try.isAgg155
  z53 := Try.sizeOf155
  v53 := Try.zeroValue155
  t55 := Try.underlying157
  a55 := Try.isAgg157
  z55 := Try.sizeOf157
  v55 := Try.zeroValue157
  t66 := Try.underlying163
  a66 := Try.isAgg163
  z66 := Try.sizeOf163
  v66 := Try.zeroValue163
  t70 := Try.underlying167
  a70 := Try.isAgg167
  z70 := Try.sizeOf167
  v70 := Try.zeroValue167
  t76 := Try.underlying169
  a76 := Try.isAgg169
  z76 := Try.sizeOf169
  v76 := Try.zeroValue169
  t77 := Try.underlying170
  a77 := Try.isAgg170
  z77 := Try.sizeOf170
  v77 := Try.zeroValue170 }
theorem cmpLays (blk off size : Nat) (w : World) : CmpLays Try.prog 54 #[] stC 5 cmpS blk off size w := fun _ _ _ _ x y => compare_calls x y _

theorem flat_cells (L : List St) : (flatK stC 5 L.toArray).toList = cellsL L := by
  refine List.ext_getElem? fun j => ?_
  by_cases hj : j < L.length * 5
  · have h1 := get_flatK stC 5 L.toArray j (by simpa using hj)
    have hq : j / 5 < L.length := by omega
    have h2 : (flatK stC 5 L.toArray).toList[j]? = some ((flatK stC 5 L.toArray)[j]!) := by
      rw [getElem!_pos _ _ (by simpa using hj)]; simp [hj]
    rw [h2, h1]
    have h3 : ∀ (L : List St) (j : Nat), j < L.length * 5 → (cellsL L)[j]? = (stC (L[j / 5]!))[j % 5]? := by
      intro L
      induction L with
      | nil => intro j h; simp at h
      | cons x L ih =>
        intro j h
        have : cellsL (x :: L) = stC x ++ cellsL L := by simp [cellsL]
        rw [this]
        by_cases h5 : j < 5
        · rw [List.getElem?_append_left (by simpa [stC] using h5), Nat.div_eq_of_lt h5, Nat.mod_eq_of_lt h5]; rfl
        · rw [List.getElem?_append_right (by simp [stC]; omega)]
          have hl : (stC x).length = 5 := rfl
          have h6 := ih (j - 5) (by simp only [List.length_cons] at h; omega)
          rw [hl, h6, show j / 5 = (j - 5) / 5 + 1 by omega, show (j - 5) % 5 = j % 5 by omega]
          simp
    rw [h3 L j hj]
    have h4 : (stC (L[j / 5]!)).length = 5 := rfl
    rw [show (L.toArray)[j / 5]! = L[j / 5]! by simp]
    rw [getElem!_pos _ _ (by rw [h4]; omega), List.getElem?_eq_getElem]
  · rw [List.getElem?_eq_none (by simp; omega), List.getElem?_eq_none (by rw [cellsL_length]; omega)]

theorem getD_cells {cur : Array Value} {n : Nat} {xs : List Value} (h : cur.toList.take n = xs) (j : Nat) (hj : j < n) : cur[j]? = xs[j]? := by
  rw [← h, List.getElem?_take, if_pos hj]; simp
theorem sort_calls (base : Nat) (v : Value) (L : List St) (w : World) (hown : w.ownsRow base 79 5 v L.length (cellsL L)) (hne : L ≠ []) (hlen : L.length ≤ 3000) :
    Calls Try.prog 53 #[v, .func (.func 54) #[] #[]] w fun e w' => e = .returned (.tuple #[]) ∧
      w'.ownsRow base 79 5 v L.length (cellsL (sortL L)) ∧ Bel (fun k => v.ownBlock = some k) w w' := by
  obtain ⟨hxl, ⟨_, h0⟩ | ⟨g, cap, cur, rfl, hbg, hg, hcap, hcm, hcs, hct⟩⟩ := hown
  · exact absurd (List.length_eq_zero_iff.1 h0) hne
  have eg : ∀ args w, (callFunc 54 args).run Try.prog w = .ok (.enter 54 args) w := enters_of Try.func54 (by kernel_rfl) rfl
  have hag : ∀ w, (isAgg 79).run Try.prog w = .ok true w := by intro w; kernel_rfl
  have hsz : ∀ w, (sizeOf 79).run Try.prog w = .ok 5 w := by intro w; kernel_rfl
  have hH : HoldsK stC 5 w g 0 L.toArray := by
    intro j hj
    have hj5 : j < L.length * 5 := by simpa using hj
    refine ⟨?_, by rw [Nat.zero_add]; exact frozen_blk hg j⟩
    rw [Nat.zero_add, cell_blk hg, getD_cells hct j hj5, ← flat_cells L]
    rw [getElem!_pos (flatK stC 5 L.toArray) j hj]; simp [hj5]
  have hcon := AnyQ.slices_SortFunc_total Try.sortSt 5 hag hsz stC (fun _ => rfl) (fun x v hv => by simp [stC] at hv; rcases hv with rfl | rfl | rfl | rfl | rfl <;> rfl) cmpS swoS 54 #[] g 0 cap L.toArray w eg (cmpLays g 0 L.toArray.size w) hH (lt_blk hg) (by simp; omega) ltS_total
  change Calls Try.prog 53 _ _ _ at hcon
  refine hcon.mono ?_
  rintro e w' ⟨he, q, os, rfl⟩
  have hsl : (sortL L).length = L.length := by simp [sortL]
  have hF : (flatK stC 5 (sortL L).toArray).size = L.length * 5 := by simp [hsl]
  have hgs := lt_blk hg
  have hg' : (sortWorldK stC 5 w g 0 q (sortL L).toArray os).heap[g]? = some (.cells (putCells id 0 (flatK stC 5 (sortL L).toArray) cur) 79 (0, 0)) := by
    unfold sortWorldK grow putRowK putRow mapBlock Sort.ahead
    simp only
    rw [Array.getElem?_append_left (by simpa using hgs), Array.getElem?_modify, if_pos rfl, hg]
    rfl
  have hko : ∀ k, k < w.heap.size → k ≠ g → (sortWorldK stC 5 w g 0 q (sortL L).toArray os).heap[k]? = w.heap[k]? := by
    intro k hk hne
    unfold sortWorldK grow putRowK putRow mapBlock Sort.ahead
    simp only
    rw [Array.getElem?_append_left (by simpa using hk), Array.getElem?_modify, if_neg (fun e => hne e.symm)]
  refine ⟨he, ⟨by rw [cellsL_length, hsl], .inr ⟨g, cap, _, rfl, hbg, hg', hcap, hcm, by simp [putCells, hcs], ?_⟩⟩, ⟨rfl, rfl, rfl, by simp [sortWorldK, grow, putRowK, putRow, mapBlock, Sort.ahead], fun k hk hn => hko k hk (fun e => hn (by rw [e]; rfl))⟩⟩
  rw [← flat_cells]
  refine List.ext_getElem? fun j => ?_
  rw [List.getElem?_take]
  by_cases hj : j < L.length * 5
  · rw [if_pos hj]
    have hjc : j < cur.size := by rw [hcs]; exact Nat.lt_of_lt_of_le hj (Nat.mul_le_mul_right 5 hcap)
    have hjF : j < (flatK stC 5 (sortL L).toArray).size := by rw [hF]; exact hj
    rw [Array.getElem?_toList, Array.getElem?_toList, putCells, Array.getElem?_mapIdx, Array.getElem?_eq_getElem hjc]
    simp only [Option.map_some]
    rw [if_pos ⟨Nat.zero_le _, by omega⟩, Array.getElem?_eq_getElem hjF, Nat.sub_zero, getElem!_pos (flatK stC 5 (sortL L).toArray) j hjF]
    rfl
  · rw [if_neg hj, List.getElem?_eq_none (by simp [hsl]; omega)]
end Go.Proofs.Ytnbnhcoaggpmaaa
