/- slices.SortFunc at states. -/
import Derived.Test.YtccplobhfokcgaaMt0
import Derived.Shelf.SlSortCmp.WholeK
import Derived.Shelf.SlSortCmp.NoneTotal
import Derived.Ground.SlsfProg
namespace Go.Proofs.Ytccplobhfokcgaa
open Go Go.RowKit Go.Shelf Go.Sort
set_option maxRecDepth 100000
def Try.sortSt_ren : Go.Shelf.Ren := ⟨fun | 6 => 68 | 15 => 75 | 14 => 74 | 28 => 86 | 29 => 87 | 20 => 78 | 21 => 79 | 22 => 80 | 23 => 81 | 24 => 82 | 25 => 83 | 26 => 84 | 27 => 85 | 46 => 90 | 47 => 91 | 48 => 92 | 49 => 93 | 50 => 94 | 57 => 95 | n => n, fun | 22 => 91 | 24 => 79 | 25 => 108 | 3 => 3 | 39 => 134 | 0 => 0 | 53 => 146 | 55 => 148 | 4 => 4 | 46 => 140 | 45 => 139 | 50 => 103 | 5 => 5 | 9 => 9 | 66 => 153 | 70 => 157 | 76 => 159 | 77 => 160 | n => n, fun | n => n⟩
theorem Try.sortSt : Go.Proofs.SlLaysF0.n6 Try.prog Try.sortSt_ren := {
  mixed := by kernel_rfl
  f6 := ⟨Try.f68.name, by decide, Try.func68.trans (congrArg some (by kernel_rfl))⟩
  f14 := ⟨Try.f74.name, by decide, Try.func74.trans (congrArg some (by kernel_rfl))⟩
  f15 := Try.func75.trans (congrArg some (by kernel_rfl))
  f20 := ⟨Try.f78.name, by decide, Try.func78.trans (congrArg some (by kernel_rfl))⟩
  f21 := ⟨Try.f79.name, by decide, Try.func79.trans (congrArg some (by kernel_rfl))⟩
  f22 := ⟨Try.f80.name, by decide, Try.func80.trans (congrArg some (by kernel_rfl))⟩
  f23 := ⟨Try.f81.name, by decide, Try.func81.trans (congrArg some (by kernel_rfl))⟩
  f24 := ⟨Try.f82.name, by decide, Try.func82.trans (congrArg some (by kernel_rfl))⟩
  f25 := ⟨Try.f83.name, by decide, Try.func83.trans (congrArg some (by kernel_rfl))⟩
  f26 := ⟨Try.f84.name, by decide, Try.func84.trans (congrArg some (by kernel_rfl))⟩
  f27 := ⟨Try.f85.name, by decide, Try.func85.trans (congrArg some (by kernel_rfl))⟩
  f28 := Try.func86.trans (congrArg some (by kernel_rfl))
  f29 := Try.func87.trans (congrArg some (by kernel_rfl))
  f46 := ⟨Try.f90.name, by decide, Try.func90.trans (congrArg some (by kernel_rfl))⟩
  f47 := Try.func91.trans (congrArg some (by kernel_rfl))
  f48 := Try.func92.trans (congrArg some (by kernel_rfl))
  f49 := ⟨Try.f93.name, by decide, Try.func93.trans (congrArg some (by kernel_rfl))⟩
  f50 := ⟨Try.f94.name, by decide, Try.func94.trans (congrArg some (by kernel_rfl))⟩
  f57 := ⟨Try.f95.name, by decide, Try.func95.trans (congrArg some (by kernel_rfl))⟩
  t0 := Try.underlying0
  a0 := Try.isAgg0
  z0 := Try.sizeOf0
  v0 := Try.zeroValue0
  t3 := Try.underlying3
  a3 := Try.isAgg3
  z3 := Try.sizeOf3
  v3 := Try.zeroValue3
  t4 := Try.underlying4
  a4 := Try.isAgg4
  z4 := Try.sizeOf4
  v4 := Try.zeroValue4
  t5 := Try.underlying5
  a5 := Try.isAgg5
  z5 := Try.sizeOf5
  v5 := Try.zeroValue5
  t9 := Try.underlying9
  a9 := Try.isAgg9
  z9 := Try.sizeOf9
  v9 := Try.zeroValue9
  t22 := Try.underlying91
  a22 := Try.isAgg91
  z22 := Try.sizeOf91
  v22 := Try.zeroValue91
  t25 := Try.underlying108
  a25 := Try.isAgg108
  z25 := Try.sizeOf108
  v25 := Try.zeroValue108
  t39 := Try.underlying134
  a39 := Try.isAgg134
  z39 := Try.sizeOf134
  v39 := Try.zeroValue134
  t45 := Try.underlying139
  a45 := Try.isAgg139
  z45 := Try.sizeOf139
  v45 := Try.zeroValue139
  t46 := Try.underlying140
  a46 := Try.isAgg140
  z46 := Try.sizeOf140
  v46 := Try.zeroValue140
  t50 := Try.underlying103
  a50 := Try.isAgg103
  z50 := Try.sizeOf103
  v50 := Try.zeroValue103
  t53 := Try.underlying146
  a53 := Try.isAgg146
  z53 := Try.sizeOf146
  v53 := Try.zeroValue146
  t55 := Try.underlying148
  a55 := Try.isAgg148
  z55 := Try.sizeOf148
  v55 := Try.zeroValue148
  t66 := Try.underlying153
  a66 := Try.isAgg153
  z66 := Try.sizeOf153
  v66 := Try.zeroValue153
  t70 := Try.underlying157
  a70 := Try.isAgg157
  z70 := Try.sizeOf157
  v70 := Try.zeroValue157
  t76 := Try.underlying159
  a76 := Try.isAgg159
  z76 := Try.sizeOf159
  v76 := Try.zeroValue159
  t77 := Try.underlying160
  a77 := Try.isAgg160
  z77 := Try.sizeOf160
  v77 := Try.zeroValue160 }
theorem cmpLays (blk off size : Nat) (w : World) : CmpLays Try.prog 60 #[] stC 5 cmpS blk off size w := fun _ _ _ _ x y => compare_calls x y _

theorem flat_cells (L : List St) : (flatK stC 5 L.toArray).toList = cellsL L := by
  refine List.ext_getElem? fun j => ?_
  by_cases hj : j < L.length * 5
  · have h1 := get_flatK stC 5 L.toArray j (by simpa using hj)
    have hq : j / 5 < L.length := by omega
    have h2 : (flatK stC 5 L.toArray).toList[j]? = some ((flatK stC 5 L.toArray)[j]!) := by
      rw [getElem!_pos _ _ (by simpa using hj)]; simp [hj]
    rw [h2, h1]
    have h3 : ∀ (L : List St) (j : Nat), j < L.length * 5 → (cellsL L)[j]? = (stC (L[j / 5]!))[j % 5]? := by
      intro L
      induction L with
      | nil => intro j h; simp at h
      | cons x L ih =>
        intro j h
        have : cellsL (x :: L) = stC x ++ cellsL L := by simp [cellsL]
        rw [this]
        by_cases h5 : j < 5
        · rw [List.getElem?_append_left (by simpa [stC] using h5), Nat.div_eq_of_lt h5, Nat.mod_eq_of_lt h5]; rfl
        · rw [List.getElem?_append_right (by simp [stC]; omega)]
          have hl : (stC x).length = 5 := rfl
          have h6 := ih (j - 5) (by simp only [List.length_cons] at h; omega)
          rw [hl, h6, show j / 5 = (j - 5) / 5 + 1 by omega, show (j - 5) % 5 = j % 5 by omega]
          simp
    rw [h3 L j hj]
    have h4 : (stC (L[j / 5]!)).length = 5 := rfl
    rw [show (L.toArray)[j / 5]! = L[j / 5]! by simp]
    rw [getElem!_pos _ _ (by rw [h4]; omega), List.getElem?_eq_getElem]
  · rw [List.getElem?_eq_none (by simp; omega), List.getElem?_eq_none (by rw [cellsL_length]; omega)]

theorem getD_cells {cur : Array Value} {n : Nat} {xs : List Value} (h : cur.toList.take n = xs) (j : Nat) (hj : j < n) : cur[j]? = xs[j]? := by
  rw [← h, List.getElem?_take, if_pos hj]; simp
theorem sort_calls (base : Nat) (v : Value) (L : List St) (w : World) (hown : w.ownsRow base 79 5 v L.length (cellsL L)) (hne : L ≠ []) (hlen : L.length ≤ 3000) :
    Calls Try.prog 68 #[v, .func (.func 60) #[] #[]] w fun e w' => e = .returned (.tuple #[]) ∧
      w'.ownsRow base 79 5 v L.length (cellsL (sortL L)) ∧ Bel (fun k => v.ownBlock = some k) w w' := by
  obtain ⟨hxl, ⟨_, h0⟩ | ⟨g, cap, cur, rfl, hbg, hg, hcap, hcm, hcs, hct⟩⟩ := hown
  · exact absurd (List.length_eq_zero_iff.1 h0) hne
  have eg : ∀ args w, (callFunc 60 args).run Try.prog w = .ok (.enter 60 args) w := enters_of Try.func60 (by kernel_rfl) rfl
  have hag : ∀ w, (isAgg 79).run Try.prog w = .ok true w := by intro w; kernel_rfl
  have hsz : ∀ w, (sizeOf 79).run Try.prog w = .ok 5 w := by intro w; kernel_rfl
  have hH : HoldsK stC 5 w g 0 L.toArray := by
    intro j hj
    have hj5 : j < L.length * 5 := by simpa using hj
    refine ⟨?_, by rw [Nat.zero_add]; exact frozen_blk hg j⟩
    rw [Nat.zero_add, cell_blk hg, getD_cells hct j hj5, ← flat_cells L]
    rw [getElem!_pos (flatK stC 5 L.toArray) j hj]; simp [hj5]
  have hcon := AnyQ.slices_SortFunc_total Try.sortSt 5 hag hsz stC (fun _ => rfl) (fun x v hv => by simp [stC] at hv; rcases hv with rfl | rfl | rfl | rfl | rfl <;> rfl) cmpS swoS 60 #[] g 0 cap L.toArray w eg (cmpLays g 0 L.toArray.size w) hH (lt_blk hg) (by simp; omega) ltS_total
  change Calls Try.prog 68 _ _ _ at hcon
  refine hcon.mono ?_
  rintro e w' ⟨he, q, os, rfl⟩
  have hsl : (sortL L).length = L.length := by simp [sortL]
  have hF : (flatK stC 5 (sortL L).toArray).size = L.length * 5 := by simp [hsl]
  have hgs := lt_blk hg
  have hg' : (sortWorldK stC 5 w g 0 q (sortL L).toArray os).heap[g]? = some (.cells (putCells id 0 (flatK stC 5 (sortL L).toArray) cur) 79 (0, 0)) := by
    unfold sortWorldK grow putRowK putRow mapBlock Sort.ahead
    simp only
    rw [Array.getElem?_append_left (by simpa using hgs), Array.getElem?_modify, if_pos rfl, hg]
    rfl
  have hko : ∀ k, k < w.heap.size → k ≠ g → (sortWorldK stC 5 w g 0 q (sortL L).toArray os).heap[k]? = w.heap[k]? := by
    intro k hk hne
    unfold sortWorldK grow putRowK putRow mapBlock Sort.ahead
    simp only
    rw [Array.getElem?_append_left (by simpa using hk), Array.getElem?_modify, if_neg (fun e => hne e.symm)]
  refine ⟨he, ⟨by rw [cellsL_length, hsl], .inr ⟨g, cap, _, rfl, hbg, hg', hcap, hcm, by simp [putCells, hcs], ?_⟩⟩, ⟨rfl, rfl, rfl, by simp [sortWorldK, grow, putRowK, putRow, mapBlock, Sort.ahead], fun k hk hn => hko k hk (fun e => hn (by rw [e]; rfl))⟩⟩
  rw [← flat_cells]
  refine List.ext_getElem? fun j => ?_
  rw [List.getElem?_take]
  by_cases hj : j < L.length * 5
  · rw [if_pos hj]
    have hjc : j < cur.size := by rw [hcs]; exact Nat.lt_of_lt_of_le hj (Nat.mul_le_mul_right 5 hcap)
    have hjF : j < (flatK stC 5 (sortL L).toArray).size := by rw [hF]; exact hj
    rw [Array.getElem?_toList, Array.getElem?_toList, putCells, Array.getElem?_mapIdx, Array.getElem?_eq_getElem hjc]
    simp only [Option.map_some]
    rw [if_pos ⟨Nat.zero_le _, by omega⟩, Array.getElem?_eq_getElem hjF, Nat.sub_zero, getElem!_pos (flatK stC 5 (sortL L).toArray) j hjF]
    rfl
  · rw [if_neg hj, List.getElem?_eq_none (by simp [hsl]; omega)]
end Go.Proofs.Ytccplobhfokcgaa
