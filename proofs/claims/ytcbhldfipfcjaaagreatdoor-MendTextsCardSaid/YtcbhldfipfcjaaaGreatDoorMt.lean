/- slices.SortFunc at states. -/
import Derived.Test.YtcbhldfipfcjaaaGreatDoorMt0
import Derived.Shelf.SlSortCmp.WholeK
import Derived.Shelf.SlSortCmp.NoneTotal
import Derived.Ground.SlsfProg

namespace Go.Proofs.YtcbhldfipfcjaaaGreatDoor
open Go Go.RowKit Go.Shelf Go.Sort
set_option maxRecDepth 100000
def Tryz.sortSt_ren : Go.Shelf.Ren := ⟨fun | 6 => 66 | 15 => 91 | 14 => 90 | 28 => 121 | 29 => 122 | 20 => 113 | 21 => 114 | 22 => 115 | 23 => 116 | 24 => 117 | 25 => 118 | 26 => 119 | 27 => 120 | 46 => 138 | 47 => 139 | 48 => 140 | 49 => 141 | 50 => 142 | 57 => 149 | n => n, fun | 22 => 101 | 24 => 95 | 25 => 112 | 3 => 3 | 39 => 155 | 0 => 0 | 53 => 185 | 55 => 160 | 4 => 4 | 46 => 179 | 45 => 178 | 50 => 77 | 5 => 5 | 9 => 9 | 66 => 201 | 70 => 205 | 76 => 217 | 77 => 218 | n => n, fun | n => n⟩
theorem Tryz.sortSt : Go.Proofs.SlLaysF0.n6 Tryz.prog Tryz.sortSt_ren := {
  mixed := by kernel_rfl
  f6 := ⟨Tryz.f66.name, by decide, Tryz.func66.trans (congrArg some (by kernel_rfl))⟩
  f14 := ⟨Tryz.f90.name, by decide, Tryz.func90.trans (congrArg some (by kernel_rfl))⟩
  f15 := Tryz.func91.trans (congrArg some (by kernel_rfl))
  f20 := ⟨Tryz.f113.name, by decide, Tryz.func113.trans (congrArg some (by kernel_rfl))⟩
  f21 := ⟨Tryz.f114.name, by decide, Tryz.func114.trans (congrArg some (by kernel_rfl))⟩
  f22 := ⟨Tryz.f115.name, by decide, Tryz.func115.trans (congrArg some (by kernel_rfl))⟩
  f23 := ⟨Tryz.f116.name, by decide, Tryz.func116.trans (congrArg some (by kernel_rfl))⟩
  f24 := ⟨Tryz.f117.name, by decide, Tryz.func117.trans (congrArg some (by kernel_rfl))⟩
  f25 := ⟨Tryz.f118.name, by decide, Tryz.func118.trans (congrArg some (by kernel_rfl))⟩
  f26 := ⟨Tryz.f119.name, by decide, Tryz.func119.trans (congrArg some (by kernel_rfl))⟩
  f27 := ⟨Tryz.f120.name, by decide, Tryz.func120.trans (congrArg some (by kernel_rfl))⟩
  f28 := Tryz.func121.trans (congrArg some (by kernel_rfl))
  f29 := Tryz.func122.trans (congrArg some (by kernel_rfl))
  f46 := ⟨Tryz.f138.name, by decide, Tryz.func138.trans (congrArg some (by kernel_rfl))⟩
  f47 := Tryz.func139.trans (congrArg some (by kernel_rfl))
  f48 := Tryz.func140.trans (congrArg some (by kernel_rfl))
  f49 := ⟨Tryz.f141.name, by decide, Tryz.func141.trans (congrArg some (by kernel_rfl))⟩
  f50 := ⟨Tryz.f142.name, by decide, Tryz.func142.trans (congrArg some (by kernel_rfl))⟩
  f57 := ⟨Tryz.f149.name, by decide, Tryz.func149.trans (congrArg some (by kernel_rfl))⟩
  t0 := Tryz.underlying0
  a0 := Tryz.isAgg0
  z0 := Tryz.sizeOf0
  v0 := Tryz.zeroValue0
  t3 := Tryz.underlying3
  a3 := Tryz.isAgg3
  z3 := Tryz.sizeOf3
  v3 := Tryz.zeroValue3
  t4 := Tryz.underlying4
  a4 := Tryz.isAgg4
  z4 := Tryz.sizeOf4
  v4 := Tryz.zeroValue4
  t5 := Tryz.underlying5
  a5 := Tryz.isAgg5
  z5 := Tryz.sizeOf5
  v5 := Tryz.zeroValue5
  t9 := Tryz.underlying9
  a9 := Tryz.isAgg9
  z9 := Tryz.sizeOf9
  v9 := Tryz.zeroValue9
  t22 := Tryz.underlying101
  a22 := Tryz.isAgg101
  z22 := Tryz.sizeOf101
  v22 := Tryz.zeroValue101
  t25 := Tryz.underlying112
  a25 := Tryz.isAgg112
  z25 := Tryz.sizeOf112
  v25 := Tryz.zeroValue112
  t39 := Tryz.underlying155
  a39 := Tryz.isAgg155
  z39 := Tryz.sizeOf155
  v39 := Tryz.zeroValue155
  t45 := Tryz.underlying178
  a45 := Tryz.isAgg178
  z45 := Tryz.sizeOf178
  v45 := Tryz.zeroValue178
  t46 := Tryz.underlying179
  a46 := Tryz.isAgg179
  z46 := Tryz.sizeOf179
  v46 := Tryz.zeroValue179
  t50 := Tryz.underlying77
  a50 := Tryz.isAgg77
  z50 := Tryz.sizeOf77
  v50 := Tryz.zeroValue77
  t53 := Tryz.underlying185
  a53 := Tryz.isAgg185
  z53 := Tryz.sizeOf185
  v53 := Tryz.zeroValue185
  t55 := Tryz.underlying160
  a55 := Tryz.isAgg160
  z55 := Tryz.sizeOf160
  v55 := Tryz.zeroValue160
  t66 := Tryz.underlying201
  a66 := Tryz.isAgg201
  z66 := Tryz.sizeOf201
  v66 := Tryz.zeroValue201
  t70 := Tryz.underlying205
  a70 := Tryz.isAgg205
  z70 := Tryz.sizeOf205
  v70 := Tryz.zeroValue205
  t76 := Tryz.underlying217
  a76 := Tryz.isAgg217
  z76 := Tryz.sizeOf217
  v76 := Tryz.zeroValue217
  t77 := Tryz.underlying218
  a77 := Tryz.isAgg218
  z77 := Tryz.sizeOf218
  v77 := Tryz.zeroValue218 }
theorem cmpLays (blk off size : Nat) (w : World) : CmpLays Tryz.prog 50 #[] stC 5 cmpS blk off size w := fun _ _ _ _ x y => compare_calls x y _

theorem flat_cells (L : List St) : (flatK stC 5 L.toArray).toList = cellsL L := by
  refine List.ext_getElem? fun j => ?_
  by_cases hj : j < L.length * 5
  · have h1 := get_flatK stC 5 L.toArray j (by simpa using hj)
    have hq : j / 5 < L.length := by omega
    have h2 : (flatK stC 5 L.toArray).toList[j]? = some ((flatK stC 5 L.toArray)[j]!) := by
      rw [getElem!_pos _ _ (by simpa using hj)]; simp [hj]
    rw [h2, h1]
    have h3 : ∀ (L : List St) (j : Nat), j < L.length * 5 → (cellsL L)[j]? = (stC (L[j / 5]!))[j % 5]? := by
      intro L
      induction L with
      | nil => intro j h; simp at h
      | cons x L ih =>
        intro j h
        have : cellsL (x :: L) = stC x ++ cellsL L := by simp [cellsL]
        rw [this]
        by_cases h5 : j < 5
        · rw [List.getElem?_append_left (by simpa [stC] using h5), Nat.div_eq_of_lt h5, Nat.mod_eq_of_lt h5]; rfl
        · rw [List.getElem?_append_right (by simp [stC]; omega)]
          have hl : (stC x).length = 5 := rfl
          have h6 := ih (j - 5) (by simp only [List.length_cons] at h; omega)
          rw [hl, h6, show j / 5 = (j - 5) / 5 + 1 by omega, show (j - 5) % 5 = j % 5 by omega]
          simp
    rw [h3 L j hj]
    have h4 : (stC (L[j / 5]!)).length = 5 := rfl
    rw [show (L.toArray)[j / 5]! = L[j / 5]! by simp]
    rw [getElem!_pos _ _ (by rw [h4]; omega), List.getElem?_eq_getElem]
  · rw [List.getElem?_eq_none (by simp; omega), List.getElem?_eq_none (by rw [cellsL_length]; omega)]

theorem getD_cells {cur : Array Value} {n : Nat} {xs : List Value} (h : cur.toList.take n = xs) (j : Nat) (hj : j < n) : cur[j]? = xs[j]? := by
  rw [← h, List.getElem?_take, if_pos hj]; simp
theorem sort_calls (base : Nat) (v : Value) (L : List St) (w : World) (hown : w.ownsRow base 95 5 v L.length (cellsL L)) (hne : L ≠ []) (hlen : L.length ≤ 3000) :
    Calls Tryz.prog 66 #[v, .func (.func 50) #[] #[]] w fun e w' => e = .returned (.tuple #[]) ∧
      w'.ownsRow base 95 5 v L.length (cellsL (sortL L)) ∧ Bel (fun k => v.ownBlock = some k) w w' := by
  obtain ⟨hxl, ⟨_, h0⟩ | ⟨g, cap, cur, rfl, hbg, hg, hcap, hcm, hcs, hct⟩⟩ := hown
  · exact absurd (List.length_eq_zero_iff.1 h0) hne
  have eg : ∀ args w, (callFunc 50 args).run Tryz.prog w = .ok (.enter 50 args) w := enters_of Tryz.func50 (by kernel_rfl) rfl
  have hag : ∀ w, (isAgg 95).run Tryz.prog w = .ok true w := by intro w; kernel_rfl
  have hsz : ∀ w, (sizeOf 95).run Tryz.prog w = .ok 5 w := by intro w; kernel_rfl
  have hH : HoldsK stC 5 w g 0 L.toArray := by
    intro j hj
    have hj5 : j < L.length * 5 := by simpa using hj
    refine ⟨?_, by rw [Nat.zero_add]; exact frozen_blk hg j⟩
    rw [Nat.zero_add, cell_blk hg, getD_cells hct j hj5, ← flat_cells L]
    rw [getElem!_pos (flatK stC 5 L.toArray) j hj]; simp [hj5]
  have hcon := AnyQ.slices_SortFunc_total Tryz.sortSt 5 hag hsz stC (fun _ => rfl) (fun x v hv => by simp [stC] at hv; rcases hv with rfl | rfl | rfl | rfl | rfl <;> rfl) cmpS swoS 50 #[] g 0 cap L.toArray w eg (cmpLays g 0 L.toArray.size w) hH (lt_blk hg) (by simp; omega) ltS_total
  change Calls Tryz.prog 66 _ _ _ at hcon
  refine hcon.mono ?_
  rintro e w' ⟨he, q, os, rfl⟩
  have hsl : (sortL L).length = L.length := by simp [sortL]
  have hF : (flatK stC 5 (sortL L).toArray).size = L.length * 5 := by simp [hsl]
  have hgs := lt_blk hg
  have hg' : (sortWorldK stC 5 w g 0 q (sortL L).toArray os).heap[g]? = some (.cells (putCells id 0 (flatK stC 5 (sortL L).toArray) cur) 95 (0, 0)) := by
    unfold sortWorldK grow putRowK putRow mapBlock Sort.ahead
    simp only
    rw [Array.getElem?_append_left (by simpa using hgs), Array.getElem?_modify, if_pos rfl, hg]
    rfl
  have hko : ∀ k, k < w.heap.size → k ≠ g → (sortWorldK stC 5 w g 0 q (sortL L).toArray os).heap[k]? = w.heap[k]? := by
    intro k hk hne
    unfold sortWorldK grow putRowK putRow mapBlock Sort.ahead
    simp only
    rw [Array.getElem?_append_left (by simpa using hk), Array.getElem?_modify, if_neg (fun e => hne e.symm)]
  refine ⟨he, ⟨by rw [cellsL_length, hsl], .inr ⟨g, cap, _, rfl, hbg, hg', hcap, hcm, by simp [putCells, hcs], ?_⟩⟩, ⟨rfl, rfl, rfl, by simp [sortWorldK, grow, putRowK, putRow, mapBlock, Sort.ahead], fun k hk hn => hko k hk (fun e => hn (by rw [e]; rfl))⟩⟩
  rw [← flat_cells]
  refine List.ext_getElem? fun j => ?_
  rw [List.getElem?_take]
  by_cases hj : j < L.length * 5
  · rw [if_pos hj]
    have hjc : j < cur.size := by rw [hcs]; exact Nat.lt_of_lt_of_le hj (Nat.mul_le_mul_right 5 hcap)
    have hjF : j < (flatK stC 5 (sortL L).toArray).size := by rw [hF]; exact hj
    rw [Array.getElem?_toList, Array.getElem?_toList, putCells, Array.getElem?_mapIdx, Array.getElem?_eq_getElem hjc]
    simp only [Option.map_some]
    rw [if_pos ⟨Nat.zero_le _, by omega⟩, Array.getElem?_eq_getElem hjF, Nat.sub_zero, getElem!_pos (flatK stC 5 (sortL L).toArray) j hjF]
    rfl
  · rw [if_neg hj, List.getElem?_eq_none (by simp [hsl]; omega)]
end Go.Proofs.YtcbhldfipfcjaaaGreatDoor
