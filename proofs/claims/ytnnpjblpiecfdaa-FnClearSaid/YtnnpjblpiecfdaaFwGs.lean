/- A contract of the library's sort, in the words of this frame. No condition. -/
import Derived.Test.YtnnpjblpiecfdaaFwGg
import Derived.Test.YtnnpjblpiecfdaaTab
import Derived.Shelf.SortM.Plain
namespace Go.Proofs.Ytnnpjblpiecfdaa.Fw
open Go Go.Proofs Go.RowKit Go.Shelf Go.Sort
set_option linter.unusedVariables false
set_option linter.unusedSimpArgs false
set_option maxRecDepth 100000
def laySortRen : Go.Shelf.Ren := ⟨fun | 5 => 35 | 8 => 74 | 7 => 73 | 19 => 114 | 20 => 115 | 10 => 105 | 11 => 106 | 12 => 107 | 13 => 108 | 14 => 109 | 15 => 110 | 16 => 111 | 17 => 112 | 18 => 113 | 30 => 129 | 31 => 130 | 32 => 131 | 33 => 132 | 34 => 133 | 35 => 134 | 40 => 145 | n => n, fun | 23 => 49 | 25 => 2 | 3 => 3 | 32 => 116 | 22 => 49 | 0 => 0 | 44 => 154 | 46 => 105 | 4 => 4 | 36 => 147 | 35 => 146 | 41 => 151 | 5 => 5 | 9 => 9 | 53 => 165 | 57 => 169 | 63 => 178 | 64 => 179 | n => n, fun | n => n⟩
theorem laySort : Go.Proofs.SlLaysM.n5 Try.prog laySortRen where
  mixed := by kernel_rfl
  f5 := ⟨"slices.Sort[[]int64,int64]", by decide, Try.func35.trans (congrArg some (by kernel_rfl))⟩
  f7 := ⟨"slices.pdqsortOrdered[int64]", by decide, Try.func73.trans (congrArg some (by kernel_rfl))⟩
  f8 := Try.func74.trans (congrArg some (by kernel_rfl))
  f10 := ⟨"slices.insertionSortOrdered[int64]", by decide, Try.func105.trans (congrArg some (by kernel_rfl))⟩
  f11 := ⟨"slices.heapSortOrdered[int64]", by decide, Try.func106.trans (congrArg some (by kernel_rfl))⟩
  f12 := ⟨"slices.breakPatternsOrdered[int64]", by decide, Try.func107.trans (congrArg some (by kernel_rfl))⟩
  f13 := ⟨"slices.choosePivotOrdered[int64]", by decide, Try.func108.trans (congrArg some (by kernel_rfl))⟩
  f14 := ⟨"slices.reverseRangeOrdered[int64]", by decide, Try.func109.trans (congrArg some (by kernel_rfl))⟩
  f15 := ⟨"slices.partialInsertionSortOrdered[int64]", by decide, Try.func110.trans (congrArg some (by kernel_rfl))⟩
  f16 := ⟨"cmp.Less[int64]", by decide, Try.func111.trans (congrArg some (by kernel_rfl))⟩
  f17 := ⟨"slices.partitionEqualOrdered[int64]", by decide, Try.func112.trans (congrArg some (by kernel_rfl))⟩
  f18 := ⟨"slices.partitionOrdered[int64]", by decide, Try.func113.trans (congrArg some (by kernel_rfl))⟩
  f19 := Try.func114.trans (congrArg some (by kernel_rfl))
  f20 := Try.func115.trans (congrArg some (by kernel_rfl))
  f30 := ⟨"slices.siftDownOrdered[int64]", by decide, Try.func129.trans (congrArg some (by kernel_rfl))⟩
  f31 := Try.func130.trans (congrArg some (by kernel_rfl))
  f32 := Try.func131.trans (congrArg some (by kernel_rfl))
  f33 := ⟨"slices.medianAdjacentOrdered[int64]", by decide, Try.func132.trans (congrArg some (by kernel_rfl))⟩
  f34 := ⟨"slices.medianOrdered[int64]", by decide, Try.func133.trans (congrArg some (by kernel_rfl))⟩
  f35 := ⟨"cmp.isNaN[int64]", by decide, Try.func134.trans (congrArg some (by kernel_rfl))⟩
  f40 := ⟨"slices.order2Ordered[int64]", by decide, Try.func145.trans (congrArg some (by kernel_rfl))⟩
  t0 := Try.underlying0
  a0 := Try.isAgg0
  z0 := Try.sizeOf0
  v0 := Try.zeroValue0
  t3 := Try.underlying3
  a3 := Try.isAgg3
  z3 := Try.sizeOf3
  v3 := Try.zeroValue3
  t4 := Try.underlying4
  a4 := Try.isAgg4
  z4 := Try.sizeOf4
  v4 := Try.zeroValue4
  t5 := Try.underlying5
  a5 := Try.isAgg5
  z5 := Try.sizeOf5
  v5 := Try.zeroValue5
  t9 := Try.underlying9
  a9 := Try.isAgg9
  z9 := Try.sizeOf9
  v9 := Try.zeroValue9
  t22 := Try.underlying49
  a22 := Try.isAgg49
  z22 := Try.sizeOf49
  v22 := Try.zeroValue49
  t23 := Try.underlying49
  a23 := Try.isAgg49
  z23 := Try.sizeOf49
  v23 := Try.zeroValue49
  t25 := Try.underlying2
  a25 := Try.isAgg2
  z25 := Try.sizeOf2
  v25 := Try.zeroValue2
  t32 := Try.underlying116
  a32 := Try.isAgg116
  z32 := Try.sizeOf116
  v32 := Try.zeroValue116
  t35 := Try.underlying146
  a35 := Try.isAgg146
  z35 := Try.sizeOf146
  v35 := Try.zeroValue146
  t36 := Try.underlying147
  a36 := Try.isAgg147
  z36 := Try.sizeOf147
  v36 := Try.zeroValue147
  t41 := Try.underlying151
  a41 := Try.isAgg151
  z41 := Try.sizeOf151
  v41 := Try.zeroValue151
  t44 := Try.underlying154
  a44 := Try.isAgg154
  z44 := Try.sizeOf154
  v44 := Try.zeroValue154
  t46 := Try.underlying105
  a46 := Try.isAgg105
  z46 := Try.sizeOf105
  v46 := Try.zeroValue105
  t53 := Try.underlying165
  a53 := Try.isAgg165
  z53 := Try.sizeOf165
  v53 := Try.zeroValue165
  t57 := Try.underlying169
  a57 := Try.isAgg169
  z57 := Try.sizeOf169
  v57 := Try.zeroValue169
  t63 := Try.underlying178
  a63 := Try.isAgg178
  z63 := Try.sizeOf178
  v63 := Try.zeroValue178
  t64 := Try.underlying179
  a64 := Try.isAgg179
  z64 := Try.sizeOf179
  v64 := Try.zeroValue179
/-- The sorted list. -/
def sortI (xs : List Int) : List Int := xs.mergeSort fun x y => decide (x ≤ y)
theorem sortI_len (xs : List Int) : (sortI xs).length = xs.length := List.length_mergeSort _
/-- slices.Sort. -/
theorem ext_SortI (xs : List Int) (hn : xs.length < 4611686018427387904) : RetA Try.prog 35 2 1 (mapR rI xs) [] (mapR rI (sortI xs)) (.tup []) := by
  refine ⟨⟨_, Try.func35, by kernel_rfl, by kernel_rfl⟩, (fun _ h => by cases h), fun w S p n vs hS hld hA hSp hv => ?_⟩
  obtain rfl : vs = [] := List.length_eq_zero_iff.1 hv.1
  obtain ⟨C, hh, hsz, hle, hmax, hrows⟩ := hA
  have hl : (mapR rI xs).length = xs.length := mapR_len rI xs
  rw [hl] at hle
  have hp : p < w.heap.size := (Array.getElem?_eq_some_iff.1 hh).1
  have hget : ∀ (zs : List Int) (i : Nat) (hi : i < zs.length), (mapR rI zs)[i]? = some [.v (.int .i64 zs[i])] := by
    intro zs i hi
    simp [mapR, rI, hi]
  have hC : ∀ i (hi : i < xs.length), C[i]? = some (.int .i64 xs[i]) := by
    intro i hi
    have h1 : i < C.size := by omega
    have h2 := (hrows i _ (hget xs i hi)).2 0 _ C[i] rfl (by rw [Nat.mul_one, Nat.add_zero]; exact Array.getElem?_eq_getElem h1)
    rw [Array.getElem?_eq_getElem h1]
    generalize C[i] = v at h2
    cases h2
    rfl
  have hH : Go.Sort.Holds (Value.int .i64) w p 0 xs.toArray := by
    intro j hj
    have hj' : j < xs.length := by simpa using hj
    have e : xs.toArray[j]! = xs[j] := by simp [hj']
    rw [e, Nat.zero_add]
    refine ⟨?_, ?_⟩
    · simp only [World.cell?]
      rw [hh]
      exact hC j hj'
    · simp only [World.frozen?]
      rw [hh]
      simp
  have hc := AnyM.slices_Sort_int laySort p 0 n xs w hH hp hn
  rw [hl]
  refine hc.mono ?_
  rintro e w' ⟨rfl, k, os, rfl⟩
  have hheap : (grow (putRow (Value.int .i64) (Sort.ahead w k) p 0 (xs.mergeSort fun x y => decide (x ≤ y)).toArray) os).heap = w.heap.modify p (onCells (putCells (Value.int .i64) 0 (sortI xs).toArray)) ++ os := rfl
  have hsize : w.heap.size ≤ (grow (putRow (Value.int .i64) (Sort.ahead w k) p 0 (xs.mergeSort fun x y => decide (x ≤ y)).toArray) os).heap.size := by
    rw [hheap, Array.size_append, Array.size_modify]; omega
  refine ⟨_, S, rfl, ⟨fun b hb => .inl hb, fun b hb => Nat.lt_of_lt_of_le (hS b hb) hsize, ⟨#[], rfl, rfl, by simp [owns], fun i x v hx => by cases i <;> cases hx⟩, ?_, fun b hb hne => ?_, hsize, rfl, rfl, rfl⟩⟩
  · refine ⟨putCells (Value.int .i64) 0 (sortI xs).toArray C, ?_, ?_, ?_, hmax, ?_⟩
    · rw [hheap, Array.getElem?_append_left (by rw [Array.size_modify]; exact hp), Array.getElem?_modify, if_pos rfl, hh]
      rfl
    · simp only [putCells, Array.size_mapIdx]; exact hsz
    · rw [mapR_len, sortI_len]; exact hle
    · intro i row hrow
      have hi : i < (sortI xs).length := by
        have := (List.getElem?_eq_some_iff.1 hrow).1
        rwa [mapR_len] at this
      rw [hget _ i hi] at hrow
      obtain rfl := Option.some.inj hrow
      refine ⟨rfl, fun j x v hx hv => ?_⟩
      cases j with
      | succ j => cases hx
      | zero =>
        obtain rfl := Option.some.inj hx
        have hi' : i < C.size := by rw [sortI_len] at hi; omega
        rw [Nat.mul_one, Nat.add_zero, putCells, Array.getElem?_mapIdx, Array.getElem?_eq_getElem hi', Option.map_some, if_pos ⟨Nat.zero_le _, by simpa using hi⟩] at hv
        have e : (sortI xs).toArray[i - 0]! = (sortI xs)[i] := by simp [hi]
        rw [e] at hv
        obtain rfl := Option.some.inj hv
        exact .v rfl
  · rw [hheap, Array.getElem?_append_left (by rw [Array.size_modify]; exact hb), Array.getElem?_modify, if_neg (Ne.symm hne)]
end Go.Proofs.Ytnnpjblpiecfdaa.Fw
