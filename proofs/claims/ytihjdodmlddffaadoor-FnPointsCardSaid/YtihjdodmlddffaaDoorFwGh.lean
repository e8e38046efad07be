/- Contracts of the library's functions, in the words of this frame. No condition. -/
import Derived.Test.YtihjdodmlddffaaDoorFwGg
import Derived.Test.YtihjdodmlddffaaDoorTab
import Derived.Shelf.Strconv.Itoa4
import Derived.Shelf.Strings.OnBuilder
import Derived.Shelf.Strings.Split
import Derived.Shelf.Strings.Cut
namespace Go.Proofs.YtihjdodmlddffaaDoor.Fw
open Go Go.Proofs Go.RowKit Go.Shelf
set_option linter.unusedVariables false
set_option linter.unusedSimpArgs false
set_option maxRecDepth 100000
def layFmtRen : Go.Shelf.Ren := ⟨fun | 173 => 49 | 246 => 73 | 283 => 85 | 284 => 86 | 285 => 87 | 286 => 88 | 129 => 96 | 317 => 95 | 318 => 97 | 319 => 98 | 320 => 99 | 337 => 105 | 338 => 106 | n => n, fun | 2 => 2 | 3 => 3 | 9 => 9 | 4 => 4 | 171 => 109 | 0 => 0 | 53 => 87 | 37 => 22 | 5 => 5 | 173 => 112 | 212 => 123 | 51 => 124 | 20 => 20 | 213 => 125 | 46 => 104 | 232 => 135 | 233 => 136 | n => n, fun | 17 => 0 | 18 => 4 | 19 => 5 | n => n⟩
theorem layFmt : Go.Proofs.LaysM.n173 Tryd.prog layFmtRen where
  mixed := by kernel_rfl
  f129 := Tryd.func96.trans (congrArg some (by kernel_rfl))
  f173 := Tryd.func49.trans (congrArg some (by kernel_rfl))
  f246 := Tryd.func73.trans (congrArg some (by kernel_rfl))
  f283 := Tryd.func85.trans (congrArg some (by kernel_rfl))
  f284 := Tryd.func86.trans (congrArg some (by kernel_rfl))
  f285 := Tryd.func87.trans (congrArg some (by kernel_rfl))
  f286 := Tryd.func88.trans (congrArg some (by kernel_rfl))
  f317 := Tryd.func95.trans (congrArg some (by kernel_rfl))
  f318 := Tryd.func97.trans (congrArg some (by kernel_rfl))
  f319 := Tryd.func98.trans (congrArg some (by kernel_rfl))
  f320 := Tryd.func99.trans (congrArg some (by kernel_rfl))
  f337 := Tryd.func105.trans (congrArg some (by kernel_rfl))
  f338 := Tryd.func106.trans (congrArg some (by kernel_rfl))
  t0 := Tryd.underlying0
  a0 := Tryd.isAgg0
  z0 := Tryd.sizeOf0
  v0 := Tryd.zeroValue0
  t2 := Tryd.underlying2
  a2 := Tryd.isAgg2
  z2 := Tryd.sizeOf2
  v2 := Tryd.zeroValue2
  t3 := Tryd.underlying3
  a3 := Tryd.isAgg3
  z3 := Tryd.sizeOf3
  v3 := Tryd.zeroValue3
  t4 := Tryd.underlying4
  a4 := Tryd.isAgg4
  z4 := Tryd.sizeOf4
  v4 := Tryd.zeroValue4
  t5 := Tryd.underlying5
  a5 := Tryd.isAgg5
  z5 := Tryd.sizeOf5
  v5 := Tryd.zeroValue5
  t9 := Tryd.underlying9
  a9 := Tryd.isAgg9
  z9 := Tryd.sizeOf9
  v9 := Tryd.zeroValue9
  t20 := Tryd.underlying20
  a20 := Tryd.isAgg20
  z20 := Tryd.sizeOf20
  v20 := Tryd.zeroValue20
  t37 := Tryd.underlying22
  a37 := Tryd.isAgg22
  z37 := Tryd.sizeOf22
  v37 := Tryd.zeroValue22
  t46 := Tryd.underlying104
  a46 := Tryd.isAgg104
  z46 := Tryd.sizeOf104
  v46 := Tryd.zeroValue104
  t51 := Tryd.underlying124
  a51 := Tryd.isAgg124
  z51 := Tryd.sizeOf124
  v51 := Tryd.zeroValue124
  t53 := Tryd.underlying87
  a53 := Tryd.isAgg87
  z53 := Tryd.sizeOf87
  v53 := Tryd.zeroValue87
  t171 := Tryd.underlying109
  a171 := Tryd.isAgg109
  z171 := Tryd.sizeOf109
  v171 := Tryd.zeroValue109
  t173 := Tryd.underlying112
  a173 := Tryd.isAgg112
  z173 := Tryd.sizeOf112
  v173 := Tryd.zeroValue112
  t212 := Tryd.underlying123
  a212 := Tryd.isAgg123
  z212 := Tryd.sizeOf123
  v212 := Tryd.zeroValue123
  t213 := Tryd.underlying125
  a213 := Tryd.isAgg125
  z213 := Tryd.sizeOf125
  t232 := Tryd.underlying135
  a232 := Tryd.isAgg135
  z232 := Tryd.sizeOf135
  v232 := Tryd.zeroValue135
  t233 := Tryd.underlying136
  a233 := Tryd.isAgg136
  z233 := Tryd.sizeOf136
  v233 := Tryd.zeroValue136
  g17 := by kernel_rfl
  g18 := by kernel_rfl
  g19 := by kernel_rfl
  i0 := by kernel_rfl
  i2 := by kernel_rfl
  i3 := by kernel_rfl
  i4 := by kernel_rfl
  i5 := by kernel_rfl
  i9 := by kernel_rfl
  i20 := by kernel_rfl
  i37 := by kernel_rfl
  i46 := by kernel_rfl
  i51 := by kernel_rfl
  i53 := by kernel_rfl
  i171 := by kernel_rfl
  i173 := by kernel_rfl
  i212 := by kernel_rfl
  i232 := by kernel_rfl
  i233 := by kernel_rfl
  m17 := by kernel_rfl
  m18 := by kernel_rfl
  m19 := by kernel_rfl
def layJoinRen : Go.Shelf.Ren := ⟨fun | 156 => 47 | 165 => 69 | 166 => 70 | 169 => 71 | 240 => 83 | 241 => 84 | 276 => 93 | 277 => 94 | n => n, fun | 31 => 62 | 9 => 9 | 3 => 3 | 4 => 4 | 0 => 0 | 20 => 20 | 72 => 94 | 76 => 98 | 70 => 92 | 37 => 22 | 75 => 97 | 127 => 107 | 164 => 118 | 5 => 5 | 80 => 100 | n => n, fun | n => n⟩
theorem layJoin : Go.Proofs.Lays.n156 Tryd.prog layJoinRen where
  mixed := by kernel_rfl
  f156 := Tryd.func47.trans (congrArg some (by kernel_rfl))
  f165 := Tryd.func69.trans (congrArg some (by kernel_rfl))
  f166 := Tryd.func70.trans (congrArg some (by kernel_rfl))
  f169 := Tryd.func71.trans (congrArg some (by kernel_rfl))
  f240 := Tryd.func83.trans (congrArg some (by kernel_rfl))
  f241 := Tryd.func84.trans (congrArg some (by kernel_rfl))
  f276 := Tryd.func93.trans (congrArg some (by kernel_rfl))
  f277 := Tryd.func94.trans (congrArg some (by kernel_rfl))
  t0 := Tryd.underlying0
  a0 := Tryd.isAgg0
  z0 := Tryd.sizeOf0
  v0 := Tryd.zeroValue0
  t3 := Tryd.underlying3
  a3 := Tryd.isAgg3
  z3 := Tryd.sizeOf3
  v3 := Tryd.zeroValue3
  t4 := Tryd.underlying4
  a4 := Tryd.isAgg4
  z4 := Tryd.sizeOf4
  v4 := Tryd.zeroValue4
  t9 := Tryd.underlying9
  a9 := Tryd.isAgg9
  z9 := Tryd.sizeOf9
  v9 := Tryd.zeroValue9
  t20 := Tryd.underlying20
  a20 := Tryd.isAgg20
  z20 := Tryd.sizeOf20
  v20 := Tryd.zeroValue20
  t31 := Tryd.underlying62
  a31 := Tryd.isAgg62
  z31 := Tryd.sizeOf62
  v31 := Tryd.zeroValue62
  t37 := Tryd.underlying22
  a37 := Tryd.isAgg22
  z37 := Tryd.sizeOf22
  v37 := Tryd.zeroValue22
  t70 := Tryd.underlying92
  a70 := Tryd.isAgg92
  z70 := Tryd.sizeOf92
  v70 := Tryd.zeroValue92
  t72 := Tryd.underlying94
  a72 := Tryd.isAgg94
  z72 := Tryd.sizeOf94
  v72 := Tryd.zeroValue94
  t75 := Tryd.underlying97
  a75 := Tryd.isAgg97
  z75 := Tryd.sizeOf97
  v75 := Tryd.zeroValue97
  t76 := Tryd.underlying98
  a76 := Tryd.isAgg98
  z76 := Tryd.sizeOf98
  v76 := Tryd.zeroValue98
  t127 := Tryd.underlying107
  a127 := Tryd.isAgg107
  z127 := Tryd.sizeOf107
  v127 := Tryd.zeroValue107
  t164 := Tryd.underlying118
  a164 := Tryd.isAgg118
  z164 := Tryd.sizeOf118
  v164 := Tryd.zeroValue118
theorem layJx : Go.Proofs.Builder.Extra Tryd.prog layJoinRen where
  sizeBuilder := by kernel_rfl
  liesBuilder := by kernel_rfl
  t5 := Tryd.underlying5
  a5 := Tryd.isAgg5
  z5 := Tryd.sizeOf5
  v5 := Tryd.zeroValue5
  infoByte := by kernel_rfl
  cellsByte := by kernel_rfl
  sizeByte := by kernel_rfl
  neB5 := by decide
def laySplitRen : Go.Shelf.Ren := ⟨fun | 146 => 46 | 221 => 68 | 268 => 80 | 138 => 81 | 143 => 82 | 195 => 90 | 197 => 91 | 218 => 92 | 219 => 89 | 260 => 104 | 217 => 100 | 225 => 101 | 224 => 102 | 267 => 103 | 266 => 107 | 314 => 108 | n => n, fun | 9 => 9 | 31 => 62 | 3 => 3 | 4 => 4 | 0 => 0 | 105 => 115 | 21 => 21 | 5 => 5 | 46 => 104 | 119 => 131 | 139 => 134 | 138 => 133 | 146 => 129 | 51 => 124 | n => n, fun | 1 => 1 | 3 => 2 | 4 => 3 | n => n⟩
theorem laySplit : Go.Proofs.Lays.n146 Tryd.prog laySplitRen where
  mixed := by kernel_rfl
  f138 := Tryd.func81.trans (congrArg some (by kernel_rfl))
  f143 := Tryd.func82.trans (congrArg some (by kernel_rfl))
  f146 := Tryd.func46.trans (congrArg some (by kernel_rfl))
  f195 := Tryd.func90.trans (congrArg some (by kernel_rfl))
  f197 := Tryd.func91.trans (congrArg some (by kernel_rfl))
  f217 := Tryd.func100.trans (congrArg some (by kernel_rfl))
  f218 := Tryd.func92.trans (congrArg some (by kernel_rfl))
  f219 := Tryd.func89.trans (congrArg some (by kernel_rfl))
  f221 := Tryd.func68.trans (congrArg some (by kernel_rfl))
  f224 := Tryd.func102.trans (congrArg some (by kernel_rfl))
  f225 := Tryd.func101.trans (congrArg some (by kernel_rfl))
  f260 := Tryd.func104.trans (congrArg some (by kernel_rfl))
  f266 := Tryd.func107.trans (congrArg some (by kernel_rfl))
  f267 := Tryd.func103.trans (congrArg some (by kernel_rfl))
  f268 := Tryd.func80.trans (congrArg some (by kernel_rfl))
  f314 := Tryd.func108.trans (congrArg some (by kernel_rfl))
  t0 := Tryd.underlying0
  a0 := Tryd.isAgg0
  z0 := Tryd.sizeOf0
  v0 := Tryd.zeroValue0
  t3 := Tryd.underlying3
  a3 := Tryd.isAgg3
  z3 := Tryd.sizeOf3
  v3 := Tryd.zeroValue3
  t4 := Tryd.underlying4
  a4 := Tryd.isAgg4
  z4 := Tryd.sizeOf4
  v4 := Tryd.zeroValue4
  t5 := Tryd.underlying5
  a5 := Tryd.isAgg5
  z5 := Tryd.sizeOf5
  v5 := Tryd.zeroValue5
  t9 := Tryd.underlying9
  a9 := Tryd.isAgg9
  z9 := Tryd.sizeOf9
  v9 := Tryd.zeroValue9
  t21 := Tryd.underlying21
  a21 := Tryd.isAgg21
  z21 := Tryd.sizeOf21
  v21 := Tryd.zeroValue21
  t31 := Tryd.underlying62
  a31 := Tryd.isAgg62
  z31 := Tryd.sizeOf62
  v31 := Tryd.zeroValue62
  t46 := Tryd.underlying104
  a46 := Tryd.isAgg104
  z46 := Tryd.sizeOf104
  v46 := Tryd.zeroValue104
  t51 := Tryd.underlying124
  a51 := Tryd.isAgg124
  z51 := Tryd.sizeOf124
  v51 := Tryd.zeroValue124
  t105 := Tryd.underlying115
  a105 := Tryd.isAgg115
  z105 := Tryd.sizeOf115
  v105 := Tryd.zeroValue115
  t119 := Tryd.underlying131
  a119 := Tryd.isAgg131
  z119 := Tryd.sizeOf131
  t138 := Tryd.underlying133
  a138 := Tryd.isAgg133
  z138 := Tryd.sizeOf133
  v138 := Tryd.zeroValue133
  t139 := Tryd.underlying134
  a139 := Tryd.isAgg134
  z139 := Tryd.sizeOf134
  v139 := Tryd.zeroValue134
  t146 := Tryd.underlying129
  a146 := Tryd.isAgg129
  z146 := Tryd.sizeOf129
  v146 := Tryd.zeroValue129
  g1 := by kernel_rfl
  g3 := by kernel_rfl
  g4 := by kernel_rfl
def layCutRen : Go.Shelf.Ren := ⟨fun | 145 => 57 | 220 => 76 | 219 => 89 | 217 => 100 | 225 => 101 | 224 => 102 | 267 => 103 | 266 => 107 | 314 => 108 | n => n, fun | 9 => 9 | 4 => 4 | 59 => 82 | 3 => 3 | 5 => 5 | 46 => 104 | 146 => 129 | 51 => 124 | n => n, fun | 1 => 1 | n => n⟩
theorem layCut : Go.Proofs.Lays.n145 Tryd.prog layCutRen where
  mixed := by kernel_rfl
  f145 := Tryd.func57.trans (congrArg some (by kernel_rfl))
  f217 := Tryd.func100.trans (congrArg some (by kernel_rfl))
  f219 := Tryd.func89.trans (congrArg some (by kernel_rfl))
  f220 := Tryd.func76.trans (congrArg some (by kernel_rfl))
  f224 := Tryd.func102.trans (congrArg some (by kernel_rfl))
  f225 := Tryd.func101.trans (congrArg some (by kernel_rfl))
  f266 := Tryd.func107.trans (congrArg some (by kernel_rfl))
  f267 := Tryd.func103.trans (congrArg some (by kernel_rfl))
  f314 := Tryd.func108.trans (congrArg some (by kernel_rfl))
  t3 := Tryd.underlying3
  a3 := Tryd.isAgg3
  z3 := Tryd.sizeOf3
  v3 := Tryd.zeroValue3
  t4 := Tryd.underlying4
  a4 := Tryd.isAgg4
  z4 := Tryd.sizeOf4
  v4 := Tryd.zeroValue4
  t5 := Tryd.underlying5
  a5 := Tryd.isAgg5
  z5 := Tryd.sizeOf5
  v5 := Tryd.zeroValue5
  t9 := Tryd.underlying9
  a9 := Tryd.isAgg9
  z9 := Tryd.sizeOf9
  v9 := Tryd.zeroValue9
  t46 := Tryd.underlying104
  a46 := Tryd.isAgg104
  z46 := Tryd.sizeOf104
  v46 := Tryd.zeroValue104
  t51 := Tryd.underlying124
  a51 := Tryd.isAgg124
  z51 := Tryd.sizeOf124
  v51 := Tryd.zeroValue124
  t59 := Tryd.underlying82
  a59 := Tryd.isAgg82
  z59 := Tryd.sizeOf82
  v59 := Tryd.zeroValue82
  t146 := Tryd.underlying129
  a146 := Tryd.isAgg129
  z146 := Tryd.sizeOf129
  v146 := Tryd.zeroValue129
  g1 := by kernel_rfl
theorem tab_of {w : World} {S : Nat → Prop} (h : LD w S) : Lib.TabIs Tryd.prog w "internal/strconv.uint64pow10" .u64 Lib.pow10Tab := by
  obtain ⟨_, o, ho, t, s, rfl⟩ := h _ (List.mem_cons_self ..)
  have hg : Tryd.prog.globalNamed "internal/strconv.uint64pow10" = some 0 := by kernel_rfl
  show Tryd.prog.globalNamed "internal/strconv.uint64pow10" >>= _ = _
  rw [hg]
  show (match w.heap[0]? with | some (.cells cs _ _) => some cs | _ => none) = _
  rw [ho]
/-- strconv.FormatInt at base 10. -/
theorem ext_FormatInt (n b : Int) (h0 : b = 10) (h1 : -9223372036854775808 ≤ n) (h2 : n ≤ 9223372036854775807) : Ret Tryd.prog 49 none [.c (.v (.int .i64 n)), .c (.v (.int .i64 b))] [] (.c (.v (.string ⟨(Lib.itoa n).toArray⟩))) := by
  subst h0
  refine Ret.below ⟨_, Tryd.func49, by kernel_rfl, by kernel_rfl⟩ (by simp [AV.lo]) rfl fun w S vs hS hld hv => ?_
  obtain ⟨x, y, rfl, hx, hy⟩ := vals_two hv
  obtain rfl := arep_v hx
  obtain rfl := arep_v hy
  refine (Any.strconv_FormatInt_10 layFmt n h1 h2 w (tab_of hld)).mono ?_
  rintro e w' ⟨rfl, k, os, rfl⟩
  exact ⟨rfl, rfl, rfl, rfl, by simp [Go.Sort.grow, World.drewN], fun b hb => by simp only [Go.Sort.grow, World.drewN]; rw [Array.getElem?_append_left hb]⟩
/-- strings.Join. -/
theorem ext_Join (xs : List ByteArray) (sep : ByteArray) (hN : xs.length ≤ 140737488355328) (hl : (Lib.join (xs.map (·.data.toList)) sep.data.toList).length ≤ 140737488355328) : Ret Tryd.prog 47 none [.c (.sl true false 1 (mapR rS xs)), .c (.v (.string sep))] [] (.c (.v (.string ⟨(Lib.join (xs.map (·.data.toList)) sep.data.toList).toArray⟩))) := by
  refine Ret.below ⟨_, Tryd.func47, by kernel_rfl, by kernel_rfl⟩ (by simp [AV.lo]) rfl fun w S vs hS hld hv => ?_
  obtain ⟨x, y, rfl, hx, hy⟩ := vals_two hv
  obtain rfl := arep_v hy
  rcases arep_texts hS hx with ⟨rfl, a, c, rfl⟩ | ⟨bk, o, c, rfl, hc, hb, hcell⟩
  · refine (Any.strings_Join_none layJoin layJx a c sep w).mono ?_
    rintro e w' ⟨rfl, rfl⟩
    exact ⟨rfl, Below.refl _ _⟩
  · refine (Any.strings_Join layJoin layJx bk o c xs sep w hcell hb hN hc hl).mono ?_
    rintro e w' ⟨rfl, h⟩
    exact ⟨rfl, h⟩
theorem max_of {w : World} {S : Nat → Prop} (h : LD w S) : ∃ m, w.cell? ⟨1, 0, none⟩ = some (.int .i64 m) := by
  obtain ⟨_, o, ho, m, t, s, rfl⟩ := h _ (List.mem_cons_of_mem _ (List.mem_cons_self ..))
  exact ⟨m, by simp only [World.cell?]; rw [ho]; rfl⟩
theorem infoS : (Tryd.prog.info? (laySplitRen.t 9)).map (fun i => (i.zero, i.size, i.bytes)) = some (some (.string ByteArray.empty), 1, 16) := by kernel_rfl
noncomputable def extSplit (s sep : ByteArray) : List ByteArray := Go.Lib.splitB sep 0 (Go.Lib.countB s sep) s
/-- strings.Split at a separator that is not empty. -/
theorem ext_Split (s sep : ByteArray) (h1 : 1 ≤ sep.size) (hs : s.size < 4294967281) : Ret Tryd.prog 46 none [.c (.v (.string s)), .c (.v (.string sep))] [] (.own 9 1 (mapR rS (extSplit s sep))) := by
  refine Ret.belowR ⟨_, Tryd.func46, by kernel_rfl, by kernel_rfl⟩ (by simp [AV.lo]) fun w S vs hS hld hv => ?_
  obtain ⟨x, y, rfl, hx, hy⟩ := vals_two hv
  obtain rfl := arep_v hx
  obtain rfl := arep_v hy
  obtain ⟨m, hm⟩ := max_of hld
  refine (Any.strings_Split laySplit infoS s sep m w hs hm h1).mono ?_
  rintro e w' ⟨rfl, rfl⟩
  have hlen : (extSplit s sep).length = Go.Lib.countB s sep + 1 := Go.Lib.splitB_all sep h1 0 _ s rfl
  have hcount : Go.Lib.countB s sep + 1 ≤ maxLen := by
    have := Go.Lib.countB_le sep h1 s.size s (Nat.le_refl _)
    unfold maxLen
    omega
  refine ⟨_, rfl, ⟨rfl, rfl, rfl, Nat.le_of_lt (by simp only [World.alloc, Array.size_push]; omega), fun k hk => by simp only [World.alloc]; rw [Array.getElem?_push_lt hk]; simp [hk]⟩, ?_⟩
  refine ⟨w.heap.size, Go.Lib.countB s sep + 1, ((extSplit s sep).map Value.string).toArray, ?_, ?_, ?_, ?_, hcount, Nat.le_refl _, fun h => Nat.lt_irrefl _ (hS _ h), ?_⟩
  · rw [mapR_len, hlen]
  · simp only [World.alloc]
    exact Array.getElem?_push_size ..
  · rw [List.size_toArray, List.length_map, hlen, Nat.mul_one]
  · rw [mapR_len, hlen]; exact Nat.le_refl _
  · intro i row hrow
    simp only [mapR, List.getElem?_map] at hrow
    cases hx : (extSplit s sep)[i]? with
    | none => rw [hx] at hrow; cases hrow
    | some x =>
      rw [hx] at hrow
      obtain rfl := Option.some.inj hrow
      refine ⟨rfl, fun j c v hc hv => ?_⟩
      cases j with
      | zero =>
        obtain rfl := Option.some.inj hc
        have : v = .string x := by
          simp only [Nat.mul_one, Nat.add_zero, List.getElem?_toArray, List.getElem?_map, hx, Option.map_some, Option.some.injEq] at hv
          exact hv.symm
        subst this
        exact .v rfl
      | succ j => cases hc
noncomputable def extCut (s sep : ByteArray) : ByteArray × ByteArray × Bool := (⟨(Go.Lib.cut s.data.toList sep.data.toList).1.toArray⟩, ⟨(Go.Lib.cut s.data.toList sep.data.toList).2.1.toArray⟩, (Go.Lib.cut s.data.toList sep.data.toList).2.2)
/-- strings.Cut. -/
theorem ext_Cut (s sep : ByteArray) (hs : s.size < 4294967281) : Ret Tryd.prog 57 none [.c (.v (.string s)), .c (.v (.string sep))] [] (.tup [.c (.v (.string (extCut s sep).1)), .c (.v (.string (extCut s sep).2.1)), .c (.v (.bool (extCut s sep).2.2))]) := by
  refine Ret.belowR ⟨_, Tryd.func57, by kernel_rfl, by kernel_rfl⟩ (by simp [AV.lo]) fun w S vs hS hld hv => ?_
  obtain ⟨x, y, rfl, hx, hy⟩ := vals_two hv
  obtain rfl := arep_v hx
  obtain rfl := arep_v hy
  obtain ⟨m, hm⟩ := max_of hld
  refine (Any.strings_Cut layCut s sep m w hs hm).mono ?_
  rintro e w' ⟨rfl, k, rfl⟩
  refine ⟨_, rfl, ⟨rfl, rfl, rfl, Nat.le_refl _, fun k hk => rfl⟩, _, rfl, rfl, by simp [owns, T1.isOwn], fun i x v hx hv => ?_⟩
  match i, hx, hv with
  | 0, hx, hv => obtain rfl := Option.some.inj hx; obtain rfl := Option.some.inj hv; exact .v rfl
  | 1, hx, hv => obtain rfl := Option.some.inj hx; obtain rfl := Option.some.inj hv; exact .v rfl
  | 2, hx, hv => obtain rfl := Option.some.inj hx; obtain rfl := Option.some.inj hv; exact .v rfl
  | i + 3, hx, hv => cases hx
end Go.Proofs.YtihjdodmlddffaaDoor.Fw
