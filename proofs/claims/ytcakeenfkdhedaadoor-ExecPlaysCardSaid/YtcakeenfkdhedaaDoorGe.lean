/- Laid together by wip/merge.py: St So Sq Cp Ph Ad Cw Pck Pr Mw Pwl Dp. -/
import Derived.Shelf.Strings.Builder1
import Derived.Shelf.Strings.Builder2
import Derived.Shelf.Strings.OnBuilder
import Derived.Shelf.Strconv.Itoa3
import Derived.Ground.NamesProg
import Derived.Test.YtcakeenfkdhedaaDoorChecked
import Derived.Shelf.SlGeneric
import Derived.Shelf.SlSortCmp.WholeK
import Derived.Ground.SlsfProg
import Derived.Test.YtcakeenfkdhedaaDoorGc
import Derived.Lib.OwnBridge
import Derived.Lib.AppendIntMem
import Derived.Test.YtcakeenfkdhedaaDoorGb
import Derived.Lib.SliceRun
import Derived.Laws.OwnMore
import Derived.Shelf.SlSortCmp.NoneTotal
import Derived.Test.YtcakeenfkdhedaaDoorGd
import Derived.Deep.RegionHeld3
import Derived.Deep.AppendLies
import Derived.Deep.RegionLaw
import Derived.Shelf.RegionOpenPlain
/- (St) -/
namespace Go.Proofs
open Go.Shelf
def Tryd.lays156_ren : Go.Shelf.Ren := ⟨fun | 156 => 53 | 165 => 74 | 166 => 75 | 169 => 76 | 240 => 91 | 241 => 92 | 276 => 121 | 277 => 122 | n => n, fun | 31 => 86 | 9 => 9 | 3 => 3 | 4 => 4 | 0 => 0 | 20 => 20 | 72 => 116 | 76 => 120 | 70 => 113 | 37 => 114 | 75 => 119 | 127 => 135 | 164 => 166 | 5 => 5 | 80 => 122 | n => n, fun | n => n⟩
theorem Tryd.lays156 : Go.Proofs.Lays.n156 Tryd.prog Tryd.lays156_ren := {
  mixed := by kernel_rfl
  f156 := Tryd.func53.trans (congrArg some (by kernel_rfl))
  f165 := Tryd.func74.trans (congrArg some (by kernel_rfl))
  f166 := Tryd.func75.trans (congrArg some (by kernel_rfl))
  f169 := Tryd.func76.trans (congrArg some (by kernel_rfl))
  f240 := Tryd.func91.trans (congrArg some (by kernel_rfl))
  f241 := Tryd.func92.trans (congrArg some (by kernel_rfl))
  f276 := Tryd.func121.trans (congrArg some (by kernel_rfl))
  f277 := Tryd.func122.trans (congrArg some (by kernel_rfl))
  t0 := Tryd.underlying0
  a0 := Tryd.isAgg0
  z0 := Tryd.sizeOf0
  v0 := Tryd.zeroValue0
  t3 := Tryd.underlying3
  a3 := Tryd.isAgg3
  z3 := Tryd.sizeOf3
  v3 := Tryd.zeroValue3
  t4 := Tryd.underlying4
  a4 := Tryd.isAgg4
  z4 := Tryd.sizeOf4
  v4 := Tryd.zeroValue4
  t9 := Tryd.underlying9
  a9 := Tryd.isAgg9
  z9 := Tryd.sizeOf9
  v9 := Tryd.zeroValue9
  t20 := Tryd.underlying20
  a20 := Tryd.isAgg20
  z20 := Tryd.sizeOf20
  v20 := Tryd.zeroValue20
  t31 := Tryd.underlying86
  a31 := Tryd.isAgg86
  z31 := Tryd.sizeOf86
  v31 := Tryd.zeroValue86
  t37 := Tryd.underlying114
  a37 := Tryd.isAgg114
  z37 := Tryd.sizeOf114
  v37 := Tryd.zeroValue114
  t70 := Tryd.underlying113
  a70 := Tryd.isAgg113
  z70 := Tryd.sizeOf113
  v70 := Tryd.zeroValue113
  t72 := Tryd.underlying116
  a72 := Tryd.isAgg116
  z72 := Tryd.sizeOf116
  v72 := Tryd.zeroValue116
  t75 := Tryd.underlying119
  a75 := Tryd.isAgg119
  z75 := Tryd.sizeOf119
  v75 := Tryd.zeroValue119
  t76 := Tryd.underlying120
  a76 := Tryd.isAgg120
  z76 := Tryd.sizeOf120
  v76 := Tryd.zeroValue120
  t127 := Tryd.underlying135
  a127 := Tryd.isAgg135
  z127 := Tryd.sizeOf135
  v127 := Tryd.zeroValue135
  t164 := Tryd.underlying166
  a164 := Tryd.isAgg166
  z164 := Tryd.sizeOf166
  v164 := Tryd.zeroValue166 }
theorem Tryd.Builder_Extra_156 : Builder.Extra Tryd.prog Tryd.lays156_ren := {
  sizeBuilder := by kernel_rfl
  liesBuilder := by kernel_rfl
  t5 := Tryd.underlying5
  a5 := Tryd.isAgg5
  z5 := Tryd.sizeOf5
  v5 := Tryd.zeroValue5
  infoByte := by kernel_rfl
  cellsByte := by kernel_rfl
  sizeByte := by kernel_rfl
  neB5 := by decide }
open Go.RowKit in
/-- No element: the empty string; the world is as it was. (Whatever the slice's address and capacity: a nil slice too.) (LAID: no walk: one application.) -/
theorem Tryd.strings_Join_none (a : Option Addr) (c : Nat) (sep : ByteArray) (w : World) :
    Calls Tryd.prog 53 #[.slice a 0 c, .string sep] w fun e w' => e = .returned (.string ⟨#[]⟩) ∧ w' = w := Any.strings_Join_none Tryd.lays156 Tryd.Builder_Extra_156 a c sep w
open Go.RowKit in
/-- strings.Join: "Join concatenates the elements of its first argument to create a single string. The separator string sep is placed between elements in the resulting string.": HOWEVER MANY ELEMENTS. Below the heap's end the world is as it was. (LAID: no walk: one application.) -/
theorem Tryd.strings_Join (bk o c : Nat) (xs : List ByteArray) (sep : ByteArray) (w : World) (hcells : ∀ (j : Nat) x, xs[j]? = some x → w.cell? ⟨bk, o + j, none⟩ = some (.string x)) (hbk : bk < w.heap.size) (hN : xs.length ≤ 140737488355328) (hcap : xs.length ≤ c) (hlen : (Lib.join (xs.map (·.data.toList)) sep.data.toList).length ≤ 140737488355328) :
    Calls Tryd.prog 53 #[.slice (some ⟨bk, o, none⟩) xs.length c, .string sep] w fun e w' => e = .returned (.string ⟨(Lib.join (xs.map (·.data.toList)) sep.data.toList).toArray⟩) ∧ Below w.heap.size w w' := Any.strings_Join Tryd.lays156 Tryd.Builder_Extra_156 bk o c xs sep w hcells hbk hN hcap hlen
def Tryd.lays171_ren : Go.Shelf.Ren := ⟨fun | 171 => 52 | 243 => 73 | 246 => 90 | 283 => 117 | 284 => 118 | 285 => 119 | 286 => 120 | 129 => 116 | 317 => 139 | 318 => 140 | 319 => 141 | 320 => 127 | 337 => 142 | 338 => 143 | n => n, fun | 3 => 3 | 9 => 9 | 2 => 2 | 4 => 4 | 171 => 162 | 0 => 0 | 53 => 52 | 37 => 114 | 5 => 5 | 173 => 164 | 212 => 181 | 51 => 160 | 20 => 20 | 213 => 182 | 46 => 133 | 232 => 185 | 233 => 186 | n => n, fun | 17 => 0 | 18 => 2 | 19 => 3 | n => n⟩
theorem Tryd.lays171 : Go.Proofs.Lays.n171 Tryd.prog Tryd.lays171_ren := {
  mixed := by kernel_rfl
  f129 := Tryd.func116.trans (congrArg some (by kernel_rfl))
  f171 := Tryd.func52.trans (congrArg some (by kernel_rfl))
  f243 := Tryd.func73.trans (congrArg some (by kernel_rfl))
  f246 := Tryd.func90.trans (congrArg some (by kernel_rfl))
  f283 := Tryd.func117.trans (congrArg some (by kernel_rfl))
  f284 := Tryd.func118.trans (congrArg some (by kernel_rfl))
  f285 := Tryd.func119.trans (congrArg some (by kernel_rfl))
  f286 := Tryd.func120.trans (congrArg some (by kernel_rfl))
  f317 := Tryd.func139.trans (congrArg some (by kernel_rfl))
  f318 := Tryd.func140.trans (congrArg some (by kernel_rfl))
  f319 := Tryd.func141.trans (congrArg some (by kernel_rfl))
  f320 := Tryd.func127.trans (congrArg some (by kernel_rfl))
  f337 := Tryd.func142.trans (congrArg some (by kernel_rfl))
  f338 := Tryd.func143.trans (congrArg some (by kernel_rfl))
  t0 := Tryd.underlying0
  a0 := Tryd.isAgg0
  z0 := Tryd.sizeOf0
  v0 := Tryd.zeroValue0
  t2 := Tryd.underlying2
  a2 := Tryd.isAgg2
  z2 := Tryd.sizeOf2
  v2 := Tryd.zeroValue2
  t3 := Tryd.underlying3
  a3 := Tryd.isAgg3
  z3 := Tryd.sizeOf3
  v3 := Tryd.zeroValue3
  t4 := Tryd.underlying4
  a4 := Tryd.isAgg4
  z4 := Tryd.sizeOf4
  v4 := Tryd.zeroValue4
  t5 := Tryd.underlying5
  a5 := Tryd.isAgg5
  z5 := Tryd.sizeOf5
  v5 := Tryd.zeroValue5
  t9 := Tryd.underlying9
  a9 := Tryd.isAgg9
  z9 := Tryd.sizeOf9
  v9 := Tryd.zeroValue9
  t20 := Tryd.underlying20
  a20 := Tryd.isAgg20
  z20 := Tryd.sizeOf20
  v20 := Tryd.zeroValue20
  t37 := Tryd.underlying114
  a37 := Tryd.isAgg114
  z37 := Tryd.sizeOf114
  v37 := Tryd.zeroValue114
  t46 := Tryd.underlying133
  a46 := Tryd.isAgg133
  z46 := Tryd.sizeOf133
  v46 := Tryd.zeroValue133
  t51 := Tryd.underlying160
  a51 := Tryd.isAgg160
  z51 := Tryd.sizeOf160
  v51 := Tryd.zeroValue160
  t53 := Tryd.underlying52
  a53 := Tryd.isAgg52
  z53 := Tryd.sizeOf52
  v53 := Tryd.zeroValue52
  t171 := Tryd.underlying162
  a171 := Tryd.isAgg162
  z171 := Tryd.sizeOf162
  v171 := Tryd.zeroValue162
  t173 := Tryd.underlying164
  a173 := Tryd.isAgg164
  z173 := Tryd.sizeOf164
  v173 := Tryd.zeroValue164
  t212 := Tryd.underlying181
  a212 := Tryd.isAgg181
  z212 := Tryd.sizeOf181
  v212 := Tryd.zeroValue181
  t213 := Tryd.underlying182
  a213 := Tryd.isAgg182
  z213 := Tryd.sizeOf182
  t232 := Tryd.underlying185
  a232 := Tryd.isAgg185
  z232 := Tryd.sizeOf185
  v232 := Tryd.zeroValue185
  t233 := Tryd.underlying186
  a233 := Tryd.isAgg186
  z233 := Tryd.sizeOf186
  v233 := Tryd.zeroValue186
  g17 := by kernel_rfl
  g18 := by kernel_rfl
  g19 := by kernel_rfl }
open Go.RowKit Go.Sort Go.Lib in
/-- THE ROAD WITHOUT THE TABLE: 0 <= i < 100: NO PREMISE ON THE WORLD, AND THE WORLD IS AS IT WAS: a row that keeps its argument in that range need list no table ('laid = []'). (LAID: no walk: one application.) -/
theorem Tryd.strconv_Itoa_small (i : Nat) (hi : i < 100) (w : World) :
    Calls Tryd.prog 52 #[.int .i64 i] w fun e w' => e = .returned (.string ⟨(Lib.decDigits i).toArray⟩) ∧ w' = w := Any.strconv_Itoa_small Tryd.lays171 i hi w
end Go.Proofs
/- (So) -/
namespace Go.Proofs
open Go.Shelf
def Tryd.pdqT_ren : Go.Shelf.Ren := ⟨fun | 14 => 87 | 20 => 107 | 21 => 108 | 22 => 109 | 23 => 110 | 24 => 111 | 25 => 112 | 26 => 113 | 27 => 114 | 46 => 134 | 47 => 135 | 48 => 136 | 49 => 137 | 50 => 138 | 15 => 88 | 57 => 145 | 28 => 115 | 29 => 116 | n => n, fun | 24 => 56 | 22 => 48 | 3 => 3 | 25 => 111 | 4 => 4 | 0 => 0 | 46 => 154 | 45 => 153 | 50 => 146 | 66 => 174 | 39 => 133 | 55 => 52 | 70 => 178 | 76 => 183 | 77 => 44 | 53 => 160 | 5 => 5 | 9 => 9 | n => n, fun | n => n⟩
theorem Tryd.pdqT : Go.Proofs.SlLaysF0.n14 Tryd.prog Tryd.pdqT_ren := {
  mixed := by kernel_rfl
  f14 := ⟨Tryd.f87.name, by decide, Tryd.func87.trans (congrArg some (by kernel_rfl))⟩
  f15 := Tryd.func88.trans (congrArg some (by kernel_rfl))
  f20 := ⟨Tryd.f107.name, by decide, Tryd.func107.trans (congrArg some (by kernel_rfl))⟩
  f21 := ⟨Tryd.f108.name, by decide, Tryd.func108.trans (congrArg some (by kernel_rfl))⟩
  f22 := ⟨Tryd.f109.name, by decide, Tryd.func109.trans (congrArg some (by kernel_rfl))⟩
  f23 := ⟨Tryd.f110.name, by decide, Tryd.func110.trans (congrArg some (by kernel_rfl))⟩
  f24 := ⟨Tryd.f111.name, by decide, Tryd.func111.trans (congrArg some (by kernel_rfl))⟩
  f25 := ⟨Tryd.f112.name, by decide, Tryd.func112.trans (congrArg some (by kernel_rfl))⟩
  f26 := ⟨Tryd.f113.name, by decide, Tryd.func113.trans (congrArg some (by kernel_rfl))⟩
  f27 := ⟨Tryd.f114.name, by decide, Tryd.func114.trans (congrArg some (by kernel_rfl))⟩
  f28 := Tryd.func115.trans (congrArg some (by kernel_rfl))
  f29 := Tryd.func116.trans (congrArg some (by kernel_rfl))
  f46 := ⟨Tryd.f134.name, by decide, Tryd.func134.trans (congrArg some (by kernel_rfl))⟩
  f47 := Tryd.func135.trans (congrArg some (by kernel_rfl))
  f48 := Tryd.func136.trans (congrArg some (by kernel_rfl))
  f49 := ⟨Tryd.f137.name, by decide, Tryd.func137.trans (congrArg some (by kernel_rfl))⟩
  f50 := ⟨Tryd.f138.name, by decide, Tryd.func138.trans (congrArg some (by kernel_rfl))⟩
  f57 := ⟨Tryd.f145.name, by decide, Tryd.func145.trans (congrArg some (by kernel_rfl))⟩
  t0 := Tryd.underlying0
  a0 := Tryd.isAgg0
  z0 := Tryd.sizeOf0
  v0 := Tryd.zeroValue0
  t3 := Tryd.underlying3
  a3 := Tryd.isAgg3
  z3 := Tryd.sizeOf3
  v3 := Tryd.zeroValue3
  t4 := Tryd.underlying4
  a4 := Tryd.isAgg4
  z4 := Tryd.sizeOf4
  v4 := Tryd.zeroValue4
  t5 := Tryd.underlying5
  a5 := Tryd.isAgg5
  z5 := Tryd.sizeOf5
  v5 := Tryd.zeroValue5
  t9 := Tryd.underlying9
  a9 := Tryd.isAgg9
  z9 := Tryd.sizeOf9
  v9 := Tryd.zeroValue9
  t22 := Tryd.underlying48
  a22 := Tryd.isAgg48
  z22 := Tryd.sizeOf48
  v22 := Tryd.zeroValue48
  t25 := Tryd.underlying111
  a25 := Tryd.isAgg111
  z25 := Tryd.sizeOf111
  v25 := Tryd.zeroValue111
  t39 := Tryd.underlying133
  a39 := Tryd.isAgg133
  z39 := Tryd.sizeOf133
  v39 := Tryd.zeroValue133
  t45 := Tryd.underlying153
  a45 := Tryd.isAgg153
  z45 := Tryd.sizeOf153
  v45 := Tryd.zeroValue153
  t46 := Tryd.underlying154
  a46 := Tryd.isAgg154
  z46 := Tryd.sizeOf154
  v46 := Tryd.zeroValue154
  t50 := Tryd.underlying146
  a50 := Tryd.isAgg146
  z50 := Tryd.sizeOf146
  v50 := Tryd.zeroValue146
  t53 := Tryd.underlying160
  a53 := Tryd.isAgg160
  z53 := Tryd.sizeOf160
  v53 := Tryd.zeroValue160
  t55 := Tryd.underlying52
  a55 := Tryd.isAgg52
  z55 := Tryd.sizeOf52
  v55 := Tryd.zeroValue52
  t66 := Tryd.underlying174
  a66 := Tryd.isAgg174
  z66 := Tryd.sizeOf174
  v66 := Tryd.zeroValue174
  t70 := Tryd.underlying178
  a70 := Tryd.isAgg178
  z70 := Tryd.sizeOf178
  v70 := Tryd.zeroValue178
  t76 := Tryd.underlying183
  a76 := Tryd.isAgg183
  z76 := Tryd.sizeOf183
  v76 := Tryd.zeroValue183
  t77 := Tryd.underlying44
  a77 := Tryd.isAgg44
  z77 := Tryd.sizeOf44
  v77 := Tryd.zeroValue44 }
def Tryd.lenT_ren : Go.Shelf.Ren := ⟨fun | 15 => 88 | 28 => 115 | 29 => 116 | n => n, fun | 39 => 133 | 3 => 3 | 53 => 160 | 55 => 52 | 4 => 4 | 5 => 5 | 9 => 9 | n => n, fun | n => n⟩
theorem Tryd.lenT : Go.Proofs.SlLaysF0.n15 Tryd.prog Tryd.lenT_ren := {
  mixed := by kernel_rfl
  f15 := Tryd.func88.trans (congrArg some (by kernel_rfl))
  f28 := Tryd.func115.trans (congrArg some (by kernel_rfl))
  f29 := Tryd.func116.trans (congrArg some (by kernel_rfl))
  t3 := Tryd.underlying3
  a3 := Tryd.isAgg3
  z3 := Tryd.sizeOf3
  v3 := Tryd.zeroValue3
  t4 := Tryd.underlying4
  a4 := Tryd.isAgg4
  z4 := Tryd.sizeOf4
  v4 := Tryd.zeroValue4
  t5 := Tryd.underlying5
  a5 := Tryd.isAgg5
  z5 := Tryd.sizeOf5
  v5 := Tryd.zeroValue5
  t9 := Tryd.underlying9
  a9 := Tryd.isAgg9
  z9 := Tryd.sizeOf9
  v9 := Tryd.zeroValue9
  t39 := Tryd.underlying133
  a39 := Tryd.isAgg133
  z39 := Tryd.sizeOf133
  v39 := Tryd.zeroValue133
  t53 := Tryd.underlying160
  a53 := Tryd.isAgg160
  z53 := Tryd.sizeOf160
  v53 := Tryd.zeroValue160
  t55 := Tryd.underlying52
  a55 := Tryd.isAgg52
  z55 := Tryd.sizeOf52
  v55 := Tryd.zeroValue52 }
end Go.Proofs
/- (Sq) -/
namespace Go.Proofs.YtcakeenfkdhedaaDoor.Gm
open Go.RowKit
open Go.Shelf Go.Lib Go.Sort
set_option linter.unusedVariables false
theorem isnan_any (x : Int) (w : World) : Calls Tryd.prog 89 #[.int .i64 x] w fun e w' => e = .returned (.bool false) ∧ w = w' := by
  have h : (x != x) = false := by simp
  go_enter Tryd.func89, Tryd.ntmps89
  go_wp2
  go_ret
  exact ⟨rfl, rfl⟩
/-- which of two tasks is first -/
def cfT (s t : T3) : Int := if s.2.1 < t.2.1 then -1 else if t.2.1 < s.2.1 then 1 else 0
theorem compare_any (x y : Int) (w : World) : Calls Tryd.prog 71 #[.int .i64 x, .int .i64 y] w fun e w' => e = .returned (.int .i64 (if x < y then -1 else if y < x then 1 else 0)) ∧ w = w' := by
  by_cases h1 : x < y
  · rw [if_pos h1]
    go_enter Tryd.func71, Tryd.ntmps71
    go_wp2_with fail
    refine (isnan_any x _).mono ?_
    rintro e w' ⟨rfl, rfl⟩
    go_wp2_with fail
    refine (isnan_any y _).mono ?_
    rintro e w' ⟨rfl, rfl⟩
    go_wp2
    go_ret
    exact ⟨rfl, rfl⟩
  · rw [if_neg h1]
    by_cases h2 : y < x
    · rw [if_pos h2]
      go_enter Tryd.func71, Tryd.ntmps71
      go_wp2_with fail
      refine (isnan_any x _).mono ?_
      rintro e w' ⟨rfl, rfl⟩
      go_wp2_with fail
      refine (isnan_any y _).mono ?_
      rintro e w' ⟨rfl, rfl⟩
      go_wp2
      go_ret
      exact ⟨rfl, rfl⟩
    · rw [if_neg h2]
      go_enter Tryd.func71, Tryd.ntmps71
      go_wp2_with fail
      refine (isnan_any x _).mono ?_
      rintro e w' ⟨rfl, rfl⟩
      go_wp2_with fail
      refine (isnan_any y _).mono ?_
      rintro e w' ⟨rfl, rfl⟩
      go_wp2
      go_ret
      exact ⟨rfl, rfl⟩
theorem ltT (x y : T3) : ltOf cfT x y = decide (x.2.1 < y.2.1) := by
  unfold ltOf cfT
  by_cases h1 : x.2.1 < y.2.1
  · simp [h1]
  · by_cases h2 : y.2.1 < x.2.1 <;> simp [h1, h2]
theorem swoT : SWO (ltOf cfT) where
  irrefl x := by rw [ltT]; simp
  trans x y z h1 h2 := by rw [ltT] at *; simp at *; omega
  ntrans x y z h1 h2 := by rw [ltT] at *; simp at *; omega
theorem closT (x y : T3) (W : World) : Calls Tryd.prog 70 #[.agg (tc x).toArray, .agg (tc y).toArray] W fun e w' => e = .returned (.int .i64 (cfT x y)) ∧ ∃ q os', w' = grow (W.drewN q) os' := by
  show Calls Tryd.prog 70 #[.agg #[.int .i64 x.1, .int .i64 x.2.1, .int .i64 x.2.2], .agg #[.int .i64 y.1, .int .i64 y.2.1, .int .i64 y.2.2]] W _
  have hcon := fun W' => compare_any x.2.1 y.2.1 W'
  rw [show (if x.2.1 < y.2.1 then (-1 : Int) else if y.2.1 < x.2.1 then 1 else 0) = cfT x y from rfl] at hcon
  generalize cfT x y = r at hcon ⊢
  go_enter Tryd.func70, Tryd.ntmps70
  go_wp2_with fail
  refine (hcon _).mono ?_
  rintro e w' ⟨rfl, rfl⟩
  go_wp2
  go_ret
  exact ⟨rfl, 0, _, by rw [alloc_eq_grow, alloc_eq_grow, grow_grow]; rfl⟩
theorem cmpT (blk off size : Nat) (w : World) : CmpLays Tryd.prog 70 #[] tc 3 cfT blk off size w := fun _ _ _ _ x y => closT x y _
theorem tcs_flat (l : List T3) : ∀ t, t < l.length * 3 → (flatK tc 3 l.toArray)[t]! = ((tcs l)[t]?).getD default := fun t ht => by
  rw [get_flatK _ _ _ _ (by simpa using ht)]
  have hi : t / 3 < l.length := by omega
  have e : (l.toArray)[t / 3]! = tg l (t / 3) := by
    rw [tg_lt hi, getElem!_pos _ _ (by simpa using hi)]
    simp
  rw [e]
  obtain ⟨e0, e1, e2⟩ := tcs_get l (t / 3) hi
  have h3 : t % 3 = 0 ∨ t % 3 = 1 ∨ t % 3 = 2 := by omega
  have ht' : t = t / 3 * 3 + t % 3 := by omega
  rcases h3 with h3 | h3 | h3
  · rw [h3, show t = t / 3 * 3 by omega, Nat.mul_div_cancel _ (by omega : 0 < 3), e0]; rfl
  · rw [h3, show t = t / 3 * 3 + 1 by omega, show (t / 3 * 3 + 1) / 3 = t / 3 by omega, e1]; rfl
  · rw [h3, show t = t / 3 * 3 + 2 by omega, show (t / 3 * 3 + 2) / 3 = t / 3 by omega, e2]; rfl
theorem Ot.holds {B g n cap : Nat} {w : World} {l : List T3} (h : Ot B w (.slice (some ⟨g, 0, none⟩) n cap) l) : HoldsK tc 3 w g 0 l.toArray := by
  intro j hj
  rw [size_flatK] at hj
  have hj' : j < l.length * 3 := by simpa using hj
  have hn : n = l.length := by
    obtain ⟨a, c, e, _⟩ := Ot.shape h
    injection e
  subst hn
  rw [tcs_flat l j hj', Nat.zero_add]
  refine ⟨?_, World.ownsRow.frozenAt h j⟩
  rw [World.ownsRow.cellAt h j hj', List.getElem?_eq_getElem (by rw [tcs_len]; exact hj')]
  rfl
set_option maxHeartbeats 2000000 in
set_option maxRecDepth 100000 in
theorem sort_own (B g n cap : Nat) (l : List T3) (w : World) (h : Ot B w (.slice (some ⟨g, 0, none⟩) n cap) l) (hB : B ≤ w.heap.size) (hl : l.length ≤ 5864062014634) :
    Calls Tryd.prog 69 #[.slice (some ⟨g, 0, none⟩) n cap, .func (Fn.func 70) #[] #[]] w fun e w' => e = .returned (.tuple #[]) ∧ ∃ r : List T3, r.Perm l ∧ r.Pairwise (fun s t => s.2.1 ≤ t.2.1) ∧ Rk w' (.slice (some ⟨g, 0, none⟩) n cap) r ∧ Below B w w' := by
  have hn : n = l.length := by
    obtain ⟨a, c, e, _⟩ := Ot.shape h
    injection e
  subst hn
  obtain ⟨a', cap', e, hc1, hc2, _⟩ := h.shape
  injection e with e1 e2 e3
  subst e3
  clear e1 e2
  have hb := World.ownsRow.lt h g rfl
  have hH := h.holds
  have hlen : l.toArray.size = l.length := by simp
  have eg : ∀ args w, (callFunc 70 args).run Tryd.prog w = .ok (.enter 70 args) w := enters_of Tryd.func70 (by kernel_rfl) rfl
  have hlim : Lib.bitLen l.toArray.size < 4611686018427387904 := Nat.lt_of_le_of_lt (Lib.bitLen_le l.toArray.size 62 (by omega) (by omega)) (by omega)
  have hp := AnyQ.pdqsortCmpFunc_all Tryd.pdqT 3 Tryd.isAgg56 Tryd.sizeOf56 tc cfT 70 #[] swoT g 0 cap l.toArray w eg (cmpT g 0 _ w) ⟨fun _ => rfl, fun x v hv => by simp [tc] at hv; rcases hv with rfl | rfl | rfl <;> rfl, hH, hb.2⟩ (l.toArray.size + 1) 0 l.toArray.size (Lib.bitLen l.toArray.size) l.toArray w (by omega) rfl (SWK.start hH) (Nat.zero_le _) (Nat.le_refl _) (by omega) hlim (Or.inl rfl)
  change Calls Tryd.prog 87 _ _ _ at hp
  have hs := pdq_sorts (ltOf cfT) swoT l.toArray 0 l.toArray.size (Lib.bitLen l.toArray.size) true true (Nat.zero_le _) (Nat.le_refl _) (Or.inl rfl)
  have hL : Calls Tryd.prog 88 #[.int .u64 (l.length : Int)] w fun e w' => e = .returned (.int .i64 (Lib.bitLen l.length : Nat)) ∧ w = w' := by
    have h := Any.bits_Len (SlLaysF0.n15.bits Tryd.lenT) (l.length : Int) w (by omega) (by omega)
    rw [Int.toNat_natCast] at h
    exact h.mono fun _ _ q => ⟨q.1, q.2.symm⟩
  rw [hlen] at hp hs
  generalize pdq (ltOf cfT) l.toArray 0 l.length (Lib.bitLen l.length) true true = d' at hp hs
  obtain ⟨⟨hd1, _, hd2⟩, hsd⟩ := hs
  have wr : IntKind.u64.wrap (l.length : Int) = l.length := by simp [IntKind.wrap, IntKind.bits, IntKind.signed]; omega
  have HS := Lib.hid hsd
  have HH := Lib.hid hH
  have HPM := Lib.hid hd2
  have HSZ := Lib.hid hd1
  have HPQ := Lib.hid hp
  have HLN := Lib.hid hL
  have HN := Lib.hid hlen
  clear hsd hH hd2 hd1 hp hL h hlen
  generalize Lib.bitLen l.length = bl at *
  go_enter Tryd.func69, Tryd.ntmps69
  go_wp2_with fail
  refine HLN.out.mono ?_
  rintro e w' ⟨rfl, rfl⟩
  go_wp2_with fail
  refine HPQ.out.mono ?_
  rintro e w' ⟨rfl, n, os, rfl⟩
  go_wp2
  go_end0
  have hsz2 : d'.size = l.length := by rw [HSZ.out, HN.out]
  refine ⟨rfl, d'.toList, ?_, ?_, ?_, ?_⟩
  · have hp := HPM.out
    rw [show d'.extract 0 l.length = d' by rw [← hsz2]; exact Array.extract_size, show l.toArray.extract 0 l.length = l.toArray by rw [← HN.out]; exact Array.extract_size] at hp
    simpa using hp
  · rw [List.pairwise_iff_getElem]
    intro i j hi hj hij
    have h1 := HS.out i j (Nat.zero_le _) hij (by rw [← hsz2]; simpa using hj)
    rw [ltT] at h1
    have hi' : i < d'.size := by simpa using hi
    have hj' : j < d'.size := by simpa using hj
    rw [getElem!_pos d' i hi', getElem!_pos d' j hj'] at h1
    have h2 := of_decide_eq_false h1
    simp only [Array.getElem_toList]
    omega
  · have hK := holdsK_sortWorldK_c tc 3 _ g 0 l.toArray d' n os HH.out hb.2 (by rw [hsz2, HN.out])
    have hdl : d'.toList.length = l.length := by rw [Array.length_toList]; exact hsz2
    refine ⟨some ⟨g, 0, none⟩, cap, g, 0, by rw [hdl], by rw [hdl]; exact hc1, hc2, .inr rfl, fun i hi => ?_⟩
    have hi' : i < d'.size := by simpa using hi
    have e : tg d'.toList i = d'[i]! := by rw [tg_lt hi, getElem!_pos d' i hi']; simp
    rw [e]
    have c0 := (HoldsK.cell hK hi' (c := 0) (by omega)).1
    have c1 := (HoldsK.cell hK hi' (c := 1) (by omega)).1
    have c2 := (HoldsK.cell hK hi' (c := 2) (by omega)).1
    exact ⟨c0, c1, c2⟩
  · have b1 := below_putRow (enc := id) (q := n) (d := flatK tc 3 d') (RowKit.Below.refl B w) hb.1
    have b2 := below_grow B (putRow id (Sort.ahead w n) g 0 (flatK tc 3 d')) (Nat.le_trans hB b1.size) 0 os
    exact b1.trans b2
end Go.Proofs.YtcakeenfkdhedaaDoor.Gm
/- (Cp) -/
namespace Go.Proofs.YtcakeenfkdhedaaDoor.Gm
open Go.RowKit
theorem cloneP_raw (a : Option Addr) (n cap : Nat) (xs : List Value) (w : World) (hl : xs.length = n * 3) (h1 : ∀ u ∈ xs, u.oneCell' = true) (hc : ∀ ad, a = some ad → ∀ j u, xs[j]? = some u → w.cell? (ad.add j) = some u) (hnil : a = none → n = 0) (hn : n ≤ 5864062014634) :
    Calls Tryd.prog 32 #[.slice a n cap] w fun e w' => ∃ v', e = .returned v' ∧ w'.ownsRow w.heap.size 56 3 v' n xs ∧ Below w.heap.size w w' := by
  have hq := fun W : World => Lib.run_eql_slice_nil (P := Tryd.prog) W 63 56 a n cap 0 0 Tryd.underlying63
  rcases a with _ | ad
  · obtain rfl := hnil rfl
    have hx : xs = [] := List.eq_nil_of_length_eq_zero (by omega)
    subst hx
    simp only [Option.isNone] at hq
    go_enter Tryd.func32, Tryd.ntmps32
    go_wp2
    go_ret
    exact ⟨_, rfl, World.ownsRow_nil _ _ _ _, Below.refl _ _⟩
  · simp only [Option.isNone] at hq
    obtain ⟨i0, hi, hz0, hz1, hz2⟩ := info_parts (show (Tryd.prog.info? 56).map (fun i => (i.zero, i.size, i.bytes)) = some (some (.agg #[.int .i64 0, .int .i64 0, .int .i64 0]), 3, 24) by kernel_rfl)
    have HC := Lib.hid (hc ad rfl)
    have HL := Lib.hid hl
    have H1 := Lib.hid h1
    clear hc hl h1 hnil
    have hzs : (.agg #[.int .i64 0, .int .i64 0, .int .i64 0] : Value).cells.size = 3 := rfl
    have hsz : 0 < 3 := by decide
    have hown := World.ownsRow_lit (e := 56) (size := 3) (base := w.heap.size) w #[] 0 (Nat.le_refl _) (by unfold maxLen; omega) (by simp)
    have hnews : ∀ j u, xs[j]? = some u → (w.alloc (.cells #[] 56)).cell? (ad.add j) = some u := by
      intro j u hu
      have h2 := HC.out j u hu
      have h3 := (Below.refl w.heap.size w).alloc (Nat.le_refl _) (.cells #[] 56)
      exact (h3.cell (World.block_lt_of_cell? w _ h2)).trans h2
    have hm0 : 0 + n ≤ maxLen := by unfold maxLen; omega
    have hby : (0 + n) * 24 ≤ 140737488355328 := by omega
    have hbase : w.heap.size ≤ (w.alloc (.cells #[] 56)).heap.size := by simp
    have HO := Lib.hid hown
    have HN := Lib.hid hnews
    clear hown hnews
    go_enter Tryd.func32, Tryd.ntmps32
    go_wp2_with (refine wpList_append_own _ rfl (.tmp 5) (.tmp 6) 63 rfl w.heap.size 56 i0 (.agg #[.int .i64 0, .int .i64 0, .int .i64 0]) 3 24 Tryd.underlying63 hi hz0 hz1 hz2 hzs hsz (.slice (some ⟨w.heap.size, 0, none⟩) 0 0) 0 [] rfl HO.out ad n cap xs rfl HL.out HN.out H1.out hm0 hby hbase ?_; intro v1 w1 hown1 hg1 _)
    go_ret
    refine ⟨_, rfl, ?_, ?_⟩
    · have := hown1
      rwa [Nat.zero_add, List.nil_append] at this
    · exact ((Below.refl _ _).alloc (Nat.le_refl _) _).grown hg1 hbase (fun k hk => Nat.le_of_eq (by simpa [Value.ownBlock] using hk))
theorem cloneP_any (l : List T3) (v : Value) (w : World) (h : Rk w v l) (hnn : ∀ c, v = .slice none l.length c → l.length = 0) (hn : l.length ≤ 5864062014634) :
    Calls Tryd.prog 32 #[v] w fun e w' => ∃ v', e = .returned v' ∧ Ot w.heap.size w' v' l ∧ Below w.heap.size w w' := by
  obtain ⟨a, cap, b, off, rfl, hcap, hm, hx, hc⟩ := h
  refine cloneP_raw a l.length cap (tcs l) w (tcs_len l) ?_ ?_ (fun e => by subst e; exact hnn cap rfl) hn
  · intro u hu
    unfold tcs at hu
    obtain ⟨t, _, ht⟩ := List.mem_flatMap.1 hu
    simp only [tc, List.mem_cons, List.not_mem_nil, or_false] at ht
    rcases ht with rfl | rfl | rfl <;> rfl
  · intro ad he j u hu
    have hj : j < l.length * 3 := by rw [← tcs_len]; exact (List.getElem?_eq_some_iff.1 hu).1
    rcases hx with hx | hx
    · omega
    · rw [he] at hx
      injection hx with hx
      subst hx
      obtain ⟨i, k, hi, hk, rfl⟩ : ∃ i k, i < l.length ∧ k < 3 ∧ j = i * 3 + k := ⟨j / 3, j % 3, by omega, by omega, by omega⟩
      have e : ((⟨b, off, none⟩ : Addr).add (i * 3 + k)) = ⟨b, off + (i * 3 + k), none⟩ := by unfold Addr.add; split <;> simp_all
      rw [e]
      have h1 := hc i hi
      have h2 := tcs_get l i hi
      match k, hk with
      | 0, _ => rw [Nat.add_zero] at hu ⊢; rw [h2.1] at hu; exact h1.1.trans hu
      | 1, _ => rw [h2.2.1] at hu; exact h1.2.1.trans hu
      | 2, _ => rw [h2.2.2] at hu; exact h1.2.2.trans hu
end Go.Proofs.YtcakeenfkdhedaaDoor.Gm
/- (Ph) -/
namespace Go.Proofs.YtcakeenfkdhedaaDoor.Gm
open Go.RowKit
set_option linter.unusedVariables false
/-- a list of lists of the call's own -/
def OP (B : Nat) (w : World) (v : Value) (ll : List (List T3)) : Prop :=
  ∃ vs : List Value, w.ownsRow B 63 1 v ll.length vs ∧ vs.length = ll.length ∧ ∀ i u, vs[i]? = some u → Ot B w u (pg ll i)
theorem OP.nil (B : Nat) (w : World) : OP B w (.slice none 0 0) [] := ⟨[], World.ownsRow_nil _ _ _ _, rfl, fun i u h => by simp at h⟩
theorem OP.only {S : Nat → Prop} {B : Nat} {w w' : World} {v : Value} {ll : List (List T3)} (h : OP B w v ll) (ho : Only S w w') (hs : ∀ g, B ≤ g → g < w.heap.size → ¬ S g) : OP B w' v ll := by
  obtain ⟨vs, h1, h2, h3⟩ := h
  exact ⟨vs, own_only h1 ho (fun g e => hs g (World.ownsRow.lt h1 g e).1 (World.ownsRow.lt h1 g e).2), h2, fun i u hu => (h3 i u hu).only ho (fun g e => hs g (Ot.lt (h3 i u hu) g e).1 (Ot.lt (h3 i u hu) g e).2)⟩
theorem OP.below {B : Nat} {w w' : World} {v : Value} {ll : List (List T3)} (h : OP B w v ll) (hb : Below w.heap.size w w') : OP B w' v ll :=
  h.only (Only.of_below (S := fun _ => False) hb (fun k hk hk' => by omega)) (fun _ _ _ e => e)
theorem OP.mono {B B' : Nat} {w : World} {v : Value} {ll : List (List T3)} (h : OP B w v ll) (hB : B' ≤ B) : OP B' w v ll := by
  obtain ⟨vs, h1, h2, h3⟩ := h
  refine ⟨vs, ⟨h1.1, ?_⟩, h2, fun i u hu => (h3 i u hu).mono hB⟩
  rcases h1.2 with h0 | ⟨g, cap, cur, e, hb, rest⟩
  · exact .inl h0
  · exact .inr ⟨g, cap, cur, e, by omega, rest⟩
theorem OP.shape {B : Nat} {w : World} {v : Value} {ll : List (List T3)} (h : OP B w v ll) : ∃ a cap, v = .slice a ll.length cap ∧ ll.length ≤ cap ∧ cap ≤ 9223372036854775807 := by
  obtain ⟨vs, h1, h2, h3⟩ := h
  rcases h1.2 with ⟨rfl, h0⟩ | ⟨g, cap, cur, rfl, hb, hg, hn, hm, hs, ht⟩
  · rw [h0]; exact ⟨none, 0, rfl, by simp, by omega⟩
  · exact ⟨_, cap, rfl, hn, by unfold maxLen at hm; omega⟩
theorem info_phase : (Tryd.prog.info? 63).map (fun i => (i.zero, i.size, i.bytes)) = some (some (.slice none 0 0), 1, 24) := by kernel_rfl
/-- append of a list of one's own -/
theorem wl_appP {ops : Array Oper} {rest : List Oper} {o : Oper} {a : Act} {Q : Exit → Act → World → Prop} (w : World) (hgd : o.guard = none) (s x : Operand)
    (ho : o.op = .call { callee := .builtin .append, args := #[s, x], argTypes := #[23, 23] })
    (B : Nat) (v : Value) (ll : List (List T3)) (u : Value) (l : List T3) (W : World) (hs : a.eval s = v) (hx : a.eval x = .slice (some ⟨w.heap.size, 0, none⟩) 1 1)
    (hown : OP B w v ll) (hu : Ot B w u l) (hbel : Below B W w) (hB : B ≤ w.heap.size) (hl : ll.length ≤ 1000000)
    (h : ∀ v' w', OP B w' v' (ll ++ [l]) → Below B W w' → wpList Tryd.prog ops Q rest (a.put o.dst v') w') :
    wpList Tryd.prog ops Q (o :: rest) a (w.alloc (.cells #[u] 63)) := by
  obtain ⟨i0, hi, hz0, hz1, hz2⟩ := info_parts info_phase
  have hmx : ll.length + 1 ≤ maxLen := by unfold maxLen; omega
  obtain ⟨vs, h1, h2, h3⟩ := hown
  have hu1 : u.oneCell' = true := by
    obtain ⟨aa, cc, rfl, _⟩ := Ot.shape hu
    rfl
  refine wpList_append_own_at _ hgd s x 23 ho B 63 i0 (.slice none 0 0) 1 24 Tryd.underlying23 hi hz0 hz1 hz2 rfl (by decide) v ll.length vs hs (World.ownsRow.alloc h1 _) ⟨w.heap.size, 0, none⟩ 1 1 [u] hx rfl (cell_one_new _ _ _) (by intro y hy; simp at hy; subst hy; exact hu1) hmx (by omega) (by simp; omega) ?_
  intro v' w' hown' hgrow _ hat
  have hO : Only (fun k => v.ownBlock = some k) (w.alloc (.cells #[u] 63)) w' := Only.of_grown (S := fun k => v.ownBlock = some k) hgrow (fun _ e => e)
  have hal := (Only.refl (fun _ => False) w).alloc (.cells #[u] 63)
  have keep : ∀ {u' : Value} {l' : List T3}, Ot B w u' l' → Ot B w' u' l' := by
    intro u' l' hz
    have hz1 := hz.only hal (fun _ _ => id)
    refine hz1.only hO (fun g e e' => ?_)
    rcases own_ne hz1 (World.ownsRow.alloc h1 (.cells #[u] 63)) (by decide) with hh | hh
    · rw [e] at hh; cases hh
    · exact hh (by rw [e, e'])
  refine h v' w' ⟨vs ++ [u], ?_, ?_, ?_⟩ ?_
  · rw [List.length_append, List.length_singleton]; exact hown'
  · rw [List.length_append, List.length_append, h2]; rfl
  · intro i y hy
    rw [pg_eq]
    by_cases hil : i < vs.length
    · rw [List.getElem?_append_left hil] at hy
      rw [List.getElem?_append_left (by omega), ← pg_eq]
      exact keep (h3 i y hy)
    · have hi2 : i = vs.length := by
        have := (List.getElem?_eq_some_iff.1 hy).1
        rw [List.length_append, List.length_singleton] at this
        omega
      subst hi2
      rw [List.getElem?_append_right (Nat.le_refl _)] at hy
      simp at hy
      subst hy
      rw [h2, List.getElem?_append_right (Nat.le_refl _)]
      simpa using keep hu
  · exact (hbel.alloc hB _).grown hgrow (by simp; omega) (fun k hk => (World.ownsRow.lt h1 k hk).1)
theorem OP.opened {B : Nat} {w : World} {v : Value} {ll : List (List T3)} (h : OP B w v ll) (hl : 1 ≤ ll.length) : ∃ g cap, v = .slice (some ⟨g, 0, none⟩) ll.length cap ∧ ll.length ≤ cap ∧ cap ≤ 9223372036854775807 := by
  obtain ⟨vs, h1, h2, h3⟩ := h
  rcases h1.2 with ⟨rfl, h0⟩ | ⟨g, cap, cur, rfl, hb, hg, hn, hm, hs, ht⟩
  · omega
  · exact ⟨g, cap, rfl, hn, by unfold maxLen at hm; omega⟩
theorem OP.at {B g n cap : Nat} {w : World} {ll : List (List T3)} (h : OP B w (.slice (some ⟨g, 0, none⟩) n cap) ll) {i : Nat} (hi : i < ll.length) : ∃ u, w.cell? ⟨g, i, none⟩ = some u ∧ Ot B w u (pg ll i) := by
  obtain ⟨aa, cc, e, _, _⟩ := OP.shape h
  injection e with _ e2 _
  subst e2
  obtain ⟨vs, h1, h2, h3⟩ := h
  rw [← h2] at h1
  have hi2 : i < vs.length := by omega
  refine ⟨vs[i], ?_, h3 i _ (List.getElem?_eq_getElem hi2)⟩
  have := World.ownsRow.cellAt h1 i (by rw [Nat.mul_one]; omega)
  rw [this, List.getElem?_eq_getElem hi2]
end Go.Proofs.YtcakeenfkdhedaaDoor.Gm
/- (Ad) -/
namespace Go.Proofs.YtcakeenfkdhedaaDoor.Gm
open Go.RowKit
set_option linter.unusedVariables false
/-- the places of two numbers added, round each axis, the first so many of them -/
def adP (ds : List Nat) (i j m : Nat) : List Nat := (List.range ds.length).map fun x => if x < m then (nd (plcs ds j) x + nd (plcs ds i) x) % nd ds x else nd (plcs ds j) x
theorem adP_len (ds : List Nat) (i j m : Nat) : (adP ds i j m).length = ds.length := by simp [adP]
theorem nd_adP (ds : List Nat) (i j m : Nat) {x : Nat} (hx : x < ds.length) : nd (adP ds i j m) x = if x < m then (nd (plcs ds j) x + nd (plcs ds i) x) % nd ds x else nd (plcs ds j) x := by
  rw [nd_eq, adP, List.getElem?_map, List.getElem?_range hx]; rfl
theorem ext_nd {l m : List Nat} (hl : l.length = m.length) (h : ∀ i, i < l.length → nd l i = nd m i) : l = m := by
  apply List.ext_getElem?
  intro i
  by_cases hi : i < l.length
  · have := h i hi
    rw [nd_eq, nd_eq, List.getElem?_eq_getElem hi, List.getElem?_eq_getElem (by omega)] at this
    rw [List.getElem?_eq_getElem hi, List.getElem?_eq_getElem (by omega)]
    exact congrArg some this
  · rw [List.getElem?_eq_none (by omega), List.getElem?_eq_none (by omega)]
theorem adP_zero (ds : List Nat) (i j : Nat) : adP ds i j 0 = plcs ds j :=
  ext_nd (by rw [adP_len, plcs_len]) (fun x hx => by rw [adP_len] at hx; rw [nd_adP _ _ _ _ hx, if_neg (by omega)])
theorem adP_succ (ds : List Nat) (i j : Nat) {m : Nat} (hm : m < ds.length) : (adP ds i j m).set m ((nd (plcs ds j) m + nd (plcs ds i) m) % nd ds m) = adP ds i j (m + 1) :=
  ext_nd (by rw [List.length_set, adP_len, adP_len]) (fun x hx => by
    rw [List.length_set, adP_len] at hx
    rw [nd_set _ _ _ _ (by rw [adP_len]; exact hm), nd_adP _ _ _ _ hx, nd_adP _ _ _ _ hx]
    by_cases h : m = x
    · subst h; rw [if_pos rfl, if_pos (by omega)]
    · rw [if_neg h]
      by_cases h2 : x < m
      · rw [if_pos h2, if_pos (by omega)]
      · rw [if_neg h2, if_neg (by omega)])
theorem plcs_cons (d : Nat) (l : List Nat) (k : Nat) : plcs (d :: l) k = k / pr l % d :: plcs l k := by
  refine ext_nd (by simp [plcs]) (fun x hx => ?_)
  rw [plcs_len] at hx
  rw [nd_plcs _ _ _ hx]
  cases x with
  | zero => rw [nd_zero, nd_zero]; rfl
  | succ x =>
    rw [nd_succ, nd_succ, nd_plcs _ _ _ (by simpa using hx)]; rfl
theorem adP_cons (d : Nat) (l : List Nat) (i j : Nat) : adP (d :: l) i j (l.length + 1) = (j / pr l % d + i / pr l % d) % d :: adP l i j l.length := by
  refine ext_nd (by simp [adP]) (fun x hx => ?_)
  rw [adP_len] at hx
  rw [nd_adP _ _ _ _ hx, if_pos (by simpa using hx), plcs_cons, plcs_cons]
  cases x with
  | zero => rw [nd_zero, nd_zero, nd_zero, nd_zero]
  | succ x =>
    have hx2 : x < l.length := by simpa using hx
    rw [nd_succ, nd_succ, nd_succ, nd_succ, nd_adP _ _ _ _ hx2, if_pos hx2]
theorem AD_modn : ∀ (ks : List Nat) (i j : Nat), AD ks (i % pk ks) (j % pk ks) = AD ks i j
  | [], _, _ => rfl
  | k :: ks, i, j => by
    have e : ∀ i, i % pk (k :: ks) % pk ks = i % pk ks := fun i => by rw [pk_cons]; exact Nat.mod_mul_left_mod _ _ _
    have e2 : ∀ i, i % pk (k :: ks) / pk ks = i / pk ks % 2 ^ k := fun i => by rw [pk_cons]; exact Nat.mod_mul_left_div_self _ _ _
    simp only [AD]
    rw [e, e, e2, e2, ← Nat.add_mod]
theorem plc_adP : ∀ (ks : List Nat) (i j : Nat), plc (szs ks) (adP (szs ks) i j (szs ks).length) = AD ks i j
  | [], _, _ => rfl
  | k :: ks, i, j => by
    have h := plc_adP ks i j
    rw [show szs (k :: ks) = 2 ^ k :: szs ks from rfl, List.length_cons, adP_cons]
    show _ * pr (szs ks) + plc (szs ks) _ = _
    rw [h]
    simp only [AD]
    rw [AD_modn, ← Nat.add_mod, Nat.add_comm (j / _)]
    rfl
theorem cell_only {w w' : World} {S : Nat → Prop} {b o : Nat} {v : Value} (h : Only S w w') (hc : w.cell? ⟨b, o, none⟩ = some v) (hb : ¬ S b) : w'.cell? ⟨b, o, none⟩ = some v :=
  (World.cell?_of_block (a := ⟨b, o, none⟩) (h.block b (World.block_lt_of_cell? _ _ hc) hb)).trans hc
theorem cell_below {w w' : World} {b o : Nat} {v : Value} (h : Below w.heap.size w w') (hc : w.cell? ⟨b, o, none⟩ = some v) : w'.cell? ⟨b, o, none⟩ = some v :=
  (h.cell (p := ⟨b, o, none⟩) (World.block_lt_of_cell? _ _ hc)).trans hc
theorem plcs_mod (l : List Nat) (k : Nat) : plcs l (k % pr l) = plcs l k := by
  refine ext_nd (by rw [plcs_len, plcs_len]) (fun x hx => ?_)
  rw [plcs_len] at hx
  rw [nd_plcs _ _ _ hx, nd_plcs _ _ _ hx, ← pr_split l x, pr_drop l x hx]
  show k % (pr (l.take x) * (nd l x * under l x)) / under l x % nd l x = _
  rw [← Nat.mul_assoc, mod_mul_div, Nat.mod_mul_left_mod]
theorem plcs_plc : ∀ (l p : List Nat), p.length = l.length → (∀ i, i < l.length → nd p i < nd l i) → plcs l (plc l p) = p
  | [], [], _, _ => rfl
  | d :: l, x :: p, hp, h => by
    have hp' : p.length = l.length := by simpa using hp
    have h' : ∀ i, i < l.length → nd p i < nd l i := fun i hi => by
      have := h (i + 1) (by simpa using hi)
      rwa [nd_succ, nd_succ] at this
    have h0 := h 0 (by simp)
    rw [nd_zero, nd_zero] at h0
    have hlt := plc_lt hp' h'
    rw [plcs_cons]
    show (x * pr l + plc l p) / pr l % d :: plcs l (x * pr l + plc l p) = _
    rw [blk_div hlt, Nat.mod_eq_of_lt h0, ← plcs_mod l (x * pr l + plc l p), blk_mod hlt, plcs_plc l p hp' h']
theorem adP_lt {ks : List Nat} (i j m : Nat) {x : Nat} (hx : x < (szs ks).length) : nd (adP (szs ks) i j m) x < nd (szs ks) x := by
  have h1 : 1 ≤ nd (szs ks) x := szs_pos _ (nd_mem hx)
  rw [nd_adP _ _ _ _ hx]
  split
  · exact Nat.mod_lt _ h1
  · exact plcs_lt _ _ _ hx h1
theorem nd_AD (ks : List Nat) (i j : Nat) {x : Nat} (hx : x < (szs ks).length) : nd (plcs (szs ks) (AD ks i j)) x = (nd (plcs (szs ks) j) x + nd (plcs (szs ks) i) x) % nd (szs ks) x := by
  rw [← plc_adP, plcs_plc _ _ (adP_len _ _ _ _) (fun x hx => adP_lt i j _ hx), nd_adP _ _ _ _ hx, if_pos hx]
theorem num_eq {ks : List Nat} {i j : Nat} (hi : i < pk ks) (hj : j < pk ks) (h : ∀ x, x < (szs ks).length → nd (plcs (szs ks) i) x = nd (plcs (szs ks) j) x) : i = j := by
  have e : plcs (szs ks) i = plcs (szs ks) j := ext_nd (by rw [plcs_len, plcs_len]) (fun x hx => h x (by rwa [plcs_len] at hx))
  have h1 := plc_plcs (szs ks) i
  rw [e, plc_plcs] at h1
  rw [show pr (szs ks) = pk ks from rfl, Nat.mod_eq_of_lt hi, Nat.mod_eq_of_lt hj] at h1
  exact h1.symm
/-- the places of a list of turns -/
@[irreducible] def byp (ds : List Nat) (bs : List Int) : List Nat := (List.range ds.length).map fun x => (gd bs x % (nd ds x : Int)).toNat
theorem byp_len (ds : List Nat) (bs : List Int) : (byp ds bs).length = ds.length := by unfold byp; simp
theorem nd_byp (ds : List Nat) (bs : List Int) {x : Nat} (hx : x < ds.length) : nd (byp ds bs) x = (gd bs x % (nd ds x : Int)).toNat := by
  unfold byp
  rw [nd_eq, List.getElem?_map, List.getElem?_range hx]; rfl
theorem nd_byp_int {ds : List Nat} (bs : List Int) {x : Nat} (hx : x < ds.length) (h : 1 ≤ nd ds x) : (nd (byp ds bs) x : Int) = gd bs x % (nd ds x : Int) := by
  rw [nd_byp _ _ hx]
  exact Int.toNat_of_nonneg (Int.emod_nonneg _ (by omega))
theorem byp_lt {ds : List Nat} (bs : List Int) {x : Nat} (hx : x < ds.length) (h : 1 ≤ nd ds x) : nd (byp ds bs) x < nd ds x := by
  have h1 := nd_byp_int bs hx h
  have h2 := Int.emod_lt_of_pos (gd bs x) (show (0 : Int) < nd ds x by omega)
  omega
/-- .. and its number -/
@[irreducible] def BI (ks : List Nat) (bs : List Int) : Nat := plc (szs ks) (byp (szs ks) bs)
theorem BI_lt (ks : List Nat) (bs : List Int) : BI ks bs < pk ks := by
  unfold BI
  exact plc_lt (byp_len _ _) (fun x hx => byp_lt bs hx (szs_pos _ (nd_mem hx)))
theorem nd_BI (ks : List Nat) (bs : List Int) {x : Nat} (hx : x < (szs ks).length) : nd (plcs (szs ks) (BI ks bs)) x = nd (byp (szs ks) bs) x := by
  unfold BI
  rw [plcs_plc _ _ (byp_len _ _) (fun x hx => byp_lt bs hx (szs_pos _ (nd_mem hx)))]
/-- the places of k turned, the first so many of them -/
theorem nd_adP_by (ks : List Nat) (bs : List Int) (k m : Nat) {x : Nat} (hx : x < (szs ks).length) : nd (adP (szs ks) (BI ks bs) k m) x = if x < m then (nd (plcs (szs ks) k) x + nd (byp (szs ks) bs) x) % nd (szs ks) x else nd (plcs (szs ks) k) x := by
  rw [nd_adP _ _ _ _ hx, nd_BI _ _ hx]
theorem turn_mod {p d : Nat} {b c : Int} (hp : p < d) (hs : (b + c) % (d : Int) = 0) : ((p + (b % (d : Int)).toNat) % d + (c % (d : Int)).toNat) % d = p := by
  have hd : (0 : Int) < d := by omega
  have h1 : (((b % (d : Int)).toNat : Nat) : Int) = b % (d : Int) := Int.toNat_of_nonneg (Int.emod_nonneg _ (by omega))
  have h2 : (((c % (d : Int)).toNat : Nat) : Int) = c % (d : Int) := Int.toNat_of_nonneg (Int.emod_nonneg _ (by omega))
  have h3 : (((p + (b % (d : Int)).toNat) % d + (c % (d : Int)).toNat : Nat) % d : Int) = p := by
    rw [Int.natCast_add, Int.natCast_emod, Int.natCast_add, h1, h2]
    rw [Int.emod_add_emod, Int.add_emod_emod, Int.add_assoc, Int.add_comm (b % _), ← Int.add_assoc, Int.add_emod_emod, Int.add_assoc, Int.add_comm c b, Int.add_emod, hs, Int.add_zero, Int.emod_emod_of_dvd _ (Int.dvd_refl _)]
    exact Int.emod_eq_of_lt (by omega) (by omega)
  have h4 : ((((p + (b % (d : Int)).toNat) % d + (c % (d : Int)).toNat) % d : Nat) : Int) = p := by rw [Int.natCast_emod]; exact h3
  omega
theorem AD_by (ks : List Nat) (bs cs : List Int) {k : Nat} (hk : k < pk ks) (h : ∀ x, x < (szs ks).length → (gd bs x + gd cs x) % (nd (szs ks) x : Int) = 0) : AD ks (BI ks cs) (AD ks (BI ks bs) k) = k := by
  refine num_eq (AD_lt _ _ _) hk (fun x hx => ?_)
  have h1 : 1 ≤ nd (szs ks) x := szs_pos _ (nd_mem hx)
  rw [nd_AD _ _ _ hx, nd_AD _ _ _ hx, nd_BI _ _ hx, nd_BI _ _ hx, nd_byp _ _ hx, nd_byp _ _ hx]
  exact turn_mod (plcs_lt _ _ _ hx h1) (h x hx)
theorem BI_congr (ks : List Nat) {bs cs : List Int} (h : ∀ x, x < (szs ks).length → gd bs x % (nd (szs ks) x : Int) = gd cs x % (nd (szs ks) x : Int)) : BI ks bs = BI ks cs := by
  refine num_eq (BI_lt _ _) (BI_lt _ _) (fun x hx => ?_)
  rw [nd_BI _ _ hx, nd_BI _ _ hx, nd_byp _ _ hx, nd_byp _ _ hx, h x hx]
/-- the other way round -/
@[irreducible] def ngB (bs : List Int) : List Int := bs.map (fun z => -z)
theorem gd_ngB (bs : List Int) (x : Nat) : gd (ngB bs) x = - gd bs x := by
  unfold ngB
  rw [gd_eq, gd_eq, List.getElem?_map]
  cases bs[x]? with
  | none => rfl
  | some z => rfl
theorem AD_there (ks : List Nat) (bs : List Int) {k : Nat} (hk : k < pk ks) : AD ks (BI ks (ngB bs)) (AD ks (BI ks bs) k) = k :=
  AD_by ks _ _ hk (fun x _ => by rw [gd_ngB, Int.add_right_neg]; simp)
theorem AD_back (ks : List Nat) (bs : List Int) {k : Nat} (hk : k < pk ks) : AD ks (BI ks bs) (AD ks (BI ks (ngB bs)) k) = k :=
  AD_by ks _ _ hk (fun x _ => by rw [gd_ngB, Int.add_left_neg]; simp)
/-- a list turned, its first m numbers -/
@[irreducible] def shL (ks : List Nat) (bs : List Int) (l : List F) (m : Nat) : List F := (List.range (pk ks)).map fun j => if AD ks (BI ks (ngB bs)) j < m then cf l (AD ks (BI ks (ngB bs)) j) else 0
theorem shL_len (ks : List Nat) (bs : List Int) (l : List F) (m : Nat) : (shL ks bs l m).length = pk ks := by unfold shL; simp
theorem cf_shL (ks : List Nat) (bs : List Int) (l : List F) (m : Nat) {p : Nat} (hp : p < pk ks) : cf (shL ks bs l m) p = if AD ks (BI ks (ngB bs)) p < m then cf l (AD ks (BI ks (ngB bs)) p) else 0 := by
  unfold shL; exact cf_ofFn _ hp
theorem shL_zero (ks : List Nat) (bs : List Int) (l : List F) : shL ks bs l 0 = List.replicate (pk ks) 0 := by
  refine ext_cf (by rw [shL_len, List.length_replicate]) (fun p hp => ?_)
  rw [shL_len] at hp
  rw [cf_shL _ _ _ _ hp, cf_replicate, if_neg (by omega)]
theorem shL_step (ks : List Nat) (bs : List Int) (l : List F) {m : Nat} (hm : m < pk ks) : (shL ks bs l m).set (AD ks (BI ks bs) m) (cf l m) = shL ks bs l (m + 1) := by
  have hq := AD_lt ks (BI ks bs) m
  refine ext_cf (by rw [List.length_set, shL_len, shL_len]) (fun p hp => ?_)
  rw [List.length_set, shL_len] at hp
  rw [cf_set _ _ _ _ (by rw [shL_len]; exact hq), cf_shL _ _ _ _ hp, cf_shL _ _ _ _ hp]
  by_cases h : AD ks (BI ks bs) m = p
  · have h2 := AD_there ks bs hm
    rw [h] at h2
    rw [if_pos h, h2, if_pos (by omega)]
  · have h2 : AD ks (BI ks (ngB bs)) p ≠ m := fun e => h (by rw [← e]; exact AD_back ks bs hp)
    rw [if_neg h]
    by_cases h3 : AD ks (BI ks (ngB bs)) p < m
    · rw [if_pos h3, if_pos (by omega)]
    · rw [if_neg h3, if_neg (by omega)]
theorem cf_shL_full (ks : List Nat) (bs : List Int) (l : List F) {p : Nat} (hp : p < pk ks) : cf (shL ks bs l (pk ks)) p = cf l (AD ks (BI ks (ngB bs)) p) := by
  rw [cf_shL _ _ _ _ hp, if_pos (AD_lt _ _ _)]
theorem shL_take (ks : List Nat) (bs : List Int) (l : List F) {m : Nat} (hm : m < pk ks) : (shL ks bs l (pk ks)).take (m + 1) = (shL ks bs l (pk ks)).take m ++ [cf l (AD ks (BI ks (ngB bs)) m)] := by
  rw [List.take_succ_eq_append_getElem (by rw [shL_len]; exact hm), ← cf_lt (by rw [shL_len]; exact hm), cf_shL_full _ _ _ hm]
end Go.Proofs.YtcakeenfkdhedaaDoor.Gm
/- (Cw) -/
namespace Go.Proofs.YtcakeenfkdhedaaDoor.Gm
open Go.RowKit
set_option linter.unusedVariables false
theorem sort_none (cap : Nat) (a : Option Addr) (fv : Value) (w : World) :
    Calls Tryd.prog 69 #[.slice a 0 cap, fv] w fun e w' => e = .returned (.tuple #[]) ∧ w = w' := by
  have HP := Lib.hid (fun lim w => show Calls Tryd.prog 87 #[.slice a 0 cap, .int .i64 0, .int .i64 0, .int .i64 lim, fv] w _ from AnyF.pdqsortCmpFunc_none Tryd.pdqT a cap lim fv w)
  have HL := Lib.hid (fun w => show Calls Tryd.prog 88 #[.int .u64 0] w _ from Any.bits_Len (Go.Proofs.SlLaysF0.n15.bits Tryd.lenT) 0 w (by omega) (by omega))
  go_enter Tryd.func69, Tryd.ntmps69
  go_wp2_with fail
  refine (HL.out _).mono ?_
  rintro e w' ⟨rfl, rfl⟩
  go_wp2_with fail
  refine (HP.out _ _).mono ?_
  rintro e w' ⟨rfl, rfl⟩
  go_wp2
  go_end0
  exact ⟨rfl, rfl⟩
/-- a slice of tasks sorted, whatever it lies on -/
theorem sort_any (B : Nat) (v : Value) (l : List T3) (w : World) (h : Ot B w v l) (hB : B ≤ w.heap.size) (hl : l.length ≤ 5864062014634) :
    Calls Tryd.prog 69 #[v, .func (Fn.func 70) #[] #[]] w fun e w' => e = .returned (.tuple #[]) ∧ ∃ r : List T3, r.Perm l ∧ r.Pairwise (fun s t => s.2.1 ≤ t.2.1) ∧ Rk w' v r ∧ RowKit.Below B w w' := by
  rcases h.2 with ⟨rfl, h0⟩ | ⟨g, cap, cur, rfl, rest⟩
  · have e : l = [] := List.length_eq_zero_iff.1 h0
    subst e
    exact (sort_none 0 none _ w).mono fun e w' ⟨h1, h2⟩ => ⟨h1, [], List.Perm.refl _, List.Pairwise.nil, by rw [← h2]; exact Rk.nil _, by rw [← h2]; exact RowKit.Below.refl _ _⟩
  · exact sort_own B g _ cap l w h hB hl
def CovRel (w1 : World) (ax lines : Int) (r : List T3) (at0 i : Value) (wr : World) : Prop :=
  ∃ (m : Nat) (a : Int), m ≤ r.length ∧ i = .int .i64 m ∧ at0 = .int .i64 a ∧ chk ax lines 0 r = chk ax lines a (r.drop m) ∧ RowKit.Below w1.heap.size w1 wr
theorem chk_drop (ax lines a : Int) (r : List T3) {m : Nat} (hm : m < r.length) : chk ax lines a (r.drop m) = (decide ((tg r m).1 = ax) && decide ((tg r m).2.1 = a) && decide (a < (tg r m).2.2) && decide ((tg r m).2.2 ≤ lines) && chk ax lines (tg r m).2.2 (r.drop (m + 1))) := by
  rw [List.drop_eq_getElem_cons hm, ← tg_lt hm]
  rfl
set_option maxHeartbeats 4000000 in
set_option maxRecDepth 100000 in
theorem covers_any (ax lines : Int) (l : List T3) (v : Value) (w : World) (h : Rk w v l) (hnn : ∀ c, v = .slice none l.length c → l.length = 0) (hl : l.length ≤ 5864062014634) (h0 : 0 ≤ lines) :
    Calls Tryd.prog 49 #[v, .int .i64 ax, .int .i64 lines] w fun e w' => (e = .returned (.bool false) ∧ ¬ RP ax lines l ∧ RowKit.Below w.heap.size w w') ∨ (e = .returned (.bool true) ∧ RP ax lines l ∧ RowKit.Below w.heap.size w w') := by
  have CC := Lib.hid (cloneP_any l v w h hnn hl)
  clear h hnn
  go_enter Tryd.func49, Tryd.ntmps49
  go_wp2_with fail
  refine CC.out.mono ?_
  rintro e w1 ⟨v1, rfl, hown, hb1⟩
  have CS := Lib.hid (sort_any w.heap.size v1 l w1 hown hb1.size (by omega))
  have B1 := Lib.hid hb1
  have hs1 := hb1.size
  clear hown hb1
  go_wp2_with fail
  refine CS.out.mono ?_
  rintro e w2 ⟨rfl, r, hp, hsr, hrk, hb2⟩
  have HI := Lib.hid (show chk ax lines 0 r = true ↔ RP ax lines l from chk_iff h0 hp hsr)
  have B2 := Lib.hid (B1.out.trans hb2)
  have hs2 := B2.out.size
  have hrl : r.length ≤ 5864062014634 := by rw [hp.length_eq]; exact hl
  obtain ⟨a, cap, b, off, rfl, hcap, hm, hx, hc⟩ := hrk
  have HC := Lib.hid hc
  clear hp hsr hb2 CC CS B1 hc
  go_wp2
  go_loopw [7, 9, 16] (fun at0 _ i wr => CovRel w2 ax lines r at0 i wr) (fun _ _ i _ => r.length - (intOf i).toNat)
  case atStart => exact ⟨0, 0, by omega, rfl, rfl, rfl, RowKit.Below.refl _ _⟩
  case round =>
    obtain ⟨m, at1, hm1, rfl, rfl, hchk, hbel⟩ := hrel
    have HK := Lib.hid hchk
    have HB := Lib.hid hbel
    clear hchk hbel
    by_cases hml : m < r.length
    · obtain rfl := hx.resolve_left (by omega)
      obtain ⟨c0, c1, c2⟩ := HC.out m hml
      have c0 : wr.cell? ⟨b, off + m * 3, none⟩ = some (.int .i64 (tg r m).1) := cell_below HB.out c0
      have c1 : wr.cell? ⟨b, off + m * 3 + 1, none⟩ = some (.int .i64 (tg r m).2.1) := cell_below HB.out c1
      have c2 : wr.cell? ⟨b, off + m * 3 + 2, none⟩ = some (.int .i64 (tg r m).2.2) := cell_below HB.out c2
      have HD := Lib.hid (chk_drop ax lines at1 r hml)
      generalize (tg r m).1 = x0 at *
      generalize (tg r m).2.1 = x1 at *
      generalize (tg r m).2.2 = x2 at *
      by_cases a1 : x0 = ax
      · by_cases a2 : x1 = at1
        · by_cases a3 : at1 < x2
          · by_cases a4 : x2 ≤ lines
            · have HK2 := Lib.hid (show chk ax lines 0 r = chk ax lines x2 (r.drop (m + 1)) by rw [HK.out, HD.out]; simp [a1, a2, a3, a4])
              clear HK HD
              subst a1
              subst a2
              go_wp2
              go_roundw
              case rel => exact ⟨m + 1, x2, by omega, by go_num, rfl, HK2.out, HB.out.alloc HB.out.size _⟩
              case measure => simp [intOf] <;> omega
            · have HNR := Lib.hid (show ¬ RP ax lines l from fun h => by
                have h2 := HI.out.2 h
                rw [HK.out, HD.out] at h2
                simp only [Bool.and_eq_true, decide_eq_true_eq] at h2
                exact a4 h2.1.2)
              clear HI HK HD HC
              subst a1
              subst a2
              go_wp2
              go_ret
              exact .inl ⟨rfl, HNR.out, B2.out.trans ((HB.out.alloc HB.out.size _).mono hs2)⟩
          · have HNR := Lib.hid (show ¬ RP ax lines l from fun h => by
              have h2 := HI.out.2 h
              rw [HK.out, HD.out] at h2
              simp only [Bool.and_eq_true, decide_eq_true_eq] at h2
              exact a3 h2.1.1.2)
            clear HI HK HD HC
            subst a1
            subst a2
            have a5 : x2 ≤ x1 := by omega
            go_wp2
            go_ret
            exact .inl ⟨rfl, HNR.out, B2.out.trans ((HB.out.alloc HB.out.size _).mono hs2)⟩
        · have HNR := Lib.hid (show ¬ RP ax lines l from fun h => by
            have h2 := HI.out.2 h
            rw [HK.out, HD.out] at h2
            simp only [Bool.and_eq_true, decide_eq_true_eq] at h2
            exact a2 h2.1.1.1.2)
          clear HI HK HD HC
          subst a1
          go_wp2
          go_ret
          exact .inl ⟨rfl, HNR.out, B2.out.trans ((HB.out.alloc HB.out.size _).mono hs2)⟩
      · have HNR := Lib.hid (show ¬ RP ax lines l from fun h => by
          have h2 := HI.out.2 h
          rw [HK.out, HD.out] at h2
          simp only [Bool.and_eq_true, decide_eq_true_eq] at h2
          exact a1 h2.1.1.1.1)
        clear HI HK HD HC
        go_wp2
        go_ret
        exact .inl ⟨rfl, HNR.out, B2.out.trans ((HB.out.alloc HB.out.size _).mono hs2)⟩
    · obtain rfl : r.length = m := by omega
      have HK2 := Lib.hid (show chk ax lines 0 r = decide (at1 = lines) by rw [HK.out, List.drop_length]; rfl)
      have HB3 := Lib.hid (B2.out.trans (HB.out.mono hs2))
      by_cases a1 : at1 = lines
      · have HR := Lib.hid (show RP ax lines l from HI.out.1 (by rw [HK2.out]; simpa using a1))
        clear HK HK2 HI
        subst a1
        go_wp2
        go_ret
        exact .inr ⟨by simp, HR.out, HB3.out⟩
      · have HR := Lib.hid (show ¬ RP ax lines l from fun h => by
          have h2 := HI.out.2 h
          rw [HK2.out] at h2
          exact a1 (of_decide_eq_true h2))
        have a2 : (at1 == lines) = false := by simpa using a1
        clear HK HK2 HI
        go_wp2
        go_ret
        exact .inl ⟨by simp, HR.out, HB3.out⟩
end Go.Proofs.YtcakeenfkdhedaaDoor.Gm
/- (Pck) -/
namespace Go.Proofs.YtcakeenfkdhedaaDoor.Gm
open Go.RowKit
set_option linter.unusedVariables false
/-- a slice of phases reads as a list of lists of tasks -/
def RPs (w : World) (v : Value) (ll : List (List T3)) : Prop :=
  ∃ a cap b off, v = .slice a ll.length cap ∧ ll.length ≤ cap ∧ cap ≤ 9223372036854775807 ∧ (ll.length ≤ 0 ∨ a = some ⟨b, off, none⟩) ∧
    ∀ i, i < ll.length → ∃ u, w.cell? ⟨b, off + i, none⟩ = some u ∧ Rk w u (pg ll i) ∧ (∀ c, u = .slice none (pg ll i).length c → (pg ll i).length = 0)
theorem RPs.below {w w' : World} {v : Value} {ll : List (List T3)} (h : RPs w v ll) (hb : Below w.heap.size w w') : RPs w' v ll := by
  obtain ⟨a, cap, b, off, e, h1, h2, h3, hx⟩ := h
  refine ⟨a, cap, b, off, e, h1, h2, h3, fun i hi => ?_⟩
  obtain ⟨u, hc, hr, hn⟩ := hx i hi
  exact ⟨u, (hb.cell (p := ⟨b, off + i, none⟩) (World.block_lt_of_cell? w _ hc)).trans hc, hr.below hb, hn⟩
theorem RPs.shape {w : World} {v : Value} {ll : List (List T3)} (h : RPs w v ll) : ∃ a cap, v = .slice a ll.length cap ∧ ll.length ≤ cap ∧ cap ≤ 9223372036854775807 := by
  obtain ⟨a, cap, b, off, e, h1, h2, h3, hx⟩ := h
  exact ⟨a, cap, e, h1, h2⟩
theorem OP.rps {B : Nat} {w : World} {v : Value} {ll : List (List T3)} (h : OP B w v ll) : RPs w v ll := by
  obtain ⟨vs, h1, h2, h3⟩ := h
  have h1' := h1
  rcases h1.2 with ⟨rfl, h0⟩ | ⟨g, cap, cur, rfl, hb, hg, hn, hm, hs, ht⟩
  · exact ⟨none, 0, 0, 0, by rw [h0], by omega, by omega, .inl (by omega), fun i hi => absurd hi (by omega)⟩
  · refine ⟨some ⟨g, 0, none⟩, cap, g, 0, rfl, by simpa using hn, by unfold maxLen at hm; omega, .inr rfl, fun i hi => ?_⟩
    have hi2 : i < vs.length := by omega
    have ho := h3 i _ (List.getElem?_eq_getElem hi2)
    refine ⟨vs[i], ?_, ho.rk, fun c e => ?_⟩
    · have := World.ownsRow.cellAt h1' i (by omega)
      rw [Nat.zero_add, this, List.getElem?_eq_getElem hi2]
    · rcases ho.2 with ⟨_, h0⟩ | ⟨g', cap', cur', e', _⟩
      · exact h0
      · rw [e'] at e; cases e
set_option maxHeartbeats 2000000 in
theorem indexp_any (ll : List (List T3)) (v : Value) (w : World) (h : RPs w v ll) (hl : ∀ i, i < ll.length → (pg ll i).length ≤ 5864062014634) :
    Calls Tryd.prog 72 #[v, .func (Fn.func 51) #[] #[]] w
      fun e w' => (((∀ i, i < ll.length → (pg ll i).length ≤ 64) ∧ e = .returned (.int .i64 (-1))) ∨ ((∃ i, i < ll.length ∧ 64 < (pg ll i).length) ∧ ∃ k : Nat, e = .returned (.int .i64 k))) ∧ w = w' := by
  obtain ⟨a, cap, b, off, rfl, hcap, hm, hx, hc⟩ := h
  have HC := Lib.hid hc
  have HL := Lib.hid hl
  obtain ⟨N, hN⟩ : ∃ N, N = ll.length := ⟨_, rfl⟩
  rw [← hN] at hcap hx HC HL ⊢
  clear hc hl hN
  go_enter Tryd.func72, Tryd.ntmps72
  go_wp2
  go_loop [5, 8] (fun _ i => ∃ k : Nat, k ≤ N ∧ i = .int .i64 k ∧ ∀ j, j < k → (pg ll j).length ≤ 64) (fun _ i => N - (intOf i).toNat)
  case atStart => exact ⟨0, by omega, rfl, fun j hj => absurd hj (by omega)⟩
  case round =>
    obtain ⟨k, hk, rfl, hp⟩ := hrel
    have HP := Lib.hid hp
    clear hp
    by_cases hkl : k < N
    · obtain rfl := hx.resolve_left (by omega)
      obtain ⟨u, hcell, hr, _⟩ := HC.out k hkl
      obtain ⟨ua, uc, rfl, hu1, hu2⟩ := hr.shape
      have hlk := HL.out k hkl
      have HT := Lib.hid (show (pg ll k).length ≤ 64 → ∀ j, j < k + 1 → (pg ll j).length ≤ 64 from fun h j hj => by
        by_cases e : j = k
        · rw [e]; exact h
        · exact HP.out j (by omega))
      have HX := Lib.hid (show 64 < (pg ll k).length → ∃ i, i < N ∧ 64 < (pg ll i).length from fun h => ⟨k, hkl, h⟩)
      clear hr
      generalize (pg ll k).length = d at *
      by_cases hd : d ≤ 64
      · have HT2 := Lib.hid (HT.out hd)
        clear HT HX
        have hd2 : ¬ (64 : Int) < (d : Int) := by omega
        have hd3 : ¬ 64 < d := by omega
        go_wp2
        go_round
        case rel => exact ⟨k + 1, by omega, by go_num, HT2.out⟩
        case measure => simp [intOf]; omega
      · have HX2 := Lib.hid (HX.out (by omega))
        clear HT HX
        have hd2 : (64 : Int) < (d : Int) := by omega
        have hd3 : 64 < d := by omega
        go_wp2
        go_ret
        exact ⟨.inr ⟨HX2.out, k, rfl⟩, rfl⟩
    · obtain rfl : N = k := by omega
      go_wp2
      go_ret
      exact ⟨.inl ⟨HP.out, rfl⟩, rfl⟩
theorem containsp_any (ll : List (List T3)) (v : Value) (w : World) (h : RPs w v ll) (hl : ∀ i, i < ll.length → (pg ll i).length ≤ 5864062014634) :
    Calls Tryd.prog 50 #[v, .func (Fn.func 51) #[] #[]] w
      fun e w' => (((∀ i, i < ll.length → (pg ll i).length ≤ 64) ∧ e = .returned (.bool false)) ∨ ((∃ i, i < ll.length ∧ 64 < (pg ll i).length) ∧ e = .returned (.bool true))) ∧ w = w' := by
  have HI := Lib.hid (indexp_any ll v w h hl)
  clear h hl
  go_enter Tryd.func50, Tryd.ntmps50
  go_wp2_with fail
  refine HI.out.mono ?_
  rintro e w' ⟨hr, rfl⟩
  rcases hr with ⟨hp, rfl⟩ | ⟨hp, k, rfl⟩
  · have PP := Lib.hid hp
    clear hp
    go_wp2
    go_ret
    exact ⟨.inl ⟨PP.out, rfl⟩, rfl⟩
  · have PP := Lib.hid hp
    clear hp
    go_wp2
    go_ret
    exact ⟨.inr ⟨PP.out, by simp⟩, rfl⟩
/-- what Check tells of right shapes -/
def ChkN (ds : List Nat) (ll : List (List T3)) (n : Int) : Prop :=
  (n = 5 ∧ (ll.length ≠ ds.length ∨ ∃ x, x < ds.length ∧ ¬ RP x (lnX ds x) (pg ll x))) ∨
  (ll.length = ds.length ∧ (∀ x, x < ds.length → RP x (lnX ds x) (pg ll x)) ∧ ((n = 2 ∧ ∃ i, i < ll.length ∧ 64 < (pg ll i).length) ∨ (n = 0 ∧ ∀ i, i < ll.length → (pg ll i).length ≤ 64)))
theorem pcheck_bad (zs : List Int) (v v2 : Value) (w : World) (n : Int) (h : Rd .i64 w v zs) (hw : W64 zs) (hn : n = 1 ∧ Bad zs ∨ n = 2 ∧ Big zs) :
    Calls Tryd.prog 12 #[v, v2] w fun e w' => e = .returned (.int .i64 n) ∧ w = w' := by
  have HR := Lib.hid h
  have HN := Lib.hid hn
  have hn0 : (n == 0) = false := by rcases hn with ⟨rfl, _⟩ | ⟨rfl, _⟩ <;> rfl
  clear h hn
  go_enter Tryd.func12, Tryd.ntmps12
  go_wp2_with fail
  refine (mcheck_any _ _ _ HR.out hw).mono ?_
  rintro e w' ⟨he, rfl⟩
  have he : e = .returned (.tuple #[.int .i64 0, .int .i64 n]) := by
    rcases HN.out with ⟨rfl, hb⟩ | ⟨rfl, hb⟩
    · exact he.bad hb
    · exact he.big hb
  subst he
  go_wp2
  go_ret
  exact ⟨rfl, rfl⟩
def PckRel (w : World) (ds : List Nat) (ll : List (List T3)) (N : Nat) (i : Value) (wr : World) : Prop :=
  ∃ m : Nat, m ≤ N ∧ i = .int .i64 m ∧ (∀ x, x < m → RP x (lnX ds x) (pg ll x)) ∧ Below w.heap.size w wr
set_option maxHeartbeats 4000000 in
set_option maxRecDepth 100000 in
theorem pcheck_any (ds : List Nat) (ll : List (List T3)) (v v2 : Value) (w : World) (h : Rd .i64 w v (zi ds)) (h2 : RPs w v2 ll) (hw : W64 (zi ds)) (hs : Shp ds) (hl : ∀ i, i < ll.length → (pg ll i).length ≤ 5864062014634) :
    Calls Tryd.prog 12 #[v, v2] w fun e w' => ∃ n, e = .returned (.int .i64 n) ∧ ChkN ds ll n ∧ Below w.heap.size w w' := by
  have HR := Lib.hid h
  have HS := Lib.hid hs
  have HL := Lib.hid hl
  have hN3 := hs.len3
  have hN1 := hs.len0
  have hn2 := hs.le
  have X2 := Lib.hid h2
  obtain ⟨a, cap, b, off, rfl, hcap, hm, hx, hcx⟩ := h.opened
  have LZ := Lib.hid (zi_len ds)
  rw [LZ.out] at hcap hx hcx HR ⊢
  obtain rfl := hx.resolve_left (by omega)
  have SC := Lib.hid (show ∀ x, x < ds.length → w.cell? ⟨b, off + x, none⟩ = some (.int .i64 (nd ds x : Int)) from fun x hx => by rw [hcx x hx, gd_zi])
  have DD := Lib.hid (show ∀ x, x < ds.length → 1 ≤ nd ds x ∧ nd ds x ≤ 1024 from fun x hx => ⟨hs.nd1 hx, hs.ndle hx⟩)
  have LNE := Lib.hid (fun x => show pr ds / nd ds x = lnX ds x from rfl)
  have LNL := Lib.hid (fun x => lnX_le hs x)
  obtain ⟨pa, pc, pb, po, rfl, hpc, hpm, hpx, hpcell⟩ := h2
  have PCL := Lib.hid hpcell
  obtain ⟨N, hN⟩ : ∃ N, N = ds.length := ⟨_, rfl⟩
  have HNN := Lib.hid hN
  rw [← hN] at hN1 hN3 hcap HR SC DD ⊢
  obtain ⟨K, hK⟩ : ∃ K, K = ll.length := ⟨_, rfl⟩
  have HKK := Lib.hid hK
  rw [← hK] at hpc hpx PCL HL X2 ⊢
  obtain ⟨n, hn⟩ : ∃ n, n = pr ds := ⟨_, rfl⟩
  have HPR := Lib.hid hn
  rw [← hn] at hn2 LNE
  clear h hs hcx hx hN hK hn LZ hl hpcell
  go_enter Tryd.func12, Tryd.ntmps12
  go_wp2_with fail
  refine (mcheck_any _ _ _ HR.out hw).mono ?_
  rintro e w' ⟨he, rfl⟩
  obtain rfl := he.ok HS.out
  rw [← HPR.out]
  by_cases hkn : K = N
  · have HKN := Lib.hid hkn
    subst hkn
    go_wp2
    go_loopw [7, 8, 24] (fun _ _ i wr => PckRel w ds ll K i wr) (fun _ _ i _ => K - (intOf i).toNat)
    case atStart => exact ⟨0, by omega, rfl, fun x hx => absurd hx (by omega), Below.refl _ _⟩
    case round =>
      obtain ⟨x, hx1, rfl, hall, hbel⟩ := hrel
      have HA := Lib.hid hall
      have HB := Lib.hid hbel
      have hwsz := hbel.size
      clear hall hbel
      by_cases hxl : x < K
      · obtain rfl := hpx.resolve_left (by omega)
        obtain ⟨u, hcu, hru, hnu⟩ := PCL.out x hxl
        have cu : wr.cell? ⟨pb, po + x, none⟩ = some u := cell_below HB.out hcu
        have RU := Lib.hid (hru.below HB.out)
        obtain ⟨ua, uc, rfl, hu1, hu2⟩ := hru.shape
        have NU := Lib.hid hnu
        have c3 : wr.cell? ⟨b, off + x, none⟩ = some (.int .i64 (nd ds x : Int)) := cell_below HB.out (SC.out x hxl)
        obtain ⟨d1, d2⟩ := DD.out x hxl
        have le := LNE.out x
        have ll2 := LNL.out x
        have hlx := HL.out x hxl
        have CV := Lib.hid (covers_any (x : Int) (lnX ds x : Int) (pg ll x) _ wr RU.out NU.out hlx (by omega))
        have HJ := Lib.hid (show RP x (lnX ds x) (pg ll x) → ∀ y, y < x + 1 → RP y (lnX ds y) (pg ll y) from fun h y hy => by
          by_cases e : y = x
          · rw [e]; exact h
          · exact HA.out y (by omega))
        have HX := Lib.hid (show ¬ RP x (lnX ds x) (pg ll x) → ∃ y, y < K ∧ ¬ RP y (lnX ds y) (pg ll y) from fun h => ⟨x, hxl, h⟩)
        clear hcu hru hnu RU NU
        generalize nd ds x = d at *
        generalize lnX ds x = lines at *
        generalize (pg ll x).length = pl at *
        have hd0 : ¬ d = 0 := by omega
        have e1 := nat_quo n d
        rw [le] at e1
        have e2 : IntKind.i64.wrap (lines : Int) = (lines : Int) := wrap_nat (by omega)
        clear le
        go_wp2_with fail
        refine CV.out.mono ?_
        rintro e w4 (⟨rfl, hR, hb⟩ | ⟨rfl, hR, hb⟩)
        · have HX2 := Lib.hid (HX.out hR)
          have B4 := Lib.hid (HB.out.trans (hb.mono hwsz))
          clear hR hb HX HJ CV
          go_wp2
          go_ret
          exact ⟨5, rfl, .inl ⟨rfl, .inr (by rw [← HNN.out]; exact HX2.out)⟩, B4.out⟩
        · have HJ2 := Lib.hid (HJ.out hR)
          have B4 := Lib.hid (HB.out.trans (hb.mono hwsz))
          clear hR hb HX HJ CV
          go_wp2
          go_roundw
          case rel => exact ⟨x + 1, by omega, by go_num, HJ2.out, B4.out⟩
          case measure => simp [intOf] <;> omega
      · obtain rfl : K = x := by omega
        have CF := Lib.hid (containsp_any ll _ wr (X2.out.below HB.out) (by rw [← HKK.out]; exact HL.out))
        rw [← HKK.out] at CF
        go_wp2_with fail
        refine CF.out.mono ?_
        rintro e w4 ⟨hr, rfl⟩
        rcases hr with ⟨hp, rfl⟩ | ⟨hp, rfl⟩
        · have PP := Lib.hid hp
          clear hp CF
          go_wp2
          go_ret
          exact ⟨0, rfl, .inr ⟨by rw [← HKK.out, ← HNN.out], by rw [← HNN.out]; exact HA.out, .inr ⟨rfl, by rw [← HKK.out]; exact PP.out⟩⟩, HB.out⟩
        · have PP := Lib.hid hp
          clear hp CF
          go_wp2
          go_ret
          exact ⟨2, rfl, .inr ⟨by rw [← HKK.out, ← HNN.out], by rw [← HNN.out]; exact HA.out, .inl ⟨rfl, by rw [← HKK.out]; exact PP.out⟩⟩, HB.out⟩
  · have g1 : decide ((K : Int) = (N : Int)) = false := decide_eq_false (by omega)
    have g2 : ((K : Int) != (N : Int)) = true := by simp; omega
    have HNE := Lib.hid (show ll.length ≠ ds.length by rw [← HKK.out, ← HNN.out]; exact hkn)
    go_wp2
    go_ret
    exact ⟨5, rfl, .inl ⟨rfl, .inl HNE.out⟩, Below.refl _ _⟩
end Go.Proofs.YtcakeenfkdhedaaDoor.Gm
/- (Pr) -/
namespace Go.Proofs.YtcakeenfkdhedaaDoor.Gm
open Go.RowKit
set_option linter.unusedVariables false
/-- a small number's digits -/
@[irreducible] def dB (x : Int) : ByteArray := ⟨(Lib.decDigits x.toNat).toArray⟩
theorem itoa_any (x : Int) (w : World) (h0 : 0 ≤ x) (h1 : x < 100) : Calls Tryd.prog 52 #[.int .i64 x] w fun e w' => e = .returned (.string (dB x)) ∧ w = w' := by
  obtain ⟨n, rfl⟩ : ∃ n : Nat, x = n := ⟨x.toNat, by omega⟩
  have h := Tryd.strconv_Itoa_small n (by omega) w
  unfold dB
  rw [Int.toNat_natCast]
  exact h.mono fun e w' q => ⟨q.1, q.2.symm⟩
theorem dB_size (x : Int) (h0 : 0 ≤ x) (h1 : x < 100) : (dB x).size ≤ 2 := by
  obtain ⟨n, rfl⟩ : ∃ n : Nat, x = n := ⟨x.toNat, by omega⟩
  unfold dB
  rw [Int.toNat_natCast]
  show (Lib.decDigits n).toArray.size ≤ 2
  rw [List.size_toArray, Lib.decDigits]
  split
  · simp
  · rw [Lib.decDigits, dif_pos (by omega)]
    simp
/-- a task's text -/
@[irreducible] def tB (t : T3) : ByteArray := dB t.1 ++ ⟨#[58]⟩ ++ dB t.2.1 ++ ⟨#[45]⟩ ++ dB t.2.2
theorem tB_eq (t : T3) : dB t.1 ++ ⟨#[58]⟩ ++ dB t.2.1 ++ ⟨#[45]⟩ ++ dB t.2.2 = tB t := by unfold tB; rfl
/-- texts, a blank between them -/
@[irreducible] def jB (l : List ByteArray) : ByteArray := ⟨(Lib.join (l.map (·.data.toList)) [32]).toArray⟩
def lB (l : List ByteArray) : Nat := (Lib.join (l.map (·.data.toList)) [32]).length
theorem jB_size (l : List ByteArray) : (jB l).size = lB l := by
  unfold jB lB
  show (Lib.join (List.map (fun x => x.data.toList) l) [32]).toArray.size = _
  rw [List.size_toArray]
theorem info_str : (Tryd.prog.info? 9).map (fun i => (i.zero, i.size, i.bytes)) = some (some (.string ⟨#[]⟩), 1, 16) := by kernel_rfl
/-- a list of texts of the call's own -/
def Ost (B : Nat) (w : World) (v : Value) (l : List ByteArray) : Prop := w.ownsRow B 9 1 v l.length (l.map Value.string)
theorem Ost.nil (B : Nat) (w : World) : Ost B w (.slice none 0 0) [] := World.ownsRow_nil _ _ _ _
theorem Ost.below {B : Nat} {w w' : World} {v : Value} {l : List ByteArray} (h : Ost B w v l) (hb : Below w.heap.size w w') : Ost B w' v l :=
  own_only (S := fun _ => False) h (Only.of_below hb (fun k hk hk' => by omega)) (fun _ _ e => e)
theorem Ost.lt {B : Nat} {w : World} {v : Value} {l : List ByteArray} (h : Ost B w v l) : ∀ g, v.ownBlock = some g → B ≤ g ∧ g < w.heap.size := World.ownsRow.lt h
theorem join_own (B : Nat) (v : Value) (l : List ByteArray) (w : World) (h : Ost B w v l) (hl : l.length ≤ 1000000) (hb : lB l ≤ 140737488355328) :
    Calls Tryd.prog 53 #[v, .string ⟨#[32]⟩] w fun e w' => e = .returned (.string (jB l)) ∧ Below w.heap.size w w' := by
  rcases h.2 with ⟨rfl, h0⟩ | ⟨g, cap, cur, rfl, hbg, hg, hn, hm, hs, ht⟩
  · have e : l = [] := List.length_eq_zero_iff.1 h0
    subst e
    unfold jB
    exact (Tryd.strings_Join_none none 0 ⟨#[32]⟩ w).mono fun e w' q => ⟨q.1, by rw [q.2]; exact Below.refl _ _⟩
  · unfold jB
    have hlt := (Ost.lt h g rfl).2
    refine (Tryd.strings_Join g 0 cap l ⟨#[32]⟩ w (fun j x hj => ?_) hlt (by omega) hn hb).mono fun e w' q => q
    have hjl := (List.getElem?_eq_some_iff.1 hj).1
    rw [Nat.zero_add, World.ownsRow.cellAt h j (by omega), List.getElem?_map, hj]
    rfl
theorem st_app_str {ops : Array Oper} {o : Oper} {a : Act} {K : Act → World → Prop} {Q : Exit → Act → World → Prop} {E : Prop} (w : World) (hgd : o.guard = none) (s x : Operand)
    (ho : o.op = .call { callee := .builtin .append, args := #[s, x], argTypes := #[86, 86] })
    (B : Nat) (v : Value) (l : List ByteArray) (y : ByteArray) (W : World) (g0 : Nat) (hs : a.eval s = v) (hx : a.eval x = .slice (some ⟨g0, 0, none⟩) 1 1)
    (hown : Ost B w v l) (hnew : w.heap[g0]? = some (.cells #[.string y] 9)) (hbel : Below B W w) (hB : B ≤ w.heap.size) (hl : l.length ≤ 1000000)
    (h : ∀ v' w', Ost B w' v' (l ++ [y]) → Below B W w' → w.grownBy w' v.ownBlock → K (a.put o.dst v') w') :
    if Region.wanted o (yielded ops a.tmps) = true then Oper.wp Tryd.prog o a w K Q else E := by
  obtain ⟨i0, hi, hz0, hz1, hz2⟩ := info_parts info_str
  refine step_append_lies w hgd s x 86 ho B 9 i0 (.string ⟨#[]⟩) 1 16 Tryd.underlying86 hi hz0 hz1 hz2 rfl (by decide) v l.length (l.map Value.string) hs hown ⟨g0, 0, none⟩ 1 1 [.string y] hx rfl (World.news_of_block (cs := #[.string y]) hnew) (by intro u hu; simp at hu; subst hu; rfl) (by omega) (by unfold maxLen; omega) (by omega) hB w.heap.size rfl ?_
  intro g cap w' h1 h2 h3 h4
  refine h _ w' ?_ ?_ h2
  · unfold Ost
    rw [List.map_append, List.length_append, List.length_singleton]
    exact h1
  · exact hbel.grown h2 hB (fun k hk => (World.ownsRow.lt hown k hk).1)
/-- the text of the first m phases -/
def pBR (ll : List (List T3)) : Nat → ByteArray
  | 0 => ⟨#[]⟩
  | m + 1 => pBR ll m ++ (jB ((pg ll m).map tB) ++ ⟨#[10]⟩)
@[irreducible] def pB (ll : List (List T3)) (m : Nat) : ByteArray := pBR ll m
theorem pB_zero (ll : List (List T3)) : pB ll 0 = ⟨#[]⟩ := by unfold pB; rfl
theorem pB_succ (ll : List (List T3)) (m : Nat) : pB ll (m + 1) = pB ll m ++ (jB ((pg ll m).map tB) ++ ⟨#[10]⟩) := by unfold pB; rfl
def PrA (w : World) (ll : List (List T3)) (out i : Value) (wr : World) : Prop := ∃ m : Nat, m ≤ ll.length ∧ i = .int .i64 m ∧ out = .string (pB ll m) ∧ Below w.heap.size w wr
def PrB (wo : World) (l : List T3) (ws i : Value) (wr : World) : Prop := ∃ j : Nat, j ≤ l.length ∧ i = .int .i64 j ∧ Ost wo.heap.size wr ws ((l.take j).map tB) ∧ Below wo.heap.size wo wr
theorem hq2 (w : World) (o p : Obj) : ((w.alloc o).alloc p).heap[w.heap.size + 1]? = some p := by
  have h := heap_alloc_new (w.alloc o) p
  rwa [show (w.alloc o).heap.size = w.heap.size + 1 by simp] at h
theorem hq2' (w : World) (o p : Obj) : ((w.alloc o).alloc p).heap[w.heap.size]? = some o := by
  rw [Below.heap_alloc _ _ _ (by simp)]; exact heap_alloc_new w o
theorem take_snoc_T (l : List T3) {j : Nat} (h : j < l.length) : (l.take (j + 1)).map tB = (l.take j).map tB ++ [tB (tg l j)] := by
  rw [List.take_succ_eq_append_getElem h, List.map_append, tg_lt h]; rfl
set_option maxHeartbeats 4000000 in
set_option maxRecDepth 100000 in
theorem print_small (ll : List (List T3)) (v : Value) (w : World) (h : RPs w v ll) (hs : ∀ i, i < ll.length → ∀ j, j < (pg ll i).length → (0 ≤ (tg (pg ll i) j).1 ∧ (tg (pg ll i) j).1 < 100) ∧ (0 ≤ (tg (pg ll i) j).2.1 ∧ (tg (pg ll i) j).2.1 < 100) ∧ (0 ≤ (tg (pg ll i) j).2.2 ∧ (tg (pg ll i) j).2.2 < 100))
    (hl : ∀ i, i < ll.length → (pg ll i).length ≤ 1000000 ∧ lB ((pg ll i).map tB) ≤ 140737488355328) (hz : ∀ m, m ≤ ll.length → (pB ll m).size ≤ 140737488355328) :
    Calls Tryd.prog 14 #[v] w fun e w' => e = .returned (.string (pB ll ll.length)) ∧ Below w.heap.size w w' := by
  obtain ⟨a, cap, b, off, rfl, hcap, hm, hx, hc⟩ := h
  have HC := Lib.hid hc
  have HS := Lib.hid hs
  have HL := Lib.hid hl
  have HZ := Lib.hid hz
  have P0 := Lib.hid (pB_zero ll)
  have PS := Lib.hid (fun m => (pB_succ ll m).symm)
  clear hc hs hl hz
  go_enter Tryd.func14, Tryd.ntmps14
  go_wp2
  go_loopw [3, 5, 6, 8, 11] (fun out _ _ _ i wr => PrA w ll out i wr) (fun _ _ _ _ i _ => ll.length - (intOf i).toNat)
  case atStart => exact ⟨0, by omega, rfl, by rw [P0.out], Below.refl _ _⟩
  case round =>
    obtain ⟨m, hm1, rfl, rfl, hbel⟩ := hrel
    have HB := Lib.hid hbel
    have hwsz := hbel.size
    clear hbel
    by_cases hml : m < ll.length
    · obtain rfl := hx.resolve_left (by omega)
      obtain ⟨u, hcu, hru, _⟩ := HC.out m hml
      have cu : wr.cell? ⟨b, off + m, none⟩ = some u := cell_below HB.out hcu
      have RU := Lib.hid (hru.below HB.out)
      obtain ⟨ua, uc, ub, uo, rfl, hu1, hu2, hu3, hu4⟩ := RU.out
      have UC := Lib.hid hu4
      have HSm := Lib.hid (HS.out m hml)
      have HLm := HL.out m hml
      have PSm := Lib.hid (PS.out m)
      obtain ⟨l, hle⟩ : ∃ l, l = pg ll m := ⟨_, rfl⟩
      rw [← hle] at hu1 hu3 UC HSm HLm PSm cu
      obtain ⟨hl1, hl2⟩ := HLm
      clear hcu hru RU hu4
      clear hle
      obtain ⟨wo, hwo⟩ : ∃ wo : World, wo = wr := ⟨_, rfl⟩
      subst hwo
      go_wp2
      go_loopw [6, 8, 17] (fun ws _ i wi => PrB wo l ws i wi) (fun _ _ i _ => l.length - (intOf i).toNat)
      case atStart => exact ⟨0, by omega, rfl, Ost.nil _ _, Below.refl _ _⟩
      case round =>
        obtain ⟨j, hj, rfl, hos, hb⟩ := hrel
        have OO := Lib.hid hos
        have B3 := Lib.hid hb
        have hs3 := hb.size
        clear hos hb
        by_cases hjl : j < l.length
        · obtain rfl := hu3.resolve_left (by omega)
          obtain ⟨c0, c1, c2⟩ := UC.out j hjl
          have c0 := cell_below B3.out c0
          have c1 := cell_below B3.out c1
          have c2 := cell_below B3.out c2
          obtain ⟨⟨b0, b1⟩, ⟨b2, b3⟩, ⟨b4, b5⟩⟩ := HSm.out j hjl
          have TS := Lib.hid (take_snoc_T l hjl)
          have TE := Lib.hid (tB_eq (tg l j))
          have LX := Lib.hid (show ((l.take j).map tB).length ≤ 1000000 by rw [List.length_map, List.length_take]; omega)
          generalize tB (tg l j) = tb at *
          generalize (tg l j).1 = x0 at *
          generalize (tg l j).2.1 = x1 at *
          generalize (tg l j).2.2 = x2 at *
          have z0 := dB_size x0 b0 b1
          have z1 := dB_size x1 b2 b3
          have z2 := dB_size x2 b4 b5
          have IT0 := Lib.hid (fun w => itoa_any x0 w b0 b1)
          have IT1 := Lib.hid (fun w => itoa_any x1 w b2 b3)
          have IT2 := Lib.hid (fun w => itoa_any x2 w b4 b5)
          generalize dB x0 = s0 at *
          generalize dB x1 = s1 at *
          generalize dB x2 = s2 at *
          have f1 : ¬ 9223372036854775807 < s0.size + 1 := by omega
          have f2 : ¬ 9223372036854775807 < s0.size + 1 + s1.size := by omega
          have f3 : ¬ 9223372036854775807 < s0.size + 1 + s1.size + 1 := by omega
          have f4 : ¬ 9223372036854775807 < s0.size + 1 + s1.size + 1 + s2.size := by omega
          clear hu1
          go_wp2
          have FX := Lib.hid (show ∀ n, some (wr.heap.size + n) ≠ u6.ownBlock from fun n e => by have := (Ost.lt OO.out _ e.symm).2; omega)
          go_region_held3 (fun w' => w'.cell? ⟨wr.heap.size, 0, none⟩ = some (.int .i64 x0) ∧ w'.cell? ⟨wr.heap.size, 1, none⟩ = some (.int .i64 x1) ∧ w'.cell? ⟨wr.heap.size, 2, none⟩ = some (.int .i64 x2))
            (first | go_keep | (go_split_ands; refine ⟨?_, ?_, ?_⟩ <;> (rw [G1.cell_far _ (by simp <;> omega) (FX.out 0)]; assumption)))
            (first | (go_at_call 52; refine (IT0.out _).mono ?_; rintro e w' ⟨rfl, rfl⟩) | (go_at_call 52; refine (IT1.out _).mono ?_; rintro e w' ⟨rfl, rfl⟩) | (go_at_call 52; refine (IT2.out _).mono ?_; rintro e w' ⟨rfl, rfl⟩) | (refine st_app_str _ (by rfl) (.tmp 21) (.tmp 35) (by rfl) wo.heap.size u6 ((l.take j).map tB) (s0 ++ ⟨#[58]⟩ ++ s1 ++ ⟨#[45]⟩ ++ s2) wo _ (by rfl) (by rfl) (Ost.below OO.out (by repeat (first | exact Below.refl _ _ | refine Below.drew ?_ | refine Below.alloc ?_ (by first | exact Nat.le_refl _ | (simp; done) | (simp; omega)) _))) (by first | exact heap_alloc_new _ _ | exact hq2 _ _ _ | exact hq2' _ _ _) (by repeat (first | exact B3.out | refine Below.drew ?_ | refine Below.alloc ?_ (by first | omega | (simp; omega)) _)) (by simp; omega) LX.out ?_; intro v1 w1 O1 B1 G1))
          all_goals
            (rw [TE.out, ← TS.out] at O1
             have O1h := Lib.hid O1
             have B1h := Lib.hid B1
             clear O1 B1 G1
             go_wp2
             go_roundw
             case rel => exact ⟨j + 1, by omega, by go_num, O1h.out, B1h.out⟩
             case measure => simp [intOf] <;> omega)
        · obtain rfl : l.length = j := by omega
          rw [List.take_length] at OO
          have CJ := Lib.hid (join_own _ _ _ wr OO.out (by rw [List.length_map]; exact hl1) hl2)
          go_wp2_with fail
          refine CJ.out.mono ?_
          rintro e w6 ⟨rfl, hb6⟩
          have B6 := Lib.hid (HB.out.trans ((B3.out.trans (hb6.mono hs3)).mono hwsz))
          have q1 := jB_size (l.map tB)
          have q2 := HZ.out m (by omega)
          have PSm2 := Lib.hid PSm.out
          generalize jB (l.map tB) = jt at *
          generalize pB ll m = pt at *
          have f1 : ¬ 9223372036854775807 < jt.size + 1 := by omega
          have f2 : ¬ 9223372036854775807 < pt.size + (jt.size + 1) := by omega
          clear hb6 CJ
          go_wp2
          go_roundw
          case rel => exact ⟨m + 1, by omega, by go_num, by rw [← PSm.out], B6.out⟩
          case measure => simp [intOf] <;> omega
    · obtain rfl : ll.length = m := by omega
      go_wp2
      go_ret
      exact ⟨rfl, HB.out⟩
end Go.Proofs.YtcakeenfkdhedaaDoor.Gm
/- (Mw) -/
namespace Go.Proofs.YtcakeenfkdhedaaDoor.Gm
open Go.RowKit
set_option linter.unusedVariables false
/-- a call's end: phases of its own, an error's number -/
def RetPE (w : World) (ll : List (List T3)) (n : Int) (e : Ending) (w' : World) : Prop := ∃ v, e = .returned (.tuple #[v, .int .i64 n]) ∧ OP w.heap.size w' v ll ∧ Below w.heap.size w w'
theorem make_bad (zs : List Int) (z : Int) (v : Value) (w : World) (n : Int) (h : Rd .i64 w v zs) (hw : W64 zs) (hn : n = 1 ∧ Bad zs ∨ n = 2 ∧ Big zs) :
    Calls Tryd.prog 9 #[v, .int .i64 z] w (RetPE w [] n) := by
  have HR := Lib.hid h
  have HN := Lib.hid hn
  have hn0 : (n == 0) = false := by rcases hn with ⟨rfl, _⟩ | ⟨rfl, _⟩ <;> rfl
  clear h hn
  go_enter Tryd.func9, Tryd.ntmps9
  go_wp2_with fail
  refine (mcheck_any _ _ _ HR.out hw).mono ?_
  rintro e w' ⟨he, rfl⟩
  have he : e = .returned (.tuple #[.int .i64 0, .int .i64 n]) := by
    rcases HN.out with ⟨rfl, hb⟩ | ⟨rfl, hb⟩
    · exact he.bad hb
    · exact he.big hb
  subst he
  go_wp2
  go_ret2
  exact ⟨_, rfl, OP.nil _ _, Below.refl _ _⟩
theorem make_cut (ds : List Nat) (z : Int) (v : Value) (w : World) (h : Rd .i64 w v (zi ds)) (hw : W64 (zi ds)) (hs : Shp ds) (hz : z < 1) :
    Calls Tryd.prog 9 #[v, .int .i64 z] w (RetPE w [] 1) := by
  have HR := Lib.hid h
  have HS := Lib.hid hs
  clear h hs
  go_enter Tryd.func9, Tryd.ntmps9
  go_wp2_with fail
  refine (mcheck_any _ _ _ HR.out hw).mono ?_
  rintro e w' ⟨he, rfl⟩
  obtain rfl := he.ok HS.out
  go_wp2
  go_ret2
  exact ⟨_, rfl, OP.nil _ _, Below.refl _ _⟩
def MkA (w : World) (ds : List Nat) (cut : Int) (N : Nat) (out i : Value) (wr : World) : Prop :=
  ∃ m : Nat, m ≤ N ∧ i = .int .i64 m ∧ OP w.heap.size wr out (phs ds cut m) ∧ (∀ x, x < m → cntT (lnX ds x) (cutX ds cut x) ≤ 64) ∧ Below w.heap.size w wr
def MkB (wo : World) (x lines c : Nat) (p i : Value) (wr : World) : Prop :=
  ∃ j : Nat, j ≤ cntT lines c ∧ i = .int .i64 (posT lines c j : Nat) ∧ Ot wo.heap.size wr p (mkT x lines c j) ∧ Below wo.heap.size wo wr
set_option maxHeartbeats 4000000 in
set_option maxRecDepth 100000 in
theorem make_any (ds : List Nat) (cut : Int) (v : Value) (w : World) (h : Rd .i64 w v (zi ds)) (hw : W64 (zi ds)) (hs : Shp ds) (hc : 1 ≤ cut) (hc2 : cut ≤ 9223372036854775807) :
    Calls Tryd.prog 9 #[v, .int .i64 cut] w (fun e w' => ((∀ x, x < ds.length → cntT (lnX ds x) (cutX ds cut x) ≤ 64) ∧ RetPE w (phs ds cut ds.length) 0 e w') ∨ ((∃ x, x < ds.length ∧ 64 < cntT (lnX ds x) (cutX ds cut x)) ∧ RetPE w [] 2 e w')) := by
  have HR := Lib.hid h
  have HS := Lib.hid hs
  have hN3 := hs.len3
  have hN1 := hs.len0
  have hn2 := hs.le
  obtain ⟨a, cap, b, off, rfl, hcap, hm, hx, hcx⟩ := h.opened
  have LZ := Lib.hid (zi_len ds)
  rw [LZ.out] at hcap hx hcx HR ⊢
  obtain rfl := hx.resolve_left (by omega)
  have SC := Lib.hid (show ∀ x, x < ds.length → w.cell? ⟨b, off + x, none⟩ = some (.int .i64 (nd ds x : Int)) from fun x hx => by rw [hcx x hx, gd_zi])
  have DD := Lib.hid (show ∀ x, x < ds.length → 1 ≤ nd ds x ∧ nd ds x ≤ 1024 from fun x hx => ⟨hs.nd1 hx, hs.ndle hx⟩)
  have LNP := Lib.hid (fun x (hx : x < ds.length) => lnX_pos hs hx)
  have LNL := Lib.hid (fun x => lnX_le hs x)
  have LNE := Lib.hid (fun x => show pr ds / nd ds x = lnX ds x from rfl)
  have CUP := Lib.hid (fun x (hx : x < ds.length) => cutX_pos hs hc hx)
  have CUL := Lib.hid (fun x => cutX_le (ds := ds) hc x)
  have CUE := Lib.hid (fun x => show (min cut (lnX ds x : Int)).toNat = cutX ds cut x from rfl)
  have PZ := Lib.hid (phs_zero ds cut)
  have PS := Lib.hid (fun m => (phs_succ ds cut m).symm)
  have PL := Lib.hid (fun m => phs_len ds cut m)
  have PT := Lib.hid (fun x => show mkT x (lnX ds x) (cutX ds cut x) (cntT (lnX ds x) (cutX ds cut x)) = phT ds cut x by unfold phT; rfl)
  obtain ⟨N, hN⟩ : ∃ N, N = ds.length := ⟨_, rfl⟩
  rw [← hN] at hN1 hN3 hcap HR SC DD LNP CUP ⊢
  obtain ⟨n, hn⟩ : ∃ n, n = pr ds := ⟨_, rfl⟩
  have HNN := Lib.hid hn
  rw [← hn] at hn2 LNE
  clear h hs hcx hx hN hn LZ
  go_enter Tryd.func9, Tryd.ntmps9
  go_wp2_with fail
  refine (mcheck_any _ _ _ HR.out hw).mono ?_
  rintro e w' ⟨he, rfl⟩
  obtain rfl := he.ok HS.out
  rw [← HNN.out]
  go_wp2
  go_loopw [8, 9, 10, 11, 12, 13, 14, 27] (fun out _ _ _ _ _ _ i wr => MkA w ds cut N out i wr) (fun _ _ _ _ _ _ _ i _ => N - (intOf i).toNat)
  case atStart => exact ⟨0, by omega, rfl, by rw [PZ.out]; exact OP.nil _ _, fun x hx => absurd hx (by omega), Below.refl _ _⟩
  case round =>
    obtain ⟨x, hx1, rfl, hop, hall, hbel⟩ := hrel
    have OO := Lib.hid hop
    have HA := Lib.hid hall
    have HB := Lib.hid hbel
    have hwsz := hbel.size
    clear hop hall hbel
    by_cases hxl : x < N
    · obtain ⟨wo, hwo⟩ : ∃ wo : World, wo = wr := ⟨_, rfl⟩
      subst hwo
      have c3 : wo.cell? ⟨b, off + x, none⟩ = some (.int .i64 (nd ds x : Int)) := cell_below HB.out (SC.out x hxl)
      obtain ⟨d1, d2⟩ := DD.out x hxl
      have l1 := LNP.out x hxl
      have l2 := LNL.out x
      have u1 := CUP.out x hxl
      have u2 := CUL.out x
      have u3 := Lib.hid (CUE.out x)
      have le := LNE.out x
      have PTx := Lib.hid (PT.out x)
      have LC := Lib.hid (show ∀ j, j < cntT (lnX ds x) (cutX ds cut x) ↔ j * cutX ds cut x < lnX ds x from fun j => lt_cntT l1 u1)
      have JL := Lib.hid (cntT_le l1 u1)
      have HJ := Lib.hid (show cntT (lnX ds x) (cutX ds cut x) ≤ 64 → ∀ y, y < x + 1 → cntT (lnX ds y) (cutX ds cut y) ≤ 64 from fun h y hy => by
        by_cases e : y = x
        · subst e; exact h
        · exact HA.out y (by omega))
      have HX := Lib.hid (show 64 < cntT (lnX ds x) (cutX ds cut x) → ∃ y, y < N ∧ 64 < cntT (lnX ds y) (cutX ds cut y) from fun h => ⟨x, hxl, h⟩)
      generalize nd ds x = d at *
      generalize lnX ds x = lines at *
      generalize cutX ds cut x = c at *
      have hd0 : ¬ d = 0 := by omega
      have e1 := nat_quo n d
      rw [le] at e1
      have e2 : IntKind.i64.wrap (lines : Int) = (lines : Int) := wrap_nat (by omega)
      clear le
      go_wp2
      go_loopw [12, 13, 14] (fun p i _ wi => MkB wo x lines c p i wi) (fun _ i _ _ => lines - (intOf i).toNat)
      case atStart => exact ⟨0, by omega, by simp [posT], by rw [mkT_zero]; exact Ot.nil _ _, Below.refl _ _⟩
      case round =>
        obtain ⟨j, hj, rfl, hot, hb⟩ := hrel
        have OT := Lib.hid hot
        have B3 := Lib.hid hb
        have hs3 := hb.size
        clear hot hb
        by_cases hjl : j < cntT lines c
        · have hjc := (LC.out j).1 hjl
          have hp : posT lines c j = j * c := by unfold posT; exact Nat.min_eq_left (Nat.le_of_lt hjc)
          rw [hp]
          have MS := Lib.hid (mkT_succ x lines c j)
          have ML := Lib.hid (mkT_len x lines c j)
          have hp2 : posT lines c (j + 1) = min ((j + 1) * c) lines := rfl
          have HP2 := Lib.hid hp2
          have ej : (j + 1) * c = j * c + c := by rw [Nat.add_mul, Nat.one_mul]
          have EJ := Lib.hid ej
          have hcut : cut < (lines : Int) - ((j * c : Nat) : Int) ↔ c < lines - j * c := by
            have h := cut_iff (lines := lines) hc (j * c) (Nat.le_of_lt hjc)
            rw [u3.out] at h
            exact h
          have hsame : cut < (lines : Int) - ((j * c : Nat) : Int) → cut = (c : Int) := fun h => by
            have h2 := cut_same hc h
            rw [u3.out] at h2
            exact h2
          have HSAME := Lib.hid hsame
          have e4 : IntKind.i64.wrap ((lines : Int) - ((j * c : Nat) : Int)) = (lines : Int) - ((j * c : Nat) : Int) := IntWalk.i64_in _ (by omega)
          have JB := JL.out
          clear hp hp2 ej hsame
          generalize j * c = q at *
          by_cases hcl : c < lines - q
          · have hct := hcut.2 hcl
            have hce := HSAME.out hct
            have e5 : IntKind.i64.wrap ((q : Int) + (c : Int)) = ((q + c : Nat) : Int) := by rw [show (q : Int) + (c : Int) = ((q + c : Nat) : Int) by omega]; exact wrap_nat (by omega)
            have HMIN := Lib.hid (show min (q + c) lines = q + c by omega)
            rw [hce]
            rw [hce] at hct
            clear hcut HSAME
            obtain ⟨t, ht'⟩ : ∃ t, t = q + c := ⟨_, rfl⟩
            have htq : q < t := by omega
            rw [← ht'] at e5 HMIN EJ
            clear ht'
            go_wp2_with (at_builtin; refine wl_appT 63 Tryd.underlying63 _ rfl (.tmp 47) (.tmp 52) rfl wo.heap.size _ (mkT x lines c j) (x : Int) (q : Int) (t : Int) rfl rfl OT.out hs3 (by rw [ML.out]; omega) ?_)
            intro v4 w4 ht ho _
            have T4 := Lib.hid ht
            have B4 := Lib.hid (B3.out.trans (ho.below hs3 (fun k hk => (Ot.lt OT.out k hk).1)))
            clear ht ho
            go_wp2
            go_roundw
            case rel => exact ⟨j + 1, hjl, by rw [HP2.out, EJ.out, HMIN.out], by rw [MS.out, EJ.out, HMIN.out]; exact T4.out, B4.out⟩
            case measure => simp [intOf] <;> omega
          · have hct : ¬ cut < (lines : Int) - (q : Int) := fun h => hcl (hcut.1 h)
            have HMIN := Lib.hid (show min (q + c) lines = lines by omega)
            have hct2 : (lines : Int) - (q : Int) ≤ cut := by omega
            have hct3 : decide (cut < (lines : Int) - (q : Int)) = false := decide_eq_false hct
            clear hcut HSAME
            obtain ⟨t, ht'⟩ : ∃ t, t = q + c := ⟨_, rfl⟩
            rw [← ht'] at HMIN EJ
            clear ht'
            go_wp2_with (at_builtin; refine wl_appT 63 Tryd.underlying63 _ rfl (.tmp 47) (.tmp 52) rfl wo.heap.size _ (mkT x lines c j) (x : Int) (q : Int) (lines : Int) rfl rfl OT.out hs3 (by rw [ML.out]; omega) ?_)
            intro v4 w4 ht ho _
            have T4 := Lib.hid ht
            have B4 := Lib.hid (B3.out.trans (ho.below hs3 (fun k hk => (Ot.lt OT.out k hk).1)))
            clear ht ho
            go_wp2
            go_roundw
            case rel => exact ⟨j + 1, hjl, by rw [HP2.out, EJ.out, HMIN.out], by rw [MS.out, EJ.out, HMIN.out]; exact T4.out, B4.out⟩
            case measure => simp [intOf] <;> omega
        · obtain rfl : cntT lines c = j := by omega
          have hpe : posT lines c (cntT lines c) = lines := by
            have h1 : ¬ cntT lines c * c < lines := fun h => absurd ((LC.out _).2 h) (by omega)
            unfold posT; exact Nat.min_eq_right (Nat.le_of_not_lt h1)
          rw [hpe]
          rw [PTx.out] at OT
          have PHL := Lib.hid (show (phT ds cut x).length = cntT lines c by rw [← PTx.out, mkT_len])
          have JB := JL.out
          have OO5 := Lib.hid (OO.out.below B3.out)
          have B5 := Lib.hid (HB.out.trans (B3.out.mono hwsz))
          have hs5 := B5.out.size
          obtain ⟨ga, gc, hsh, hg1, hg2, _⟩ := OT.out.shape
          rw [PHL.out] at hsh hg1
          subst hsh
          clear hpe LC JL PTx B3
          generalize cntT lines c = J at *
          by_cases hJ : J ≤ 64
          · have OP5 := Lib.hid (OT.out.mono hwsz)
            have HA2 := Lib.hid (HJ.out hJ)
            have PSx := Lib.hid (PS.out x)
            have PLx := Lib.hid (PL.out x)
            go_wp2_with (at_builtin; refine wl_appP _ rfl (.tmp 58) (.tmp 60) rfl w.heap.size _ (phs ds cut x) _ (phT ds cut x) w rfl rfl OO5.out OP5.out B5.out hs5 (by rw [PLx.out]; omega) ?_)
            intro v6 w6 hop hb6
            rw [PSx.out] at hop
            have O6 := Lib.hid hop
            have B6 := Lib.hid hb6
            clear hop hb6
            go_wp2
            go_roundw
            case rel => exact ⟨x + 1, by omega, by go_num, O6.out, HA2.out, B6.out⟩
            case measure => simp [intOf] <;> omega
          · have HX2 := Lib.hid (HX.out (by omega))
            have hJ2 : (64 : Int) < (J : Int) := by omega
            go_wp2
            go_ret2
            exact .inr ⟨HX2.out, _, rfl, OP.nil _ _, B5.out⟩
    · obtain rfl : N = x := by omega
      go_wp2
      go_ret2
      exact .inl ⟨HA.out, _, rfl, OO.out, HB.out⟩
end Go.Proofs.YtcakeenfkdhedaaDoor.Gm
/- (Pwl) -/
namespace Go.Proofs.YtcakeenfkdhedaaDoor.Gm
open Go.RowKit
set_option linter.unusedVariables false
theorem shp_42 : Shp [4, 2] := ⟨by decide, by decide, fun d hd => by
  simp at hd
  rcases hd with rfl | rfl
  · exact ⟨2, rfl⟩
  · exact ⟨1, rfl⟩, by decide⟩
theorem w42 : W64 (zi [4, 2]) := by
  intro a ha
  have h : a = 4 ∨ a = 2 := by simpa [zi] using ha
  rcases h with rfl | rfl <;> decide
theorem phs_42 : phs [4, 2] 3 2 = [[(0, 0, 2)], [(1, 0, 3), (1, 3, 4)]] := by kernel_rfl
theorem pw_make (v : Value) (w : World) (h : Rd .i64 w v [4, 2]) : Calls Tryd.prog 9 #[v, .int .i64 3] w (RetPE w [[(0, 0, 2)], [(1, 0, 3), (1, 3, 4)]] 0) := by
  refine (make_any [4, 2] 3 v w h w42 shp_42 (by decide) (by decide)).mono ?_
  rintro e w' (⟨_, he⟩ | ⟨⟨x, hx, h64⟩, _⟩)
  · rw [show ([4, 2] : List Nat).length = 2 from rfl, phs_42] at he
    exact he
  · have h1 := cntT_le (lnX_pos shp_42 hx) (cutX_pos shp_42 (cut := 3) (by decide) hx)
    have h2 : lnX [4, 2] x ≤ 8 := Nat.div_le_self _ _
    omega
theorem dB_lt (n : Nat) (h : n < 10) : dB (n : Int) = ⟨#[UInt8.ofNat (48 + n)]⟩ := by
  unfold dB
  rw [Int.toNat_natCast, Lib.decDigits, dif_pos h]
theorem pB_42 : pB [[(0, 0, 2)], [(1, 0, 3), (1, 3, 4)]] 2 = ⟨#[48, 58, 48, 45, 50, 10, 49, 58, 48, 45, 51, 32, 49, 58, 51, 45, 52, 10]⟩ := by
  have d0 : dB 0 = ⟨#[48]⟩ := dB_lt 0 (by omega)
  have d1 : dB 1 = ⟨#[49]⟩ := dB_lt 1 (by omega)
  have d2 : dB 2 = ⟨#[50]⟩ := dB_lt 2 (by omega)
  have d3 : dB 3 = ⟨#[51]⟩ := dB_lt 3 (by omega)
  have d4 : dB 4 = ⟨#[52]⟩ := dB_lt 4 (by omega)
  have t0 : tB (0, 0, 2) = ⟨#[48, 58, 48, 45, 50]⟩ := by rw [← tB_eq]; simp only [d0, d2]; kernel_rfl
  have t1 : tB (1, 0, 3) = ⟨#[49, 58, 48, 45, 51]⟩ := by rw [← tB_eq]; simp only [d0, d1, d3]; kernel_rfl
  have t2 : tB (1, 3, 4) = ⟨#[49, 58, 51, 45, 52]⟩ := by rw [← tB_eq]; simp only [d1, d3, d4]; kernel_rfl
  have p0 : pg [[(0, 0, 2)], [(1, 0, 3), (1, 3, 4)]] 0 = [(0, 0, 2)] := by kernel_rfl
  have p1 : pg [[(0, 0, 2)], [(1, 0, 3), (1, 3, 4)]] 1 = [(1, 0, 3), (1, 3, 4)] := by kernel_rfl
  rw [show (2 : Nat) = 1 + 1 from rfl, pB_succ, show (1 : Nat) = 0 + 1 from rfl, pB_succ, pB_zero, p0, p1, List.map_cons, List.map_cons, List.map_cons, List.map_nil, t0, t1, t2]
  show _ = (⟨#[48, 58, 48, 45, 50, 10, 49, 58, 48, 45, 51, 32, 49, 58, 51, 45, 52, 10]⟩ : ByteArray)
  kernel_rfl
theorem pB_421 : pB [[(0, 0, 2)], [(1, 0, 3), (1, 3, 4)]] 1 = ⟨#[48, 58, 48, 45, 50, 10]⟩ := by
  have d0 : dB 0 = ⟨#[48]⟩ := dB_lt 0 (by omega)
  have d2 : dB 2 = ⟨#[50]⟩ := dB_lt 2 (by omega)
  have t0 : tB (0, 0, 2) = ⟨#[48, 58, 48, 45, 50]⟩ := by rw [← tB_eq]; simp only [d0, d2]; kernel_rfl
  have p0 : pg [[(0, 0, 2)], [(1, 0, 3), (1, 3, 4)]] 0 = [(0, 0, 2)] := by kernel_rfl
  rw [show (1 : Nat) = 0 + 1 from rfl, pB_succ, pB_zero, p0, List.map_cons, List.map_nil, t0]
  show _ = (⟨#[48, 58, 48, 45, 50, 10]⟩ : ByteArray)
  kernel_rfl
theorem pw_print {B : Nat} (v : Value) (w : World) (h : OP B w v [[(0, 0, 2)], [(1, 0, 3), (1, 3, 4)]]) : Calls Tryd.prog 14 #[v] w fun e w' => e = .returned (.string ⟨#[48, 58, 48, 45, 50, 10, 49, 58, 48, 45, 51, 32, 49, 58, 51, 45, 52, 10]⟩) ∧ Below w.heap.size w w' := by
  have p0 : pg [[(0, 0, 2)], [(1, 0, 3), (1, 3, 4)]] 0 = [(0, 0, 2)] := by kernel_rfl
  have p1 : pg [[(0, 0, 2)], [(1, 0, 3), (1, 3, 4)]] 1 = [(1, 0, 3), (1, 3, 4)] := by kernel_rfl
  have h2 := print_small [[(0, 0, 2)], [(1, 0, 3), (1, 3, 4)]] v w h.rps ?_ ?_ ?_
  · rw [show ([[(0, 0, 2)], [(1, 0, 3), (1, 3, 4)]] : List (List T3)).length = 2 from rfl, pB_42] at h2
    exact h2
  · intro i hi j hj
    have hi : i < 2 := hi
    obtain rfl | rfl : i = 0 ∨ i = 1 := by omega
    · rw [p0] at hj ⊢
      have hj : j < 1 := hj
      obtain rfl : j = 0 := by omega
      rw [tg_lt (by decide)]; decide
    · rw [p1] at hj ⊢
      have hj : j < 2 := hj
      obtain rfl | rfl : j = 0 ∨ j = 1 := by omega
      · rw [tg_lt (by decide)]; decide
      · rw [tg_lt (by decide)]; decide
  · intro i hi
    have hi : i < 2 := hi
    obtain rfl | rfl : i = 0 ∨ i = 1 := by omega
    · rw [p0]
      refine ⟨by simp, ?_⟩
      have t0 := jB_size ([(0, 0, 2)].map tB)
      rw [← t0]
      have := pB_421
      rw [show (1 : Nat) = 0 + 1 from rfl, pB_succ, pB_zero, p0] at this
      have hs := congrArg ByteArray.size this
      rw [ByteArray.size_append, ByteArray.size_append] at hs
      have e : (⟨#[48, 58, 48, 45, 50, 10]⟩ : ByteArray).size = 6 := rfl
      omega
    · rw [p1]
      refine ⟨by simp, ?_⟩
      have t0 := jB_size ([(1, 0, 3), (1, 3, 4)].map tB)
      rw [← t0]
      have := pB_42
      rw [show (2 : Nat) = 1 + 1 from rfl, pB_succ, p1] at this
      have hs := congrArg ByteArray.size this
      rw [ByteArray.size_append, ByteArray.size_append] at hs
      have e : (⟨#[48, 58, 48, 45, 50, 10, 49, 58, 48, 45, 51, 32, 49, 58, 51, 45, 52, 10]⟩ : ByteArray).size = 18 := rfl
      omega
  · intro m hm
    have hm : m ≤ 2 := hm
    obtain rfl | rfl | rfl : m = 0 ∨ m = 1 ∨ m = 2 := by omega
    · rw [pB_zero]; decide
    · rw [pB_421]; decide
    · rw [pB_42]; decide
end Go.Proofs.YtcakeenfkdhedaaDoor.Gm
/- (Dp) -/
namespace Go.Proofs.YtcakeenfkdhedaaDoor.Gm
open Go.RowKit
set_option linter.unusedVariables false
theorem setCs_size : ∀ (vs : List Value) (cs : Array Value) (o : Nat), (setCs cs o vs).size = cs.size
  | [], _, _ => rfl
  | v :: r, cs, o => by rw [setCs, setCs_size r]; simp
theorem setCs_get : ∀ (vs : List Value) (cs : Array Value) (o t : Nat), o + vs.length ≤ cs.size → (setCs cs o vs)[t]? = if o ≤ t ∧ t < o + vs.length then vs[t - o]? else cs[t]?
  | [], cs, o, t, _ => by rw [if_neg (by intro h; have := h.2; simp only [List.length_nil] at this; omega)]; rfl
  | v :: r, cs, o, t, h => by
    have h' : o + 1 + r.length ≤ cs.size := by simp only [List.length_cons] at h; omega
    rw [setCs, setCs_get r _ (o + 1) t (by simpa using h')]
    simp only [List.length_cons]
    by_cases h1 : o + 1 ≤ t ∧ t < o + 1 + r.length
    · rw [if_pos h1, if_pos (by omega)]
      obtain ⟨s, rfl⟩ : ∃ s, t = o + 1 + s := ⟨t - (o + 1), by omega⟩
      rw [show o + 1 + s - o = s + 1 by omega, show o + 1 + s - (o + 1) = s by omega]
      rfl
    · rw [if_neg h1, Array.getElem?_setIfInBounds]
      by_cases h2 : o = t
      · subst h2
        rw [if_pos rfl, if_pos (by omega), if_pos (by omega)]
        simp
      · rw [if_neg h2, if_neg (by omega)]
theorem zero_task (w : World) : (zeroValue 56).run Tryd.prog w = .ok (.agg #[.int .i64 0, .int .i64 0, .int .i64 0]) w := Tryd.zeroValue56 w
theorem run_clear_task (w : World) (ty : TypeId) (g o c : Nat) (hc : ∀ j, j < 3 → (w.cell? ⟨g, o + j, none⟩).isSome = true) (hf : ∀ j, j < 3 → w.frozen? ⟨g, o + j, none⟩ = false) :
    (Builtin.clear_ #[63] ty #[.slice (some ⟨g, o, none⟩) 1 c]).run Tryd.prog w = .ok (.tuple #[]) (w.setCells g o [.int .i64 0, .int .i64 0, .int .i64 0]) := by
  have hzc : (Builtin.zeroCells (Value.agg #[.int .i64 0, .int .i64 0, .int .i64 0]).cells 1).toList = [.int .i64 0, .int .i64 0, .int .i64 0] := by
    unfold Builtin.zeroCells
    simp [Value.cells, Array.range]
    try rfl
  have hst := run_storeCells_cells (P := Tryd.prog) g o [.int .i64 0, .int .i64 0, .int .i64 0] 0 w (by simpa using hc) (by simpa using hf) (by intro v hv'; simp at hv'; subst hv'; rfl)
  simp only [Nat.add_zero] at hst
  simp [Builtin.clear_, run_underlying Tryd.underlying63, hzc, hst]
set_option maxHeartbeats 4000000 in
set_option maxRecDepth 1000000 in
theorem delete_task (B g n cap i : Nat) (l : List T3) (w : World) (h : Ot B w (.slice (some ⟨g, 0, none⟩) n cap) l) (hn : l.length = n) (hi : i < n) (hcm : cap ≤ 9223372036854775807) (z : Int) (hz : z = i) :
    Calls Tryd.prog 44 #[.slice (some ⟨g, 0, none⟩) n cap, .int .i64 z, .int .i64 (z + 1)] w fun e w' => e = .returned (.slice (some ⟨g, 0, none⟩) (n - 1) cap) ∧ Ot B w' (.slice (some ⟨g, 0, none⟩) (n - 1) cap) (l.take i ++ l.drop (i + 1)) ∧ Only (fun k => k = g) w w' := by
  subst hz
  subst hn
  obtain ⟨i0, hi0, hz0, hz1, hz2⟩ := info_parts info_task
  rcases h.2 with ⟨e0, _⟩ | ⟨g', cap', cur, e, hb, hg, hnc, hmx, hs, ht⟩
  · cases e0
  · injection e with e1 e2 e3
    injection e1 with e4
    injection e4 with e5
    subst e5; subst e3
    have hblk : Blk w g 56 cur := hg
    have hcur : ∀ t, t < l.length * 3 → cur[t]? = (tcs l)[t]? := fun t ht' => by
      have h1 : (cur.toList.take (l.length * 3))[t]? = (tcs l)[t]? := by rw [← ht]
      rw [List.getElem?_take_of_lt ht', Array.getElem?_toList] at h1
      exact h1
    have hL : (tcs l).length = l.length * 3 := tcs_len l
    obtain ⟨news, hnews⟩ : ∃ news, news = tcs (l.drop (i + 1)) := ⟨_, rfl⟩
    have hlen : news.length = (l.length - (i + 1)) * 3 := by rw [hnews, tcs_len, List.length_drop]
    have hget : ∀ t, t < (l.length - (i + 1)) * 3 → news[t]? = (tcs l)[(i + 1) * 3 + t]? := by
      intro t ht'
      rw [hnews, tcs_drop, List.getElem?_drop]
    obtain ⟨A, hA, hsrc⟩ : ∃ A : Addr, (if cap = i + 1 then some (⟨g, 0, none⟩ : Addr) else some ⟨g, (i + 1) * 3, none⟩) = some A ∧ Hid (∀ t u, news[t]? = some u → w.drew.cell? (A.add t) = some u) := by
      by_cases hc : cap = i + 1
      · refine ⟨⟨g, 0, none⟩, by simp [hc], fun t u hu => ?_⟩
        have h0 : news.length = 0 := by rw [hlen]; omega
        rw [List.length_eq_zero_iff.1 h0] at hu
        simp at hu
      · refine ⟨⟨g, (i + 1) * 3, none⟩, by simp [hc], fun t u hu => ?_⟩
        have ht' : t < (l.length - (i + 1)) * 3 := by
          have := (List.getElem?_eq_some_iff.1 hu).1
          rwa [hlen] at this
        rw [hget t ht'] at hu
        have e : ((⟨g, (i + 1) * 3, none⟩ : Addr).add t) = ⟨g, (i + 1) * 3 + t, none⟩ := by unfold Addr.add; by_cases h0 : t = 0 <;> simp [h0]
        rw [e]
        have : w.drew.cell? ⟨g, (i + 1) * 3 + t, none⟩ = cur[(i + 1) * 3 + t]? := hblk.cell _
        rw [this, hcur _ (by omega)]
        exact hu
    have s1 : Hid (news.length = (l.length - (i + 1)) * 3) := hlen
    have hone : ∀ (m : List T3), ∀ u ∈ tcs m, u.oneCell' = true := fun m u hu => by
      unfold tcs at hu
      obtain ⟨t, _, ht⟩ := List.mem_flatMap.1 hu
      simp only [tc, List.mem_cons, List.not_mem_nil, or_false] at ht
      rcases ht with rfl | rfl | rfl <;> rfl
    have s2 : Hid (∀ u ∈ news, u.oneCell' = true) := by rw [hnews]; exact hone _
    have s3 : Hid (∀ t, t < news.length → (w.drew.cell? ⟨g, 0 + i * 3 + t, none⟩).isSome = true ∧ w.drew.frozen? ⟨g, 0 + i * 3 + t, none⟩ = false) := by
      intro t ht'
      rw [hlen] at ht'
      rw [Nat.zero_add]
      have : w.drew.cell? ⟨g, i * 3 + t, none⟩ = cur[i * 3 + t]? := hblk.cell _
      exact ⟨by rw [this, hcur _ (by omega), List.getElem?_eq_getElem (by omega)]; rfl, hblk.frozen _⟩
    obtain ⟨W1, hW1⟩ : ∃ W1, W1 = w.drew.setCells g (0 + i * 3) news := ⟨_, rfl⟩
    have hB1 : Blk W1 g 56 (setCs cur (i * 3) news) := by
      rw [hW1, Nat.zero_add]
      exact Blk.setCells news (i * 3) w.drew cur hblk
    have hO1 : Only (fun k => k = g) w W1 := by
      rw [hW1]
      exact only_setCells _ _ _ _ ((Only.refl _ w).drew)
    have hsz1 : (setCs cur (i * 3) news).size = cap * 3 := by rw [setCs_size, hs]
    have hcl : ∀ ty, (Builtin.clear_ #[63] ty #[.slice (some ⟨g, (l.length - 1) * 3, none⟩) 1 (cap - (l.length - 1))]).run Tryd.prog W1 = .ok (.tuple #[]) (W1.setCells g ((l.length - 1) * 3) [.int .i64 0, .int .i64 0, .int .i64 0]) :=
      fun ty => run_clear_task W1 ty g ((l.length - 1) * 3) _ (fun t ht' => by
        have : W1.cell? ⟨g, (l.length - 1) * 3 + t, none⟩ = (setCs cur (i * 3) news)[(l.length - 1) * 3 + t]? := hB1.cell _
        rw [this, Array.getElem?_eq_getElem (by rw [hsz1]; omega)]; rfl) (fun t ht' => hB1.frozen _)
    have hfin : Ot B (W1.setCells g ((l.length - 1) * 3) [.int .i64 0, .int .i64 0, .int .i64 0]) (.slice (some ⟨g, 0, none⟩) (l.length - 1) cap) (l.take i ++ l.drop (i + 1)) := by
      have hl : (l.take i ++ l.drop (i + 1)).length = l.length - 1 := by rw [List.length_append, List.length_take, List.length_drop]; omega
      unfold Ot
      rw [hl]
      have hB2 := Blk.setCells [.int .i64 0, .int .i64 0, .int .i64 0] ((l.length - 1) * 3) W1 _ hB1
      refine ⟨by rw [tcs_len, hl], .inr ⟨g, cap, _, rfl, hb, hB2, by omega, hmx, by rw [setCs_size, hsz1], ?_⟩⟩
      rw [tcs_append, tcs_take, tcs_drop]
      apply List.ext_getElem?
      intro t
      by_cases htl : t < (l.length - 1) * 3
      · rw [List.getElem?_take_of_lt htl, Array.getElem?_toList, setCs_get _ _ _ _ (by rw [hsz1]; simp; omega), if_neg (by omega), setCs_get _ _ _ _ (by rw [hs, hlen]; omega)]
        by_cases hti : t < i * 3
        · rw [if_neg (by omega), hcur _ (by omega), List.getElem?_append_left (by rw [List.length_take]; omega), List.getElem?_take_of_lt hti]
        · rw [if_pos (by rw [hlen]; omega), hget _ (by omega), List.getElem?_append_right (by rw [List.length_take]; omega), List.length_take, List.getElem?_drop]
          congr 1
          omega
      · rw [List.getElem?_eq_none (by simp; omega), List.getElem?_eq_none (by rw [List.length_append, List.length_take, List.length_drop]; omega)]
    have hO2 : Only (fun k => k = g) w (W1.setCells g ((l.length - 1) * 3) [.int .i64 0, .int .i64 0, .int .i64 0]) := only_setCells _ _ _ _ hO1
    have HF := Lib.hid hfin
    have HO := Lib.hid hO2
    have hW : Hid (W1 = w.drew.setCells g (0 + i * 3) news) := hW1
    clear hW1 hB1 hO1 hget hnews hlen hfin hO2 hblk hcur ht hg h hsz1 hs e2 hL hone
    have hic : i ≤ cap := by omega
    have hjc : i + 1 ≤ cap := by omega
    have e1 : IntKind.i64.wrap ((i : Int) + 1) = (i : Int) + 1 := IntWalk.i64_in _ (by omega)
    obtain ⟨n, hnn⟩ : ∃ n, n = l.length := ⟨_, rfl⟩
    rw [← hnn] at hi hnc s1 hcl HF HO ⊢
    clear hnn
    have mixed : Tryd.prog.follows Departure.mixedOrders = true := by kernel_rfl
    have hi2 : (i : Int) + 1 ≤ (n : Int) := by omega
    have hi3 : (0 : Int) ≤ (i : Int) + 1 := by omega
    go_enter Tryd.func44, Tryd.ntmps44
    go_wp2_with fail
    go_region_law_o (refine step_append_room rfl (.tmp 22) (.tmp 25) 63 rfl 56 i0 3 Tryd.underlying63 hi0 hz1 g 0 i cap (by simp [Act.eval, Act.put]) A (n - (i + 1)) (cap - (i + 1)) news (by simp [Act.eval, Act.put]) s1.out hsrc.out s2.out (by omega) s3.out ?_; rw [← hW.out])
    rw [show i + (n - (i + 1)) = n - 1 by omega]
    clear s1 hsrc s2 s3 hA hW mixed hi2 hi3
    obtain ⟨p, rfl⟩ : ∃ p, n = p + 1 := ⟨n - 1, by omega⟩
    simp only [Nat.add_sub_cancel] at HF HO hcl ⊢
    have hl1 : (p : Int) ≤ (p : Int) + 1 := by omega
    have hl2 : (p : Int) + 1 ≤ (cap : Int) := by omega
    have hl3 : p + 1 ≤ cap := hnc
    go_wp2
    go_ret
    exact ⟨rfl, HF.out, HO.out⟩
end Go.Proofs.YtcakeenfkdhedaaDoor.Gm
