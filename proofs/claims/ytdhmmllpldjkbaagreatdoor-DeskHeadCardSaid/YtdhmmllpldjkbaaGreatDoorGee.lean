/- Laid together by wip/merge.py: St So Sq Cp Ph Ad Cw Pck Pr Mw Pwl Dp. -/
import Derived.Shelf.Strings.Builder1
import Derived.Shelf.Strings.Builder2
import Derived.Shelf.Strings.OnBuilder
import Derived.Shelf.Strconv.Itoa3
import Derived.Ground.NamesProg
import Derived.Test.YtdhmmllpldjkbaaGreatDoorChecked
import Derived.Shelf.SlGeneric
import Derived.Shelf.SlSortCmp.WholeK
import Derived.Ground.SlsfProg
import Derived.Test.YtdhmmllpldjkbaaGreatDoorGc
import Derived.Lib.OwnBridge
import Derived.Lib.AppendIntMem
import Derived.Test.YtdhmmllpldjkbaaGreatDoorGb
import Derived.Lib.SliceRun
import Derived.Laws.OwnMore
import Derived.Shelf.SlSortCmp.NoneTotal
import Derived.Test.YtdhmmllpldjkbaaGreatDoorGd
import Derived.Deep.RegionHeld3
import Derived.Deep.AppendLies
import Derived.Deep.RegionLaw
import Derived.Shelf.RegionOpenPlain
/- (St) -/
namespace Go.Proofs
open Go.Shelf
def Tryz.lays156_renG : Go.Shelf.Ren := ⟨fun | 156 => 91 | 165 => 110 | 166 => 15 | 169 => 17 | 240 => 26 | 241 => 123 | 276 => 52 | 277 => 139 | n => n, fun | 31 => 24 | 9 => 9 | 3 => 3 | 4 => 4 | 0 => 0 | 20 => 20 | 72 => 32 | 76 => 36 | 70 => 29 | 37 => 30 | 75 => 35 | 127 => 57 | 164 => 65 | 5 => 5 | 80 => 39 | n => n, fun | n => n⟩
theorem Tryz.lays156G : Go.Proofs.Lays.n156 Tryz.prog Tryz.lays156_renG := {
  mixed := by kernel_rfl
  f156 := Tryz.func91.trans (congrArg some (by kernel_rfl))
  f165 := Tryz.func110.trans (congrArg some (by kernel_rfl))
  f166 := Tryz.func15.trans (congrArg some (by kernel_rfl))
  f169 := Tryz.func17.trans (congrArg some (by kernel_rfl))
  f240 := Tryz.func26.trans (congrArg some (by kernel_rfl))
  f241 := Tryz.func123.trans (congrArg some (by kernel_rfl))
  f276 := Tryz.func52.trans (congrArg some (by kernel_rfl))
  f277 := Tryz.func139.trans (congrArg some (by kernel_rfl))
  t0 := Tryz.underlying0
  a0 := Tryz.isAgg0
  z0 := Tryz.sizeOf0
  v0 := Tryz.zeroValue0
  t3 := Tryz.underlying3
  a3 := Tryz.isAgg3
  z3 := Tryz.sizeOf3
  v3 := Tryz.zeroValue3
  t4 := Tryz.underlying4
  a4 := Tryz.isAgg4
  z4 := Tryz.sizeOf4
  v4 := Tryz.zeroValue4
  t9 := Tryz.underlying9
  a9 := Tryz.isAgg9
  z9 := Tryz.sizeOf9
  v9 := Tryz.zeroValue9
  t20 := Tryz.underlying20
  a20 := Tryz.isAgg20
  z20 := Tryz.sizeOf20
  v20 := Tryz.zeroValue20
  t31 := Tryz.underlying24
  a31 := Tryz.isAgg24
  z31 := Tryz.sizeOf24
  v31 := Tryz.zeroValue24
  t37 := Tryz.underlying30
  a37 := Tryz.isAgg30
  z37 := Tryz.sizeOf30
  v37 := Tryz.zeroValue30
  t70 := Tryz.underlying29
  a70 := Tryz.isAgg29
  z70 := Tryz.sizeOf29
  v70 := Tryz.zeroValue29
  t72 := Tryz.underlying32
  a72 := Tryz.isAgg32
  z72 := Tryz.sizeOf32
  v72 := Tryz.zeroValue32
  t75 := Tryz.underlying35
  a75 := Tryz.isAgg35
  z75 := Tryz.sizeOf35
  v75 := Tryz.zeroValue35
  t76 := Tryz.underlying36
  a76 := Tryz.isAgg36
  z76 := Tryz.sizeOf36
  v76 := Tryz.zeroValue36
  t127 := Tryz.underlying57
  a127 := Tryz.isAgg57
  z127 := Tryz.sizeOf57
  v127 := Tryz.zeroValue57
  t164 := Tryz.underlying65
  a164 := Tryz.isAgg65
  z164 := Tryz.sizeOf65
  v164 := Tryz.zeroValue65 }
theorem Tryz.Builder_Extra_156G : Builder.Extra Tryz.prog Tryz.lays156_renG := {
  sizeBuilder := by kernel_rfl
  liesBuilder := by kernel_rfl
  t5 := Tryz.underlying5
  a5 := Tryz.isAgg5
  z5 := Tryz.sizeOf5
  v5 := Tryz.zeroValue5
  infoByte := by kernel_rfl
  cellsByte := by kernel_rfl
  sizeByte := by kernel_rfl
  neB5 := by decide }
open Go.RowKit in
/-- No element: the empty string; the world is as it was. (Whatever the slice's address and capacity: a nil slice too.) (LAID: no walk: one application.) -/
theorem Tryz.strings_Join_noneG (a : Option Addr) (c : Nat) (sep : ByteArray) (w : World) :
    Calls Tryz.prog 91 #[.slice a 0 c, .string sep] w fun e w' => e = .returned (.string ⟨#[]⟩) ∧ w' = w := Any.strings_Join_none Tryz.lays156G Tryz.Builder_Extra_156G a c sep w
open Go.RowKit in
/-- strings.Join: "Join concatenates the elements of its first argument to create a single string. The separator string sep is placed between elements in the resulting string.": HOWEVER MANY ELEMENTS. Below the heap's end the world is as it was. (LAID: no walk: one application.) -/
theorem Tryz.strings_JoinG (bk o c : Nat) (xs : List ByteArray) (sep : ByteArray) (w : World) (hcells : ∀ (j : Nat) x, xs[j]? = some x → w.cell? ⟨bk, o + j, none⟩ = some (.string x)) (hbk : bk < w.heap.size) (hN : xs.length ≤ 140737488355328) (hcap : xs.length ≤ c) (hlen : (Lib.join (xs.map (·.data.toList)) sep.data.toList).length ≤ 140737488355328) :
    Calls Tryz.prog 91 #[.slice (some ⟨bk, o, none⟩) xs.length c, .string sep] w fun e w' => e = .returned (.string ⟨(Lib.join (xs.map (·.data.toList)) sep.data.toList).toArray⟩) ∧ Below w.heap.size w w' := Any.strings_Join Tryz.lays156G Tryz.Builder_Extra_156G bk o c xs sep w hcells hbk hN hcap hlen
def Tryz.lays171_ren : Go.Shelf.Ren := ⟨fun | 171 => 59 | 243 => 96 | 246 => 114 | 283 => 119 | 284 => 120 | 285 => 121 | 286 => 122 | 129 => 136 | 317 => 135 | 318 => 137 | 319 => 138 | 320 => 115 | 337 => 130 | 338 => 131 | n => n, fun | 3 => 3 | 9 => 9 | 2 => 2 | 4 => 4 | 171 => 118 | 0 => 0 | 53 => 51 | 37 => 30 | 5 => 5 | 173 => 120 | 212 => 139 | 51 => 109 | 20 => 20 | 213 => 140 | 46 => 90 | 232 => 150 | 233 => 151 | n => n, fun | 17 => 3 | 18 => 4 | 19 => 5 | n => n⟩
theorem Tryz.lays171 : Go.Proofs.Lays.n171 Tryz.prog Tryz.lays171_ren := {
  mixed := by kernel_rfl
  f129 := Tryz.func136.trans (congrArg some (by kernel_rfl))
  f171 := Tryz.func59.trans (congrArg some (by kernel_rfl))
  f243 := Tryz.func96.trans (congrArg some (by kernel_rfl))
  f246 := Tryz.func114.trans (congrArg some (by kernel_rfl))
  f283 := Tryz.func119.trans (congrArg some (by kernel_rfl))
  f284 := Tryz.func120.trans (congrArg some (by kernel_rfl))
  f285 := Tryz.func121.trans (congrArg some (by kernel_rfl))
  f286 := Tryz.func122.trans (congrArg some (by kernel_rfl))
  f317 := Tryz.func135.trans (congrArg some (by kernel_rfl))
  f318 := Tryz.func137.trans (congrArg some (by kernel_rfl))
  f319 := Tryz.func138.trans (congrArg some (by kernel_rfl))
  f320 := Tryz.func115.trans (congrArg some (by kernel_rfl))
  f337 := Tryz.func130.trans (congrArg some (by kernel_rfl))
  f338 := Tryz.func131.trans (congrArg some (by kernel_rfl))
  t0 := Tryz.underlying0
  a0 := Tryz.isAgg0
  z0 := Tryz.sizeOf0
  v0 := Tryz.zeroValue0
  t2 := Tryz.underlying2
  a2 := Tryz.isAgg2
  z2 := Tryz.sizeOf2
  v2 := Tryz.zeroValue2
  t3 := Tryz.underlying3
  a3 := Tryz.isAgg3
  z3 := Tryz.sizeOf3
  v3 := Tryz.zeroValue3
  t4 := Tryz.underlying4
  a4 := Tryz.isAgg4
  z4 := Tryz.sizeOf4
  v4 := Tryz.zeroValue4
  t5 := Tryz.underlying5
  a5 := Tryz.isAgg5
  z5 := Tryz.sizeOf5
  v5 := Tryz.zeroValue5
  t9 := Tryz.underlying9
  a9 := Tryz.isAgg9
  z9 := Tryz.sizeOf9
  v9 := Tryz.zeroValue9
  t20 := Tryz.underlying20
  a20 := Tryz.isAgg20
  z20 := Tryz.sizeOf20
  v20 := Tryz.zeroValue20
  t37 := Tryz.underlying30
  a37 := Tryz.isAgg30
  z37 := Tryz.sizeOf30
  v37 := Tryz.zeroValue30
  t46 := Tryz.underlying90
  a46 := Tryz.isAgg90
  z46 := Tryz.sizeOf90
  v46 := Tryz.zeroValue90
  t51 := Tryz.underlying109
  a51 := Tryz.isAgg109
  z51 := Tryz.sizeOf109
  v51 := Tryz.zeroValue109
  t53 := Tryz.underlying51
  a53 := Tryz.isAgg51
  z53 := Tryz.sizeOf51
  v53 := Tryz.zeroValue51
  t171 := Tryz.underlying118
  a171 := Tryz.isAgg118
  z171 := Tryz.sizeOf118
  v171 := Tryz.zeroValue118
  t173 := Tryz.underlying120
  a173 := Tryz.isAgg120
  z173 := Tryz.sizeOf120
  v173 := Tryz.zeroValue120
  t212 := Tryz.underlying139
  a212 := Tryz.isAgg139
  z212 := Tryz.sizeOf139
  v212 := Tryz.zeroValue139
  t213 := Tryz.underlying140
  a213 := Tryz.isAgg140
  z213 := Tryz.sizeOf140
  t232 := Tryz.underlying150
  a232 := Tryz.isAgg150
  z232 := Tryz.sizeOf150
  v232 := Tryz.zeroValue150
  t233 := Tryz.underlying151
  a233 := Tryz.isAgg151
  z233 := Tryz.sizeOf151
  v233 := Tryz.zeroValue151
  g17 := by kernel_rfl
  g18 := by kernel_rfl
  g19 := by kernel_rfl }
open Go.RowKit Go.Sort Go.Lib in
/-- THE ROAD WITHOUT THE TABLE: 0 <= i < 100: NO PREMISE ON THE WORLD, AND THE WORLD IS AS IT WAS: a row that keeps its argument in that range need list no table ('laid = []'). (LAID: no walk: one application.) -/
theorem Tryz.strconv_Itoa_small (i : Nat) (hi : i < 100) (w : World) :
    Calls Tryz.prog 59 #[.int .i64 i] w fun e w' => e = .returned (.string ⟨(Lib.decDigits i).toArray⟩) ∧ w' = w := Any.strconv_Itoa_small Tryz.lays171 i hi w
end Go.Proofs
/- (So) -/
namespace Go.Proofs
open Go.Shelf
end Go.Proofs
/- (Sq) -/
namespace Go.Proofs.YtdhmmllpldjkbaaGreatDoor.Gm
open Go.RowKit
open Go.Shelf Go.Lib Go.Sort
set_option linter.unusedVariables false
/-- which of two tasks is first -/
def cfT (s t : T3) : Int := if s.2.1 < t.2.1 then -1 else if t.2.1 < s.2.1 then 1 else 0
theorem ltT (x y : T3) : ltOf cfT x y = decide (x.2.1 < y.2.1) := by
  unfold ltOf cfT
  by_cases h1 : x.2.1 < y.2.1
  · simp [h1]
  · by_cases h2 : y.2.1 < x.2.1 <;> simp [h1, h2]
theorem swoT : SWO (ltOf cfT) where
  irrefl x := by rw [ltT]; simp
  trans x y z h1 h2 := by rw [ltT] at *; simp at *; omega
  ntrans x y z h1 h2 := by rw [ltT] at *; simp at *; omega
theorem tcs_flat (l : List T3) : ∀ t, t < l.length * 3 → (flatK tc 3 l.toArray)[t]! = ((tcs l)[t]?).getD default := fun t ht => by
  rw [get_flatK _ _ _ _ (by simpa using ht)]
  have hi : t / 3 < l.length := by omega
  have e : (l.toArray)[t / 3]! = tg l (t / 3) := by
    rw [tg_lt hi, getElem!_pos _ _ (by simpa using hi)]
    simp
  rw [e]
  obtain ⟨e0, e1, e2⟩ := tcs_get l (t / 3) hi
  have h3 : t % 3 = 0 ∨ t % 3 = 1 ∨ t % 3 = 2 := by omega
  have ht' : t = t / 3 * 3 + t % 3 := by omega
  rcases h3 with h3 | h3 | h3
  · rw [h3, show t = t / 3 * 3 by omega, Nat.mul_div_cancel _ (by omega : 0 < 3), e0]; rfl
  · rw [h3, show t = t / 3 * 3 + 1 by omega, show (t / 3 * 3 + 1) / 3 = t / 3 by omega, e1]; rfl
  · rw [h3, show t = t / 3 * 3 + 2 by omega, show (t / 3 * 3 + 2) / 3 = t / 3 by omega, e2]; rfl
theorem Ot.holds {B g n cap : Nat} {w : World} {l : List T3} (h : Ot B w (.slice (some ⟨g, 0, none⟩) n cap) l) : HoldsK tc 3 w g 0 l.toArray := by
  intro j hj
  rw [size_flatK] at hj
  have hj' : j < l.length * 3 := by simpa using hj
  have hn : n = l.length := by
    obtain ⟨a, c, e, _⟩ := Ot.shape h
    injection e
  subst hn
  rw [tcs_flat l j hj', Nat.zero_add]
  refine ⟨?_, World.ownsRow.frozenAt h j⟩
  rw [World.ownsRow.cellAt h j hj', List.getElem?_eq_getElem (by rw [tcs_len]; exact hj')]
  rfl
end Go.Proofs.YtdhmmllpldjkbaaGreatDoor.Gm
/- (Cp) -/
namespace Go.Proofs.YtdhmmllpldjkbaaGreatDoor.Gm
open Go.RowKit
end Go.Proofs.YtdhmmllpldjkbaaGreatDoor.Gm
/- (Ph) -/
namespace Go.Proofs.YtdhmmllpldjkbaaGreatDoor.Gm
open Go.RowKit
set_option linter.unusedVariables false
/-- a list of lists of the call's own -/
def OP (B : Nat) (w : World) (v : Value) (ll : List (List T3)) : Prop :=
  ∃ vs : List Value, w.ownsRow B 106 1 v ll.length vs ∧ vs.length = ll.length ∧ ∀ i u, vs[i]? = some u → Ot B w u (pg ll i)
theorem OP.nil (B : Nat) (w : World) : OP B w (.slice none 0 0) [] := ⟨[], World.ownsRow_nil _ _ _ _, rfl, fun i u h => by simp at h⟩
theorem OP.only {S : Nat → Prop} {B : Nat} {w w' : World} {v : Value} {ll : List (List T3)} (h : OP B w v ll) (ho : Only S w w') (hs : ∀ g, B ≤ g → g < w.heap.size → ¬ S g) : OP B w' v ll := by
  obtain ⟨vs, h1, h2, h3⟩ := h
  exact ⟨vs, own_only h1 ho (fun g e => hs g (World.ownsRow.lt h1 g e).1 (World.ownsRow.lt h1 g e).2), h2, fun i u hu => (h3 i u hu).only ho (fun g e => hs g (Ot.lt (h3 i u hu) g e).1 (Ot.lt (h3 i u hu) g e).2)⟩
theorem OP.below {B : Nat} {w w' : World} {v : Value} {ll : List (List T3)} (h : OP B w v ll) (hb : Below w.heap.size w w') : OP B w' v ll :=
  h.only (Only.of_below (S := fun _ => False) hb (fun k hk hk' => by omega)) (fun _ _ _ e => e)
theorem OP.mono {B B' : Nat} {w : World} {v : Value} {ll : List (List T3)} (h : OP B w v ll) (hB : B' ≤ B) : OP B' w v ll := by
  obtain ⟨vs, h1, h2, h3⟩ := h
  refine ⟨vs, ⟨h1.1, ?_⟩, h2, fun i u hu => (h3 i u hu).mono hB⟩
  rcases h1.2 with h0 | ⟨g, cap, cur, e, hb, rest⟩
  · exact .inl h0
  · exact .inr ⟨g, cap, cur, e, by omega, rest⟩
theorem OP.shape {B : Nat} {w : World} {v : Value} {ll : List (List T3)} (h : OP B w v ll) : ∃ a cap, v = .slice a ll.length cap ∧ ll.length ≤ cap ∧ cap ≤ 9223372036854775807 := by
  obtain ⟨vs, h1, h2, h3⟩ := h
  rcases h1.2 with ⟨rfl, h0⟩ | ⟨g, cap, cur, rfl, hb, hg, hn, hm, hs, ht⟩
  · rw [h0]; exact ⟨none, 0, rfl, by simp, by omega⟩
  · exact ⟨_, cap, rfl, hn, by unfold maxLen at hm; omega⟩
theorem info_phase : (Tryz.prog.info? 106).map (fun i => (i.zero, i.size, i.bytes)) = some (some (.slice none 0 0), 1, 24) := by kernel_rfl
/-- append of a list of one's own -/
theorem wl_appP {ops : Array Oper} {rest : List Oper} {o : Oper} {a : Act} {Q : Exit → Act → World → Prop} (w : World) (hgd : o.guard = none) (s x : Operand)
    (ho : o.op = .call { callee := .builtin .append, args := #[s, x], argTypes := #[84, 84] })
    (B : Nat) (v : Value) (ll : List (List T3)) (u : Value) (l : List T3) (W : World) (hs : a.eval s = v) (hx : a.eval x = .slice (some ⟨w.heap.size, 0, none⟩) 1 1)
    (hown : OP B w v ll) (hu : Ot B w u l) (hbel : Below B W w) (hB : B ≤ w.heap.size) (hl : ll.length ≤ 1000000)
    (h : ∀ v' w', OP B w' v' (ll ++ [l]) → Below B W w' → wpList Tryz.prog ops Q rest (a.put o.dst v') w') :
    wpList Tryz.prog ops Q (o :: rest) a (w.alloc (.cells #[u] 106)) := by
  obtain ⟨i0, hi, hz0, hz1, hz2⟩ := info_parts info_phase
  have hmx : ll.length + 1 ≤ maxLen := by unfold maxLen; omega
  obtain ⟨vs, h1, h2, h3⟩ := hown
  have hu1 : u.oneCell' = true := by
    obtain ⟨aa, cc, rfl, _⟩ := Ot.shape hu
    rfl
  refine wpList_append_own_at _ hgd s x 84 ho B 106 i0 (.slice none 0 0) 1 24 Tryz.underlying84 hi hz0 hz1 hz2 rfl (by decide) v ll.length vs hs (World.ownsRow.alloc h1 _) ⟨w.heap.size, 0, none⟩ 1 1 [u] hx rfl (cell_one_new _ _ _) (by intro y hy; simp at hy; subst hy; exact hu1) hmx (by omega) (by simp; omega) ?_
  intro v' w' hown' hgrow _ hat
  have hO : Only (fun k => v.ownBlock = some k) (w.alloc (.cells #[u] 106)) w' := Only.of_grown (S := fun k => v.ownBlock = some k) hgrow (fun _ e => e)
  have hal := (Only.refl (fun _ => False) w).alloc (.cells #[u] 106)
  have keep : ∀ {u' : Value} {l' : List T3}, Ot B w u' l' → Ot B w' u' l' := by
    intro u' l' hz
    have hz1 := hz.only hal (fun _ _ => id)
    refine hz1.only hO (fun g e e' => ?_)
    rcases own_ne hz1 (World.ownsRow.alloc h1 (.cells #[u] 106)) (by decide) with hh | hh
    · rw [e] at hh; cases hh
    · exact hh (by rw [e, e'])
  refine h v' w' ⟨vs ++ [u], ?_, ?_, ?_⟩ ?_
  · rw [List.length_append, List.length_singleton]; exact hown'
  · rw [List.length_append, List.length_append, h2]; rfl
  · intro i y hy
    rw [pg_eq]
    by_cases hil : i < vs.length
    · rw [List.getElem?_append_left hil] at hy
      rw [List.getElem?_append_left (by omega), ← pg_eq]
      exact keep (h3 i y hy)
    · have hi2 : i = vs.length := by
        have := (List.getElem?_eq_some_iff.1 hy).1
        rw [List.length_append, List.length_singleton] at this
        omega
      subst hi2
      rw [List.getElem?_append_right (Nat.le_refl _)] at hy
      simp at hy
      subst hy
      rw [h2, List.getElem?_append_right (Nat.le_refl _)]
      simpa using keep hu
  · exact (hbel.alloc hB _).grown hgrow (by simp; omega) (fun k hk => (World.ownsRow.lt h1 k hk).1)
theorem OP.opened {B : Nat} {w : World} {v : Value} {ll : List (List T3)} (h : OP B w v ll) (hl : 1 ≤ ll.length) : ∃ g cap, v = .slice (some ⟨g, 0, none⟩) ll.length cap ∧ ll.length ≤ cap ∧ cap ≤ 9223372036854775807 := by
  obtain ⟨vs, h1, h2, h3⟩ := h
  rcases h1.2 with ⟨rfl, h0⟩ | ⟨g, cap, cur, rfl, hb, hg, hn, hm, hs, ht⟩
  · omega
  · exact ⟨g, cap, rfl, hn, by unfold maxLen at hm; omega⟩
theorem OP.at {B g n cap : Nat} {w : World} {ll : List (List T3)} (h : OP B w (.slice (some ⟨g, 0, none⟩) n cap) ll) {i : Nat} (hi : i < ll.length) : ∃ u, w.cell? ⟨g, i, none⟩ = some u ∧ Ot B w u (pg ll i) := by
  obtain ⟨aa, cc, e, _, _⟩ := OP.shape h
  injection e with _ e2 _
  subst e2
  obtain ⟨vs, h1, h2, h3⟩ := h
  rw [← h2] at h1
  have hi2 : i < vs.length := by omega
  refine ⟨vs[i], ?_, h3 i _ (List.getElem?_eq_getElem hi2)⟩
  have := World.ownsRow.cellAt h1 i (by rw [Nat.mul_one]; omega)
  rw [this, List.getElem?_eq_getElem hi2]
end Go.Proofs.YtdhmmllpldjkbaaGreatDoor.Gm
/- (Ad) -/
namespace Go.Proofs.YtdhmmllpldjkbaaGreatDoor.Gm
open Go.RowKit
set_option linter.unusedVariables false
/-- the places of two numbers added, round each axis, the first so many of them -/
def adP (ds : List Nat) (i j m : Nat) : List Nat := (List.range ds.length).map fun x => if x < m then (nd (plcs ds j) x + nd (plcs ds i) x) % nd ds x else nd (plcs ds j) x
theorem adP_len (ds : List Nat) (i j m : Nat) : (adP ds i j m).length = ds.length := by simp [adP]
theorem nd_adP (ds : List Nat) (i j m : Nat) {x : Nat} (hx : x < ds.length) : nd (adP ds i j m) x = if x < m then (nd (plcs ds j) x + nd (plcs ds i) x) % nd ds x else nd (plcs ds j) x := by
  rw [nd_eq, adP, List.getElem?_map, List.getElem?_range hx]; rfl
theorem ext_nd {l m : List Nat} (hl : l.length = m.length) (h : ∀ i, i < l.length → nd l i = nd m i) : l = m := by
  apply List.ext_getElem?
  intro i
  by_cases hi : i < l.length
  · have := h i hi
    rw [nd_eq, nd_eq, List.getElem?_eq_getElem hi, List.getElem?_eq_getElem (by omega)] at this
    rw [List.getElem?_eq_getElem hi, List.getElem?_eq_getElem (by omega)]
    exact congrArg some this
  · rw [List.getElem?_eq_none (by omega), List.getElem?_eq_none (by omega)]
theorem adP_zero (ds : List Nat) (i j : Nat) : adP ds i j 0 = plcs ds j :=
  ext_nd (by rw [adP_len, plcs_len]) (fun x hx => by rw [adP_len] at hx; rw [nd_adP _ _ _ _ hx, if_neg (by omega)])
theorem adP_succ (ds : List Nat) (i j : Nat) {m : Nat} (hm : m < ds.length) : (adP ds i j m).set m ((nd (plcs ds j) m + nd (plcs ds i) m) % nd ds m) = adP ds i j (m + 1) :=
  ext_nd (by rw [List.length_set, adP_len, adP_len]) (fun x hx => by
    rw [List.length_set, adP_len] at hx
    rw [nd_set _ _ _ _ (by rw [adP_len]; exact hm), nd_adP _ _ _ _ hx, nd_adP _ _ _ _ hx]
    by_cases h : m = x
    · subst h; rw [if_pos rfl, if_pos (by omega)]
    · rw [if_neg h]
      by_cases h2 : x < m
      · rw [if_pos h2, if_pos (by omega)]
      · rw [if_neg h2, if_neg (by omega)])
theorem plcs_cons (d : Nat) (l : List Nat) (k : Nat) : plcs (d :: l) k = k / pr l % d :: plcs l k := by
  refine ext_nd (by simp [plcs]) (fun x hx => ?_)
  rw [plcs_len] at hx
  rw [nd_plcs _ _ _ hx]
  cases x with
  | zero => rw [nd_zero, nd_zero]; rfl
  | succ x =>
    rw [nd_succ, nd_succ, nd_plcs _ _ _ (by simpa using hx)]; rfl
theorem adP_cons (d : Nat) (l : List Nat) (i j : Nat) : adP (d :: l) i j (l.length + 1) = (j / pr l % d + i / pr l % d) % d :: adP l i j l.length := by
  refine ext_nd (by simp [adP]) (fun x hx => ?_)
  rw [adP_len] at hx
  rw [nd_adP _ _ _ _ hx, if_pos (by simpa using hx), plcs_cons, plcs_cons]
  cases x with
  | zero => rw [nd_zero, nd_zero, nd_zero, nd_zero]
  | succ x =>
    have hx2 : x < l.length := by simpa using hx
    rw [nd_succ, nd_succ, nd_succ, nd_succ, nd_adP _ _ _ _ hx2, if_pos hx2]
theorem AD_modn : ∀ (ks : List Nat) (i j : Nat), AD ks (i % pk ks) (j % pk ks) = AD ks i j
  | [], _, _ => rfl
  | k :: ks, i, j => by
    have e : ∀ i, i % pk (k :: ks) % pk ks = i % pk ks := fun i => by rw [pk_cons]; exact Nat.mod_mul_left_mod _ _ _
    have e2 : ∀ i, i % pk (k :: ks) / pk ks = i / pk ks % 2 ^ k := fun i => by rw [pk_cons]; exact Nat.mod_mul_left_div_self _ _ _
    simp only [AD]
    rw [e, e, e2, e2, ← Nat.add_mod]
theorem plc_adP : ∀ (ks : List Nat) (i j : Nat), plc (szs ks) (adP (szs ks) i j (szs ks).length) = AD ks i j
  | [], _, _ => rfl
  | k :: ks, i, j => by
    have h := plc_adP ks i j
    rw [show szs (k :: ks) = 2 ^ k :: szs ks from rfl, List.length_cons, adP_cons]
    show _ * pr (szs ks) + plc (szs ks) _ = _
    rw [h]
    simp only [AD]
    rw [AD_modn, ← Nat.add_mod, Nat.add_comm (j / _)]
    rfl
theorem cell_only {w w' : World} {S : Nat → Prop} {b o : Nat} {v : Value} (h : Only S w w') (hc : w.cell? ⟨b, o, none⟩ = some v) (hb : ¬ S b) : w'.cell? ⟨b, o, none⟩ = some v :=
  (World.cell?_of_block (a := ⟨b, o, none⟩) (h.block b (World.block_lt_of_cell? _ _ hc) hb)).trans hc
theorem cell_below {w w' : World} {b o : Nat} {v : Value} (h : Below w.heap.size w w') (hc : w.cell? ⟨b, o, none⟩ = some v) : w'.cell? ⟨b, o, none⟩ = some v :=
  (h.cell (p := ⟨b, o, none⟩) (World.block_lt_of_cell? _ _ hc)).trans hc
theorem plcs_mod (l : List Nat) (k : Nat) : plcs l (k % pr l) = plcs l k := by
  refine ext_nd (by rw [plcs_len, plcs_len]) (fun x hx => ?_)
  rw [plcs_len] at hx
  rw [nd_plcs _ _ _ hx, nd_plcs _ _ _ hx, ← pr_split l x, pr_drop l x hx]
  show k % (pr (l.take x) * (nd l x * under l x)) / under l x % nd l x = _
  rw [← Nat.mul_assoc, mod_mul_div, Nat.mod_mul_left_mod]
theorem plcs_plc : ∀ (l p : List Nat), p.length = l.length → (∀ i, i < l.length → nd p i < nd l i) → plcs l (plc l p) = p
  | [], [], _, _ => rfl
  | d :: l, x :: p, hp, h => by
    have hp' : p.length = l.length := by simpa using hp
    have h' : ∀ i, i < l.length → nd p i < nd l i := fun i hi => by
      have := h (i + 1) (by simpa using hi)
      rwa [nd_succ, nd_succ] at this
    have h0 := h 0 (by simp)
    rw [nd_zero, nd_zero] at h0
    have hlt := plc_lt hp' h'
    rw [plcs_cons]
    show (x * pr l + plc l p) / pr l % d :: plcs l (x * pr l + plc l p) = _
    rw [blk_div hlt, Nat.mod_eq_of_lt h0, ← plcs_mod l (x * pr l + plc l p), blk_mod hlt, plcs_plc l p hp' h']
theorem adP_lt {ks : List Nat} (i j m : Nat) {x : Nat} (hx : x < (szs ks).length) : nd (adP (szs ks) i j m) x < nd (szs ks) x := by
  have h1 : 1 ≤ nd (szs ks) x := szs_pos _ (nd_mem hx)
  rw [nd_adP _ _ _ _ hx]
  split
  · exact Nat.mod_lt _ h1
  · exact plcs_lt _ _ _ hx h1
theorem nd_AD (ks : List Nat) (i j : Nat) {x : Nat} (hx : x < (szs ks).length) : nd (plcs (szs ks) (AD ks i j)) x = (nd (plcs (szs ks) j) x + nd (plcs (szs ks) i) x) % nd (szs ks) x := by
  rw [← plc_adP, plcs_plc _ _ (adP_len _ _ _ _) (fun x hx => adP_lt i j _ hx), nd_adP _ _ _ _ hx, if_pos hx]
theorem num_eq {ks : List Nat} {i j : Nat} (hi : i < pk ks) (hj : j < pk ks) (h : ∀ x, x < (szs ks).length → nd (plcs (szs ks) i) x = nd (plcs (szs ks) j) x) : i = j := by
  have e : plcs (szs ks) i = plcs (szs ks) j := ext_nd (by rw [plcs_len, plcs_len]) (fun x hx => h x (by rwa [plcs_len] at hx))
  have h1 := plc_plcs (szs ks) i
  rw [e, plc_plcs] at h1
  rw [show pr (szs ks) = pk ks from rfl, Nat.mod_eq_of_lt hi, Nat.mod_eq_of_lt hj] at h1
  exact h1.symm
/-- the places of a list of turns -/
@[irreducible] def byp (ds : List Nat) (bs : List Int) : List Nat := (List.range ds.length).map fun x => (gd bs x % (nd ds x : Int)).toNat
theorem byp_len (ds : List Nat) (bs : List Int) : (byp ds bs).length = ds.length := by unfold byp; simp
theorem nd_byp (ds : List Nat) (bs : List Int) {x : Nat} (hx : x < ds.length) : nd (byp ds bs) x = (gd bs x % (nd ds x : Int)).toNat := by
  unfold byp
  rw [nd_eq, List.getElem?_map, List.getElem?_range hx]; rfl
theorem nd_byp_int {ds : List Nat} (bs : List Int) {x : Nat} (hx : x < ds.length) (h : 1 ≤ nd ds x) : (nd (byp ds bs) x : Int) = gd bs x % (nd ds x : Int) := by
  rw [nd_byp _ _ hx]
  exact Int.toNat_of_nonneg (Int.emod_nonneg _ (by omega))
theorem byp_lt {ds : List Nat} (bs : List Int) {x : Nat} (hx : x < ds.length) (h : 1 ≤ nd ds x) : nd (byp ds bs) x < nd ds x := by
  have h1 := nd_byp_int bs hx h
  have h2 := Int.emod_lt_of_pos (gd bs x) (show (0 : Int) < nd ds x by omega)
  omega
/-- .. and its number -/
@[irreducible] def BI (ks : List Nat) (bs : List Int) : Nat := plc (szs ks) (byp (szs ks) bs)
theorem BI_lt (ks : List Nat) (bs : List Int) : BI ks bs < pk ks := by
  unfold BI
  exact plc_lt (byp_len _ _) (fun x hx => byp_lt bs hx (szs_pos _ (nd_mem hx)))
theorem nd_BI (ks : List Nat) (bs : List Int) {x : Nat} (hx : x < (szs ks).length) : nd (plcs (szs ks) (BI ks bs)) x = nd (byp (szs ks) bs) x := by
  unfold BI
  rw [plcs_plc _ _ (byp_len _ _) (fun x hx => byp_lt bs hx (szs_pos _ (nd_mem hx)))]
/-- the places of k turned, the first so many of them -/
theorem nd_adP_by (ks : List Nat) (bs : List Int) (k m : Nat) {x : Nat} (hx : x < (szs ks).length) : nd (adP (szs ks) (BI ks bs) k m) x = if x < m then (nd (plcs (szs ks) k) x + nd (byp (szs ks) bs) x) % nd (szs ks) x else nd (plcs (szs ks) k) x := by
  rw [nd_adP _ _ _ _ hx, nd_BI _ _ hx]
theorem turn_mod {p d : Nat} {b c : Int} (hp : p < d) (hs : (b + c) % (d : Int) = 0) : ((p + (b % (d : Int)).toNat) % d + (c % (d : Int)).toNat) % d = p := by
  have hd : (0 : Int) < d := by omega
  have h1 : (((b % (d : Int)).toNat : Nat) : Int) = b % (d : Int) := Int.toNat_of_nonneg (Int.emod_nonneg _ (by omega))
  have h2 : (((c % (d : Int)).toNat : Nat) : Int) = c % (d : Int) := Int.toNat_of_nonneg (Int.emod_nonneg _ (by omega))
  have h3 : (((p + (b % (d : Int)).toNat) % d + (c % (d : Int)).toNat : Nat) % d : Int) = p := by
    rw [Int.natCast_add, Int.natCast_emod, Int.natCast_add, h1, h2]
    rw [Int.emod_add_emod, Int.add_emod_emod, Int.add_assoc, Int.add_comm (b % _), ← Int.add_assoc, Int.add_emod_emod, Int.add_assoc, Int.add_comm c b, Int.add_emod, hs, Int.add_zero, Int.emod_emod_of_dvd _ (Int.dvd_refl _)]
    exact Int.emod_eq_of_lt (by omega) (by omega)
  have h4 : ((((p + (b % (d : Int)).toNat) % d + (c % (d : Int)).toNat) % d : Nat) : Int) = p := by rw [Int.natCast_emod]; exact h3
  omega
theorem AD_by (ks : List Nat) (bs cs : List Int) {k : Nat} (hk : k < pk ks) (h : ∀ x, x < (szs ks).length → (gd bs x + gd cs x) % (nd (szs ks) x : Int) = 0) : AD ks (BI ks cs) (AD ks (BI ks bs) k) = k := by
  refine num_eq (AD_lt _ _ _) hk (fun x hx => ?_)
  have h1 : 1 ≤ nd (szs ks) x := szs_pos _ (nd_mem hx)
  rw [nd_AD _ _ _ hx, nd_AD _ _ _ hx, nd_BI _ _ hx, nd_BI _ _ hx, nd_byp _ _ hx, nd_byp _ _ hx]
  exact turn_mod (plcs_lt _ _ _ hx h1) (h x hx)
theorem BI_congr (ks : List Nat) {bs cs : List Int} (h : ∀ x, x < (szs ks).length → gd bs x % (nd (szs ks) x : Int) = gd cs x % (nd (szs ks) x : Int)) : BI ks bs = BI ks cs := by
  refine num_eq (BI_lt _ _) (BI_lt _ _) (fun x hx => ?_)
  rw [nd_BI _ _ hx, nd_BI _ _ hx, nd_byp _ _ hx, nd_byp _ _ hx, h x hx]
/-- the other way round -/
@[irreducible] def ngB (bs : List Int) : List Int := bs.map (fun z => -z)
theorem gd_ngB (bs : List Int) (x : Nat) : gd (ngB bs) x = - gd bs x := by
  unfold ngB
  rw [gd_eq, gd_eq, List.getElem?_map]
  cases bs[x]? with
  | none => rfl
  | some z => rfl
theorem AD_there (ks : List Nat) (bs : List Int) {k : Nat} (hk : k < pk ks) : AD ks (BI ks (ngB bs)) (AD ks (BI ks bs) k) = k :=
  AD_by ks _ _ hk (fun x _ => by rw [gd_ngB, Int.add_right_neg]; simp)
theorem AD_back (ks : List Nat) (bs : List Int) {k : Nat} (hk : k < pk ks) : AD ks (BI ks bs) (AD ks (BI ks (ngB bs)) k) = k :=
  AD_by ks _ _ hk (fun x _ => by rw [gd_ngB, Int.add_left_neg]; simp)
/-- a list turned, its first m numbers -/
@[irreducible] def shL (ks : List Nat) (bs : List Int) (l : List F) (m : Nat) : List F := (List.range (pk ks)).map fun j => if AD ks (BI ks (ngB bs)) j < m then cf l (AD ks (BI ks (ngB bs)) j) else 0
theorem shL_len (ks : List Nat) (bs : List Int) (l : List F) (m : Nat) : (shL ks bs l m).length = pk ks := by unfold shL; simp
theorem cf_shL (ks : List Nat) (bs : List Int) (l : List F) (m : Nat) {p : Nat} (hp : p < pk ks) : cf (shL ks bs l m) p = if AD ks (BI ks (ngB bs)) p < m then cf l (AD ks (BI ks (ngB bs)) p) else 0 := by
  unfold shL; exact cf_ofFn _ hp
theorem shL_zero (ks : List Nat) (bs : List Int) (l : List F) : shL ks bs l 0 = List.replicate (pk ks) 0 := by
  refine ext_cf (by rw [shL_len, List.length_replicate]) (fun p hp => ?_)
  rw [shL_len] at hp
  rw [cf_shL _ _ _ _ hp, cf_replicate, if_neg (by omega)]
theorem shL_step (ks : List Nat) (bs : List Int) (l : List F) {m : Nat} (hm : m < pk ks) : (shL ks bs l m).set (AD ks (BI ks bs) m) (cf l m) = shL ks bs l (m + 1) := by
  have hq := AD_lt ks (BI ks bs) m
  refine ext_cf (by rw [List.length_set, shL_len, shL_len]) (fun p hp => ?_)
  rw [List.length_set, shL_len] at hp
  rw [cf_set _ _ _ _ (by rw [shL_len]; exact hq), cf_shL _ _ _ _ hp, cf_shL _ _ _ _ hp]
  by_cases h : AD ks (BI ks bs) m = p
  · have h2 := AD_there ks bs hm
    rw [h] at h2
    rw [if_pos h, h2, if_pos (by omega)]
  · have h2 : AD ks (BI ks (ngB bs)) p ≠ m := fun e => h (by rw [← e]; exact AD_back ks bs hp)
    rw [if_neg h]
    by_cases h3 : AD ks (BI ks (ngB bs)) p < m
    · rw [if_pos h3, if_pos (by omega)]
    · rw [if_neg h3, if_neg (by omega)]
theorem cf_shL_full (ks : List Nat) (bs : List Int) (l : List F) {p : Nat} (hp : p < pk ks) : cf (shL ks bs l (pk ks)) p = cf l (AD ks (BI ks (ngB bs)) p) := by
  rw [cf_shL _ _ _ _ hp, if_pos (AD_lt _ _ _)]
theorem shL_take (ks : List Nat) (bs : List Int) (l : List F) {m : Nat} (hm : m < pk ks) : (shL ks bs l (pk ks)).take (m + 1) = (shL ks bs l (pk ks)).take m ++ [cf l (AD ks (BI ks (ngB bs)) m)] := by
  rw [List.take_succ_eq_append_getElem (by rw [shL_len]; exact hm), ← cf_lt (by rw [shL_len]; exact hm), cf_shL_full _ _ _ hm]
end Go.Proofs.YtdhmmllpldjkbaaGreatDoor.Gm
/- (Cw) -/
namespace Go.Proofs.YtdhmmllpldjkbaaGreatDoor.Gm
open Go.RowKit
set_option linter.unusedVariables false
def CovRel (w1 : World) (ax lines : Int) (r : List T3) (at0 i : Value) (wr : World) : Prop :=
  ∃ (m : Nat) (a : Int), m ≤ r.length ∧ i = .int .i64 m ∧ at0 = .int .i64 a ∧ chk ax lines 0 r = chk ax lines a (r.drop m) ∧ RowKit.Below w1.heap.size w1 wr
theorem chk_drop (ax lines a : Int) (r : List T3) {m : Nat} (hm : m < r.length) : chk ax lines a (r.drop m) = (decide ((tg r m).1 = ax) && decide ((tg r m).2.1 = a) && decide (a < (tg r m).2.2) && decide ((tg r m).2.2 ≤ lines) && chk ax lines (tg r m).2.2 (r.drop (m + 1))) := by
  rw [List.drop_eq_getElem_cons hm, ← tg_lt hm]
  rfl
end Go.Proofs.YtdhmmllpldjkbaaGreatDoor.Gm
/- (Pck) -/
namespace Go.Proofs.YtdhmmllpldjkbaaGreatDoor.Gm
open Go.RowKit
set_option linter.unusedVariables false
/-- a slice of phases reads as a list of lists of tasks -/
def RPs (w : World) (v : Value) (ll : List (List T3)) : Prop :=
  ∃ a cap b off, v = .slice a ll.length cap ∧ ll.length ≤ cap ∧ cap ≤ 9223372036854775807 ∧ (ll.length ≤ 0 ∨ a = some ⟨b, off, none⟩) ∧
    ∀ i, i < ll.length → ∃ u, w.cell? ⟨b, off + i, none⟩ = some u ∧ Rk w u (pg ll i) ∧ (∀ c, u = .slice none (pg ll i).length c → (pg ll i).length = 0)
theorem RPs.below {w w' : World} {v : Value} {ll : List (List T3)} (h : RPs w v ll) (hb : Below w.heap.size w w') : RPs w' v ll := by
  obtain ⟨a, cap, b, off, e, h1, h2, h3, hx⟩ := h
  refine ⟨a, cap, b, off, e, h1, h2, h3, fun i hi => ?_⟩
  obtain ⟨u, hc, hr, hn⟩ := hx i hi
  exact ⟨u, (hb.cell (p := ⟨b, off + i, none⟩) (World.block_lt_of_cell? w _ hc)).trans hc, hr.below hb, hn⟩
theorem RPs.shape {w : World} {v : Value} {ll : List (List T3)} (h : RPs w v ll) : ∃ a cap, v = .slice a ll.length cap ∧ ll.length ≤ cap ∧ cap ≤ 9223372036854775807 := by
  obtain ⟨a, cap, b, off, e, h1, h2, h3, hx⟩ := h
  exact ⟨a, cap, e, h1, h2⟩
theorem OP.rps {B : Nat} {w : World} {v : Value} {ll : List (List T3)} (h : OP B w v ll) : RPs w v ll := by
  obtain ⟨vs, h1, h2, h3⟩ := h
  have h1' := h1
  rcases h1.2 with ⟨rfl, h0⟩ | ⟨g, cap, cur, rfl, hb, hg, hn, hm, hs, ht⟩
  · exact ⟨none, 0, 0, 0, by rw [h0], by omega, by omega, .inl (by omega), fun i hi => absurd hi (by omega)⟩
  · refine ⟨some ⟨g, 0, none⟩, cap, g, 0, rfl, by simpa using hn, by unfold maxLen at hm; omega, .inr rfl, fun i hi => ?_⟩
    have hi2 : i < vs.length := by omega
    have ho := h3 i _ (List.getElem?_eq_getElem hi2)
    refine ⟨vs[i], ?_, ho.rk, fun c e => ?_⟩
    · have := World.ownsRow.cellAt h1' i (by omega)
      rw [Nat.zero_add, this, List.getElem?_eq_getElem hi2]
    · rcases ho.2 with ⟨_, h0⟩ | ⟨g', cap', cur', e', _⟩
      · exact h0
      · rw [e'] at e; cases e
/-- what Check tells of right shapes -/
def ChkN (ds : List Nat) (ll : List (List T3)) (n : Int) : Prop :=
  (n = 5 ∧ (ll.length ≠ ds.length ∨ ∃ x, x < ds.length ∧ ¬ RP x (lnX ds x) (pg ll x))) ∨
  (ll.length = ds.length ∧ (∀ x, x < ds.length → RP x (lnX ds x) (pg ll x)) ∧ ((n = 2 ∧ ∃ i, i < ll.length ∧ 64 < (pg ll i).length) ∨ (n = 0 ∧ ∀ i, i < ll.length → (pg ll i).length ≤ 64)))
def PckRel (w : World) (ds : List Nat) (ll : List (List T3)) (N : Nat) (i : Value) (wr : World) : Prop :=
  ∃ m : Nat, m ≤ N ∧ i = .int .i64 m ∧ (∀ x, x < m → RP x (lnX ds x) (pg ll x)) ∧ Below w.heap.size w wr
end Go.Proofs.YtdhmmllpldjkbaaGreatDoor.Gm
/- (Pr) -/
namespace Go.Proofs.YtdhmmllpldjkbaaGreatDoor.Gm
open Go.RowKit
set_option linter.unusedVariables false
/-- a small number's digits -/
@[irreducible] def dBg (x : Int) : ByteArray := ⟨(Lib.decDigits x.toNat).toArray⟩
theorem itoa_anyG (x : Int) (w : World) (h0 : 0 ≤ x) (h1 : x < 100) : Calls Tryz.prog 59 #[.int .i64 x] w fun e w' => e = .returned (.string (dBg x)) ∧ w = w' := by
  obtain ⟨n, rfl⟩ : ∃ n : Nat, x = n := ⟨x.toNat, by omega⟩
  have h := Tryz.strconv_Itoa_small n (by omega) w
  unfold dBg
  rw [Int.toNat_natCast]
  exact h.mono fun e w' q => ⟨q.1, q.2.symm⟩
theorem dB_size (x : Int) (h0 : 0 ≤ x) (h1 : x < 100) : (dBg x).size ≤ 2 := by
  obtain ⟨n, rfl⟩ : ∃ n : Nat, x = n := ⟨x.toNat, by omega⟩
  unfold dBg
  rw [Int.toNat_natCast]
  show (Lib.decDigits n).toArray.size ≤ 2
  rw [List.size_toArray, Lib.decDigits]
  split
  · simp
  · rw [Lib.decDigits, dif_pos (by omega)]
    simp
/-- a task's text -/
@[irreducible] def tB (t : T3) : ByteArray := dBg t.1 ++ ⟨#[58]⟩ ++ dBg t.2.1 ++ ⟨#[45]⟩ ++ dBg t.2.2
theorem tB_eq (t : T3) : dBg t.1 ++ ⟨#[58]⟩ ++ dBg t.2.1 ++ ⟨#[45]⟩ ++ dBg t.2.2 = tB t := by unfold tB; rfl
/-- texts, a blank between them -/
@[irreducible] def jB (l : List ByteArray) : ByteArray := ⟨(Lib.join (l.map (·.data.toList)) [32]).toArray⟩
def lB (l : List ByteArray) : Nat := (Lib.join (l.map (·.data.toList)) [32]).length
theorem jB_size (l : List ByteArray) : (jB l).size = lB l := by
  unfold jB lB
  show (Lib.join (List.map (fun x => x.data.toList) l) [32]).toArray.size = _
  rw [List.size_toArray]
theorem info_str : (Tryz.prog.info? 9).map (fun i => (i.zero, i.size, i.bytes)) = some (some (.string ⟨#[]⟩), 1, 16) := by kernel_rfl
/-- a list of texts of the call's own -/
def Ost (B : Nat) (w : World) (v : Value) (l : List ByteArray) : Prop := w.ownsRow B 9 1 v l.length (l.map Value.string)
theorem Ost.nil (B : Nat) (w : World) : Ost B w (.slice none 0 0) [] := World.ownsRow_nil _ _ _ _
theorem Ost.below {B : Nat} {w w' : World} {v : Value} {l : List ByteArray} (h : Ost B w v l) (hb : Below w.heap.size w w') : Ost B w' v l :=
  own_only (S := fun _ => False) h (Only.of_below hb (fun k hk hk' => by omega)) (fun _ _ e => e)
theorem Ost.lt {B : Nat} {w : World} {v : Value} {l : List ByteArray} (h : Ost B w v l) : ∀ g, v.ownBlock = some g → B ≤ g ∧ g < w.heap.size := World.ownsRow.lt h
theorem join_own (B : Nat) (v : Value) (l : List ByteArray) (w : World) (h : Ost B w v l) (hl : l.length ≤ 1000000) (hb : lB l ≤ 140737488355328) :
    Calls Tryz.prog 91 #[v, .string ⟨#[32]⟩] w fun e w' => e = .returned (.string (jB l)) ∧ Below w.heap.size w w' := by
  rcases h.2 with ⟨rfl, h0⟩ | ⟨g, cap, cur, rfl, hbg, hg, hn, hm, hs, ht⟩
  · have e : l = [] := List.length_eq_zero_iff.1 h0
    subst e
    unfold jB
    exact (Tryz.strings_Join_noneG none 0 ⟨#[32]⟩ w).mono fun e w' q => ⟨q.1, by rw [q.2]; exact Below.refl _ _⟩
  · unfold jB
    have hlt := (Ost.lt h g rfl).2
    refine (Tryz.strings_JoinG g 0 cap l ⟨#[32]⟩ w (fun j x hj => ?_) hlt (by omega) hn hb).mono fun e w' q => q
    have hjl := (List.getElem?_eq_some_iff.1 hj).1
    rw [Nat.zero_add, World.ownsRow.cellAt h j (by omega), List.getElem?_map, hj]
    rfl
theorem st_app_str {ops : Array Oper} {o : Oper} {a : Act} {K : Act → World → Prop} {Q : Exit → Act → World → Prop} {E : Prop} (w : World) (hgd : o.guard = none) (s x : Operand)
    (ho : o.op = .call { callee := .builtin .append, args := #[s, x], argTypes := #[24, 24] })
    (B : Nat) (v : Value) (l : List ByteArray) (y : ByteArray) (W : World) (g0 : Nat) (hs : a.eval s = v) (hx : a.eval x = .slice (some ⟨g0, 0, none⟩) 1 1)
    (hown : Ost B w v l) (hnew : w.heap[g0]? = some (.cells #[.string y] 9)) (hbel : Below B W w) (hB : B ≤ w.heap.size) (hl : l.length ≤ 1000000)
    (h : ∀ v' w', Ost B w' v' (l ++ [y]) → Below B W w' → w.grownBy w' v.ownBlock → K (a.put o.dst v') w') :
    if Region.wanted o (yielded ops a.tmps) = true then Oper.wp Tryz.prog o a w K Q else E := by
  obtain ⟨i0, hi, hz0, hz1, hz2⟩ := info_parts info_str
  refine step_append_lies w hgd s x 24 ho B 9 i0 (.string ⟨#[]⟩) 1 16 Tryz.underlying24 hi hz0 hz1 hz2 rfl (by decide) v l.length (l.map Value.string) hs hown ⟨g0, 0, none⟩ 1 1 [.string y] hx rfl (World.news_of_block (cs := #[.string y]) hnew) (by intro u hu; simp at hu; subst hu; rfl) (by omega) (by unfold maxLen; omega) (by omega) hB w.heap.size rfl ?_
  intro g cap w' h1 h2 h3 h4
  refine h _ w' ?_ ?_ h2
  · unfold Ost
    rw [List.map_append, List.length_append, List.length_singleton]
    exact h1
  · exact hbel.grown h2 hB (fun k hk => (World.ownsRow.lt hown k hk).1)
/-- the text of the first m phases -/
def pBR (ll : List (List T3)) : Nat → ByteArray
  | 0 => ⟨#[]⟩
  | m + 1 => pBR ll m ++ (jB ((pg ll m).map tB) ++ ⟨#[10]⟩)
@[irreducible] def pBg (ll : List (List T3)) (m : Nat) : ByteArray := pBR ll m
theorem pB_zero (ll : List (List T3)) : pBg ll 0 = ⟨#[]⟩ := by unfold pBg; rfl
theorem pB_succ (ll : List (List T3)) (m : Nat) : pBg ll (m + 1) = pBg ll m ++ (jB ((pg ll m).map tB) ++ ⟨#[10]⟩) := by unfold pBg; rfl
def PrA (w : World) (ll : List (List T3)) (out i : Value) (wr : World) : Prop := ∃ m : Nat, m ≤ ll.length ∧ i = .int .i64 m ∧ out = .string (pBg ll m) ∧ Below w.heap.size w wr
def PrB (wo : World) (l : List T3) (ws i : Value) (wr : World) : Prop := ∃ j : Nat, j ≤ l.length ∧ i = .int .i64 j ∧ Ost wo.heap.size wr ws ((l.take j).map tB) ∧ Below wo.heap.size wo wr
theorem hq2 (w : World) (o p : Obj) : ((w.alloc o).alloc p).heap[w.heap.size + 1]? = some p := by
  have h := heap_alloc_new (w.alloc o) p
  rwa [show (w.alloc o).heap.size = w.heap.size + 1 by simp] at h
theorem hq2' (w : World) (o p : Obj) : ((w.alloc o).alloc p).heap[w.heap.size]? = some o := by
  rw [Below.heap_alloc _ _ _ (by simp)]; exact heap_alloc_new w o
theorem take_snoc_T (l : List T3) {j : Nat} (h : j < l.length) : (l.take (j + 1)).map tB = (l.take j).map tB ++ [tB (tg l j)] := by
  rw [List.take_succ_eq_append_getElem h, List.map_append, tg_lt h]; rfl
set_option maxHeartbeats 4000000 in
set_option maxRecDepth 100000 in
theorem print_small (ll : List (List T3)) (v : Value) (w : World) (h : RPs w v ll) (hs : ∀ i, i < ll.length → ∀ j, j < (pg ll i).length → (0 ≤ (tg (pg ll i) j).1 ∧ (tg (pg ll i) j).1 < 100) ∧ (0 ≤ (tg (pg ll i) j).2.1 ∧ (tg (pg ll i) j).2.1 < 100) ∧ (0 ≤ (tg (pg ll i) j).2.2 ∧ (tg (pg ll i) j).2.2 < 100))
    (hl : ∀ i, i < ll.length → (pg ll i).length ≤ 1000000 ∧ lB ((pg ll i).map tB) ≤ 140737488355328) (hz : ∀ m, m ≤ ll.length → (pBg ll m).size ≤ 140737488355328) :
    Calls Tryz.prog 100 #[v] w fun e w' => e = .returned (.string (pBg ll ll.length)) ∧ Below w.heap.size w w' := by
  obtain ⟨a, cap, b, off, rfl, hcap, hm, hx, hc⟩ := h
  have HC := Lib.hid hc
  have HS := Lib.hid hs
  have HL := Lib.hid hl
  have HZ := Lib.hid hz
  have P0 := Lib.hid (pB_zero ll)
  have PS := Lib.hid (fun m => (pB_succ ll m).symm)
  clear hc hs hl hz
  go_enter Tryz.func100, Tryz.ntmps100
  go_wp2
  go_loopw [3, 5, 6, 8, 11] (fun out _ _ _ i wr => PrA w ll out i wr) (fun _ _ _ _ i _ => ll.length - (intOf i).toNat)
  case atStart => exact ⟨0, by omega, rfl, by rw [P0.out], Below.refl _ _⟩
  case round =>
    obtain ⟨m, hm1, rfl, rfl, hbel⟩ := hrel
    have HB := Lib.hid hbel
    have hwsz := hbel.size
    clear hbel
    by_cases hml : m < ll.length
    · obtain rfl := hx.resolve_left (by omega)
      obtain ⟨u, hcu, hru, _⟩ := HC.out m hml
      have cu : wr.cell? ⟨b, off + m, none⟩ = some u := cell_below HB.out hcu
      have RU := Lib.hid (hru.below HB.out)
      obtain ⟨ua, uc, ub, uo, rfl, hu1, hu2, hu3, hu4⟩ := RU.out
      have UC := Lib.hid hu4
      have HSm := Lib.hid (HS.out m hml)
      have HLm := HL.out m hml
      have PSm := Lib.hid (PS.out m)
      obtain ⟨l, hle⟩ : ∃ l, l = pg ll m := ⟨_, rfl⟩
      rw [← hle] at hu1 hu3 UC HSm HLm PSm cu
      obtain ⟨hl1, hl2⟩ := HLm
      clear hcu hru RU hu4
      clear hle
      obtain ⟨wo, hwo⟩ : ∃ wo : World, wo = wr := ⟨_, rfl⟩
      subst hwo
      go_wp2
      go_loopw [6, 8, 17] (fun ws _ i wi => PrB wo l ws i wi) (fun _ _ i _ => l.length - (intOf i).toNat)
      case atStart => exact ⟨0, by omega, rfl, Ost.nil _ _, Below.refl _ _⟩
      case round =>
        obtain ⟨j, hj, rfl, hos, hb⟩ := hrel
        have OO := Lib.hid hos
        have B3 := Lib.hid hb
        have hs3 := hb.size
        clear hos hb
        by_cases hjl : j < l.length
        · obtain rfl := hu3.resolve_left (by omega)
          obtain ⟨c0, c1, c2⟩ := UC.out j hjl
          have c0 := cell_below B3.out c0
          have c1 := cell_below B3.out c1
          have c2 := cell_below B3.out c2
          obtain ⟨⟨b0, b1⟩, ⟨b2, b3⟩, ⟨b4, b5⟩⟩ := HSm.out j hjl
          have TS := Lib.hid (take_snoc_T l hjl)
          have TE := Lib.hid (tB_eq (tg l j))
          have LX := Lib.hid (show ((l.take j).map tB).length ≤ 1000000 by rw [List.length_map, List.length_take]; omega)
          generalize tB (tg l j) = tb at *
          generalize (tg l j).1 = x0 at *
          generalize (tg l j).2.1 = x1 at *
          generalize (tg l j).2.2 = x2 at *
          have z0 := dB_size x0 b0 b1
          have z1 := dB_size x1 b2 b3
          have z2 := dB_size x2 b4 b5
          have IT0 := Lib.hid (fun w => itoa_anyG x0 w b0 b1)
          have IT1 := Lib.hid (fun w => itoa_anyG x1 w b2 b3)
          have IT2 := Lib.hid (fun w => itoa_anyG x2 w b4 b5)
          generalize dBg x0 = s0 at *
          generalize dBg x1 = s1 at *
          generalize dBg x2 = s2 at *
          have f1 : ¬ 9223372036854775807 < s0.size + 1 := by omega
          have f2 : ¬ 9223372036854775807 < s0.size + 1 + s1.size := by omega
          have f3 : ¬ 9223372036854775807 < s0.size + 1 + s1.size + 1 := by omega
          have f4 : ¬ 9223372036854775807 < s0.size + 1 + s1.size + 1 + s2.size := by omega
          clear hu1
          go_wp2
          have FX := Lib.hid (show ∀ n, some (wr.heap.size + n) ≠ u6.ownBlock from fun n e => by have := (Ost.lt OO.out _ e.symm).2; omega)
          go_region_held3 (fun w' => w'.cell? ⟨wr.heap.size, 0, none⟩ = some (.int .i64 x0) ∧ w'.cell? ⟨wr.heap.size, 1, none⟩ = some (.int .i64 x1) ∧ w'.cell? ⟨wr.heap.size, 2, none⟩ = some (.int .i64 x2))
            (first | go_keep | (go_split_ands; refine ⟨?_, ?_, ?_⟩ <;> (rw [G1.cell_far _ (by simp <;> omega) (FX.out 0)]; assumption)))
            (first | (go_at_call 59; refine (IT0.out _).mono ?_; rintro e w' ⟨rfl, rfl⟩) | (go_at_call 59; refine (IT1.out _).mono ?_; rintro e w' ⟨rfl, rfl⟩) | (go_at_call 59; refine (IT2.out _).mono ?_; rintro e w' ⟨rfl, rfl⟩) | (refine st_app_str _ (by rfl) (.tmp 21) (.tmp 35) (by rfl) wo.heap.size u6 ((l.take j).map tB) (s0 ++ ⟨#[58]⟩ ++ s1 ++ ⟨#[45]⟩ ++ s2) wo _ (by rfl) (by rfl) (Ost.below OO.out (by repeat (first | exact Below.refl _ _ | refine Below.drew ?_ | refine Below.alloc ?_ (by first | exact Nat.le_refl _ | (simp; done) | (simp; omega)) _))) (by first | exact heap_alloc_new _ _ | exact hq2 _ _ _ | exact hq2' _ _ _) (by repeat (first | exact B3.out | refine Below.drew ?_ | refine Below.alloc ?_ (by first | omega | (simp; omega)) _)) (by simp; omega) LX.out ?_; intro v1 w1 O1 B1 G1))
          all_goals
            (rw [TE.out, ← TS.out] at O1
             have O1h := Lib.hid O1
             have B1h := Lib.hid B1
             clear O1 B1 G1
             go_wp2
             go_roundw
             case rel => exact ⟨j + 1, by omega, by go_num, O1h.out, B1h.out⟩
             case measure => simp [intOf] <;> omega)
        · obtain rfl : l.length = j := by omega
          rw [List.take_length] at OO
          have CJ := Lib.hid (join_own _ _ _ wr OO.out (by rw [List.length_map]; exact hl1) hl2)
          go_wp2_with fail
          refine CJ.out.mono ?_
          rintro e w6 ⟨rfl, hb6⟩
          have B6 := Lib.hid (HB.out.trans ((B3.out.trans (hb6.mono hs3)).mono hwsz))
          have q1 := jB_size (l.map tB)
          have q2 := HZ.out m (by omega)
          have PSm2 := Lib.hid PSm.out
          generalize jB (l.map tB) = jt at *
          generalize pBg ll m = pt at *
          have f1 : ¬ 9223372036854775807 < jt.size + 1 := by omega
          have f2 : ¬ 9223372036854775807 < pt.size + (jt.size + 1) := by omega
          clear hb6 CJ
          go_wp2
          go_roundw
          case rel => exact ⟨m + 1, by omega, by go_num, by rw [← PSm.out], B6.out⟩
          case measure => simp [intOf] <;> omega
    · obtain rfl : ll.length = m := by omega
      go_wp2
      go_ret
      exact ⟨rfl, HB.out⟩
end Go.Proofs.YtdhmmllpldjkbaaGreatDoor.Gm
/- (Mw) -/
namespace Go.Proofs.YtdhmmllpldjkbaaGreatDoor.Gm
open Go.RowKit
set_option linter.unusedVariables false
/-- a call's end: phases of its own, an error's number -/
def RetPE (w : World) (ll : List (List T3)) (n : Int) (e : Ending) (w' : World) : Prop := ∃ v, e = .returned (.tuple #[v, .int .i64 n]) ∧ OP w.heap.size w' v ll ∧ Below w.heap.size w w'
theorem make_bad (zs : List Int) (z : Int) (v : Value) (w : World) (n : Int) (h : Rd .i64 w v zs) (hw : W64 zs) (hn : n = 1 ∧ Bad zs ∨ n = 2 ∧ Big zs) :
    Calls Tryz.prog 99 #[v, .int .i64 z] w (RetPE w [] n) := by
  have HR := Lib.hid h
  have HN := Lib.hid hn
  have hn0 : (n == 0) = false := by rcases hn with ⟨rfl, _⟩ | ⟨rfl, _⟩ <;> rfl
  clear h hn
  go_enter Tryz.func99, Tryz.ntmps99
  go_wp2_with fail
  refine (mcheck_any _ _ _ HR.out hw).mono ?_
  rintro e w' ⟨he, rfl⟩
  have he : e = .returned (.tuple #[.int .i64 0, .int .i64 n]) := by
    rcases HN.out with ⟨rfl, hb⟩ | ⟨rfl, hb⟩
    · exact he.bad hb
    · exact he.big hb
  subst he
  go_wp2
  go_ret2
  exact ⟨_, rfl, OP.nil _ _, Below.refl _ _⟩
theorem make_cut (ds : List Nat) (z : Int) (v : Value) (w : World) (h : Rd .i64 w v (zi ds)) (hw : W64 (zi ds)) (hs : Shp ds) (hz : z < 1) :
    Calls Tryz.prog 99 #[v, .int .i64 z] w (RetPE w [] 1) := by
  have HR := Lib.hid h
  have HS := Lib.hid hs
  clear h hs
  go_enter Tryz.func99, Tryz.ntmps99
  go_wp2_with fail
  refine (mcheck_any _ _ _ HR.out hw).mono ?_
  rintro e w' ⟨he, rfl⟩
  obtain rfl := he.ok HS.out
  go_wp2
  go_ret2
  exact ⟨_, rfl, OP.nil _ _, Below.refl _ _⟩
def MkA (w : World) (ds : List Nat) (cut : Int) (N : Nat) (out i : Value) (wr : World) : Prop :=
  ∃ m : Nat, m ≤ N ∧ i = .int .i64 m ∧ OP w.heap.size wr out (phs ds cut m) ∧ (∀ x, x < m → cntT (lnX ds x) (cutX ds cut x) ≤ 64) ∧ Below w.heap.size w wr
def MkB (wo : World) (x lines c : Nat) (p i : Value) (wr : World) : Prop :=
  ∃ j : Nat, j ≤ cntT lines c ∧ i = .int .i64 (posT lines c j : Nat) ∧ Ot wo.heap.size wr p (mkT x lines c j) ∧ Below wo.heap.size wo wr
set_option maxHeartbeats 4000000 in
set_option maxRecDepth 100000 in
theorem make_any (ds : List Nat) (cut : Int) (v : Value) (w : World) (h : Rd .i64 w v (zi ds)) (hw : W64 (zi ds)) (hs : Shp ds) (hc : 1 ≤ cut) (hc2 : cut ≤ 9223372036854775807) :
    Calls Tryz.prog 99 #[v, .int .i64 cut] w (fun e w' => ((∀ x, x < ds.length → cntT (lnX ds x) (cutX ds cut x) ≤ 64) ∧ RetPE w (phs ds cut ds.length) 0 e w') ∨ ((∃ x, x < ds.length ∧ 64 < cntT (lnX ds x) (cutX ds cut x)) ∧ RetPE w [] 2 e w')) := by
  have HR := Lib.hid h
  have HS := Lib.hid hs
  have hN3 := hs.len3
  have hN1 := hs.len0
  have hn2 := hs.le
  obtain ⟨a, cap, b, off, rfl, hcap, hm, hx, hcx⟩ := h.opened
  have LZ := Lib.hid (zi_len ds)
  rw [LZ.out] at hcap hx hcx HR ⊢
  obtain rfl := hx.resolve_left (by omega)
  have SC := Lib.hid (show ∀ x, x < ds.length → w.cell? ⟨b, off + x, none⟩ = some (.int .i64 (nd ds x : Int)) from fun x hx => by rw [hcx x hx, gd_zi])
  have DD := Lib.hid (show ∀ x, x < ds.length → 1 ≤ nd ds x ∧ nd ds x ≤ 1024 from fun x hx => ⟨hs.nd1 hx, hs.ndle hx⟩)
  have LNP := Lib.hid (fun x (hx : x < ds.length) => lnX_pos hs hx)
  have LNL := Lib.hid (fun x => lnX_le hs x)
  have LNE := Lib.hid (fun x => show pr ds / nd ds x = lnX ds x from rfl)
  have CUP := Lib.hid (fun x (hx : x < ds.length) => cutX_pos hs hc hx)
  have CUL := Lib.hid (fun x => cutX_le (ds := ds) hc x)
  have CUE := Lib.hid (fun x => show (min cut (lnX ds x : Int)).toNat = cutX ds cut x from rfl)
  have PZ := Lib.hid (phs_zero ds cut)
  have PS := Lib.hid (fun m => (phs_succ ds cut m).symm)
  have PL := Lib.hid (fun m => phs_len ds cut m)
  have PT := Lib.hid (fun x => show mkT x (lnX ds x) (cutX ds cut x) (cntT (lnX ds x) (cutX ds cut x)) = phT ds cut x by unfold phT; rfl)
  obtain ⟨N, hN⟩ : ∃ N, N = ds.length := ⟨_, rfl⟩
  rw [← hN] at hN1 hN3 hcap HR SC DD LNP CUP ⊢
  obtain ⟨n, hn⟩ : ∃ n, n = pr ds := ⟨_, rfl⟩
  have HNN := Lib.hid hn
  rw [← hn] at hn2 LNE
  clear h hs hcx hx hN hn LZ
  go_enter Tryz.func99, Tryz.ntmps99
  go_wp2_with fail
  refine (mcheck_any _ _ _ HR.out hw).mono ?_
  rintro e w' ⟨he, rfl⟩
  obtain rfl := he.ok HS.out
  rw [← HNN.out]
  go_wp2
  go_loopw [8, 9, 10, 11, 12, 13, 14, 27] (fun out _ _ _ _ _ _ i wr => MkA w ds cut N out i wr) (fun _ _ _ _ _ _ _ i _ => N - (intOf i).toNat)
  case atStart => exact ⟨0, by omega, rfl, by rw [PZ.out]; exact OP.nil _ _, fun x hx => absurd hx (by omega), Below.refl _ _⟩
  case round =>
    obtain ⟨x, hx1, rfl, hop, hall, hbel⟩ := hrel
    have OO := Lib.hid hop
    have HA := Lib.hid hall
    have HB := Lib.hid hbel
    have hwsz := hbel.size
    clear hop hall hbel
    by_cases hxl : x < N
    · obtain ⟨wo, hwo⟩ : ∃ wo : World, wo = wr := ⟨_, rfl⟩
      subst hwo
      have c3 : wo.cell? ⟨b, off + x, none⟩ = some (.int .i64 (nd ds x : Int)) := cell_below HB.out (SC.out x hxl)
      obtain ⟨d1, d2⟩ := DD.out x hxl
      have l1 := LNP.out x hxl
      have l2 := LNL.out x
      have u1 := CUP.out x hxl
      have u2 := CUL.out x
      have u3 := Lib.hid (CUE.out x)
      have le := LNE.out x
      have PTx := Lib.hid (PT.out x)
      have LC := Lib.hid (show ∀ j, j < cntT (lnX ds x) (cutX ds cut x) ↔ j * cutX ds cut x < lnX ds x from fun j => lt_cntT l1 u1)
      have JL := Lib.hid (cntT_le l1 u1)
      have HJ := Lib.hid (show cntT (lnX ds x) (cutX ds cut x) ≤ 64 → ∀ y, y < x + 1 → cntT (lnX ds y) (cutX ds cut y) ≤ 64 from fun h y hy => by
        by_cases e : y = x
        · subst e; exact h
        · exact HA.out y (by omega))
      have HX := Lib.hid (show 64 < cntT (lnX ds x) (cutX ds cut x) → ∃ y, y < N ∧ 64 < cntT (lnX ds y) (cutX ds cut y) from fun h => ⟨x, hxl, h⟩)
      generalize nd ds x = d at *
      generalize lnX ds x = lines at *
      generalize cutX ds cut x = c at *
      have hd0 : ¬ d = 0 := by omega
      have e1 := nat_quo n d
      rw [le] at e1
      have e2 : IntKind.i64.wrap (lines : Int) = (lines : Int) := wrap_nat (by omega)
      clear le
      go_wp2
      go_loopw [12, 13, 14] (fun p i _ wi => MkB wo x lines c p i wi) (fun _ i _ _ => lines - (intOf i).toNat)
      case atStart => exact ⟨0, by omega, by simp [posT], by rw [mkT_zero]; exact Ot.nil _ _, Below.refl _ _⟩
      case round =>
        obtain ⟨j, hj, rfl, hot, hb⟩ := hrel
        have OT := Lib.hid hot
        have B3 := Lib.hid hb
        have hs3 := hb.size
        clear hot hb
        by_cases hjl : j < cntT lines c
        · have hjc := (LC.out j).1 hjl
          have hp : posT lines c j = j * c := by unfold posT; exact Nat.min_eq_left (Nat.le_of_lt hjc)
          rw [hp]
          have MS := Lib.hid (mkT_succ x lines c j)
          have ML := Lib.hid (mkT_len x lines c j)
          have hp2 : posT lines c (j + 1) = min ((j + 1) * c) lines := rfl
          have HP2 := Lib.hid hp2
          have ej : (j + 1) * c = j * c + c := by rw [Nat.add_mul, Nat.one_mul]
          have EJ := Lib.hid ej
          have hcut : cut < (lines : Int) - ((j * c : Nat) : Int) ↔ c < lines - j * c := by
            have h := cut_iff (lines := lines) hc (j * c) (Nat.le_of_lt hjc)
            rw [u3.out] at h
            exact h
          have hsame : cut < (lines : Int) - ((j * c : Nat) : Int) → cut = (c : Int) := fun h => by
            have h2 := cut_same hc h
            rw [u3.out] at h2
            exact h2
          have HSAME := Lib.hid hsame
          have e4 : IntKind.i64.wrap ((lines : Int) - ((j * c : Nat) : Int)) = (lines : Int) - ((j * c : Nat) : Int) := IntWalk.i64_in _ (by omega)
          have JB := JL.out
          clear hp hp2 ej hsame
          generalize j * c = q at *
          by_cases hcl : c < lines - q
          · have hct := hcut.2 hcl
            have hce := HSAME.out hct
            have e5 : IntKind.i64.wrap ((q : Int) + (c : Int)) = ((q + c : Nat) : Int) := by rw [show (q : Int) + (c : Int) = ((q + c : Nat) : Int) by omega]; exact wrap_nat (by omega)
            have HMIN := Lib.hid (show min (q + c) lines = q + c by omega)
            rw [hce]
            rw [hce] at hct
            clear hcut HSAME
            obtain ⟨t, ht'⟩ : ∃ t, t = q + c := ⟨_, rfl⟩
            have htq : q < t := by omega
            rw [← ht'] at e5 HMIN EJ
            clear ht'
            go_wp2_with (at_builtin; refine wl_appT 106 Tryz.underlying106 _ rfl (.tmp 47) (.tmp 52) rfl wo.heap.size _ (mkT x lines c j) (x : Int) (q : Int) (t : Int) rfl rfl OT.out hs3 (by rw [ML.out]; omega) ?_)
            intro v4 w4 ht ho _
            have T4 := Lib.hid ht
            have B4 := Lib.hid (B3.out.trans (ho.below hs3 (fun k hk => (Ot.lt OT.out k hk).1)))
            clear ht ho
            go_wp2
            go_roundw
            case rel => exact ⟨j + 1, hjl, by rw [HP2.out, EJ.out, HMIN.out], by rw [MS.out, EJ.out, HMIN.out]; exact T4.out, B4.out⟩
            case measure => simp [intOf] <;> omega
          · have hct : ¬ cut < (lines : Int) - (q : Int) := fun h => hcl (hcut.1 h)
            have HMIN := Lib.hid (show min (q + c) lines = lines by omega)
            have hct2 : (lines : Int) - (q : Int) ≤ cut := by omega
            have hct3 : decide (cut < (lines : Int) - (q : Int)) = false := decide_eq_false hct
            clear hcut HSAME
            obtain ⟨t, ht'⟩ : ∃ t, t = q + c := ⟨_, rfl⟩
            rw [← ht'] at HMIN EJ
            clear ht'
            go_wp2_with (at_builtin; refine wl_appT 106 Tryz.underlying106 _ rfl (.tmp 47) (.tmp 52) rfl wo.heap.size _ (mkT x lines c j) (x : Int) (q : Int) (lines : Int) rfl rfl OT.out hs3 (by rw [ML.out]; omega) ?_)
            intro v4 w4 ht ho _
            have T4 := Lib.hid ht
            have B4 := Lib.hid (B3.out.trans (ho.below hs3 (fun k hk => (Ot.lt OT.out k hk).1)))
            clear ht ho
            go_wp2
            go_roundw
            case rel => exact ⟨j + 1, hjl, by rw [HP2.out, EJ.out, HMIN.out], by rw [MS.out, EJ.out, HMIN.out]; exact T4.out, B4.out⟩
            case measure => simp [intOf] <;> omega
        · obtain rfl : cntT lines c = j := by omega
          have hpe : posT lines c (cntT lines c) = lines := by
            have h1 : ¬ cntT lines c * c < lines := fun h => absurd ((LC.out _).2 h) (by omega)
            unfold posT; exact Nat.min_eq_right (Nat.le_of_not_lt h1)
          rw [hpe]
          rw [PTx.out] at OT
          have PHL := Lib.hid (show (phT ds cut x).length = cntT lines c by rw [← PTx.out, mkT_len])
          have JB := JL.out
          have OO5 := Lib.hid (OO.out.below B3.out)
          have B5 := Lib.hid (HB.out.trans (B3.out.mono hwsz))
          have hs5 := B5.out.size
          obtain ⟨ga, gc, hsh, hg1, hg2, _⟩ := OT.out.shape
          rw [PHL.out] at hsh hg1
          subst hsh
          clear hpe LC JL PTx B3
          generalize cntT lines c = J at *
          by_cases hJ : J ≤ 64
          · have OP5 := Lib.hid (OT.out.mono hwsz)
            have HA2 := Lib.hid (HJ.out hJ)
            have PSx := Lib.hid (PS.out x)
            have PLx := Lib.hid (PL.out x)
            go_wp2_with (at_builtin; refine wl_appP _ rfl (.tmp 58) (.tmp 60) rfl w.heap.size _ (phs ds cut x) _ (phT ds cut x) w rfl rfl OO5.out OP5.out B5.out hs5 (by rw [PLx.out]; omega) ?_)
            intro v6 w6 hop hb6
            rw [PSx.out] at hop
            have O6 := Lib.hid hop
            have B6 := Lib.hid hb6
            clear hop hb6
            go_wp2
            go_roundw
            case rel => exact ⟨x + 1, by omega, by go_num, O6.out, HA2.out, B6.out⟩
            case measure => simp [intOf] <;> omega
          · have HX2 := Lib.hid (HX.out (by omega))
            have hJ2 : (64 : Int) < (J : Int) := by omega
            go_wp2
            go_ret2
            exact .inr ⟨HX2.out, _, rfl, OP.nil _ _, B5.out⟩
    · obtain rfl : N = x := by omega
      go_wp2
      go_ret2
      exact .inl ⟨HA.out, _, rfl, OO.out, HB.out⟩
end Go.Proofs.YtdhmmllpldjkbaaGreatDoor.Gm
/- (Pwl) -/
namespace Go.Proofs.YtdhmmllpldjkbaaGreatDoor.Gm
open Go.RowKit
set_option linter.unusedVariables false
theorem shp_42 : Shp [4, 2] := ⟨by decide, by decide, fun d hd => by
  simp at hd
  rcases hd with rfl | rfl
  · exact ⟨2, rfl⟩
  · exact ⟨1, rfl⟩, by decide⟩
theorem w42 : W64 (zi [4, 2]) := by
  intro a ha
  have h : a = 4 ∨ a = 2 := by simpa [zi] using ha
  rcases h with rfl | rfl <;> decide
theorem phs_42 : phs [4, 2] 3 2 = [[(0, 0, 2)], [(1, 0, 3), (1, 3, 4)]] := by kernel_rfl
theorem pw_make (v : Value) (w : World) (h : Rd .i64 w v [4, 2]) : Calls Tryz.prog 99 #[v, .int .i64 3] w (RetPE w [[(0, 0, 2)], [(1, 0, 3), (1, 3, 4)]] 0) := by
  refine (make_any [4, 2] 3 v w h w42 shp_42 (by decide) (by decide)).mono ?_
  rintro e w' (⟨_, he⟩ | ⟨⟨x, hx, h64⟩, _⟩)
  · rw [show ([4, 2] : List Nat).length = 2 from rfl, phs_42] at he
    exact he
  · have h1 := cntT_le (lnX_pos shp_42 hx) (cutX_pos shp_42 (cut := 3) (by decide) hx)
    have h2 : lnX [4, 2] x ≤ 8 := Nat.div_le_self _ _
    omega
theorem dB_lt (n : Nat) (h : n < 10) : dBg (n : Int) = ⟨#[UInt8.ofNat (48 + n)]⟩ := by
  unfold dBg
  rw [Int.toNat_natCast, Lib.decDigits, dif_pos h]
theorem pB_42 : pBg [[(0, 0, 2)], [(1, 0, 3), (1, 3, 4)]] 2 = ⟨#[48, 58, 48, 45, 50, 10, 49, 58, 48, 45, 51, 32, 49, 58, 51, 45, 52, 10]⟩ := by
  have d0 : dBg 0 = ⟨#[48]⟩ := dB_lt 0 (by omega)
  have d1 : dBg 1 = ⟨#[49]⟩ := dB_lt 1 (by omega)
  have d2 : dBg 2 = ⟨#[50]⟩ := dB_lt 2 (by omega)
  have d3 : dBg 3 = ⟨#[51]⟩ := dB_lt 3 (by omega)
  have d4 : dBg 4 = ⟨#[52]⟩ := dB_lt 4 (by omega)
  have t0 : tB (0, 0, 2) = ⟨#[48, 58, 48, 45, 50]⟩ := by rw [← tB_eq]; simp only [d0, d2]; kernel_rfl
  have t1 : tB (1, 0, 3) = ⟨#[49, 58, 48, 45, 51]⟩ := by rw [← tB_eq]; simp only [d0, d1, d3]; kernel_rfl
  have t2 : tB (1, 3, 4) = ⟨#[49, 58, 51, 45, 52]⟩ := by rw [← tB_eq]; simp only [d1, d3, d4]; kernel_rfl
  have p0 : pg [[(0, 0, 2)], [(1, 0, 3), (1, 3, 4)]] 0 = [(0, 0, 2)] := by kernel_rfl
  have p1 : pg [[(0, 0, 2)], [(1, 0, 3), (1, 3, 4)]] 1 = [(1, 0, 3), (1, 3, 4)] := by kernel_rfl
  rw [show (2 : Nat) = 1 + 1 from rfl, pB_succ, show (1 : Nat) = 0 + 1 from rfl, pB_succ, pB_zero, p0, p1, List.map_cons, List.map_cons, List.map_cons, List.map_nil, t0, t1, t2]
  show _ = (⟨#[48, 58, 48, 45, 50, 10, 49, 58, 48, 45, 51, 32, 49, 58, 51, 45, 52, 10]⟩ : ByteArray)
  kernel_rfl
theorem pB_421 : pBg [[(0, 0, 2)], [(1, 0, 3), (1, 3, 4)]] 1 = ⟨#[48, 58, 48, 45, 50, 10]⟩ := by
  have d0 : dBg 0 = ⟨#[48]⟩ := dB_lt 0 (by omega)
  have d2 : dBg 2 = ⟨#[50]⟩ := dB_lt 2 (by omega)
  have t0 : tB (0, 0, 2) = ⟨#[48, 58, 48, 45, 50]⟩ := by rw [← tB_eq]; simp only [d0, d2]; kernel_rfl
  have p0 : pg [[(0, 0, 2)], [(1, 0, 3), (1, 3, 4)]] 0 = [(0, 0, 2)] := by kernel_rfl
  rw [show (1 : Nat) = 0 + 1 from rfl, pB_succ, pB_zero, p0, List.map_cons, List.map_nil, t0]
  show _ = (⟨#[48, 58, 48, 45, 50, 10]⟩ : ByteArray)
  kernel_rfl
theorem pw_print {B : Nat} (v : Value) (w : World) (h : OP B w v [[(0, 0, 2)], [(1, 0, 3), (1, 3, 4)]]) : Calls Tryz.prog 100 #[v] w fun e w' => e = .returned (.string ⟨#[48, 58, 48, 45, 50, 10, 49, 58, 48, 45, 51, 32, 49, 58, 51, 45, 52, 10]⟩) ∧ Below w.heap.size w w' := by
  have p0 : pg [[(0, 0, 2)], [(1, 0, 3), (1, 3, 4)]] 0 = [(0, 0, 2)] := by kernel_rfl
  have p1 : pg [[(0, 0, 2)], [(1, 0, 3), (1, 3, 4)]] 1 = [(1, 0, 3), (1, 3, 4)] := by kernel_rfl
  have h2 := print_small [[(0, 0, 2)], [(1, 0, 3), (1, 3, 4)]] v w h.rps ?_ ?_ ?_
  · rw [show ([[(0, 0, 2)], [(1, 0, 3), (1, 3, 4)]] : List (List T3)).length = 2 from rfl, pB_42] at h2
    exact h2
  · intro i hi j hj
    have hi : i < 2 := hi
    obtain rfl | rfl : i = 0 ∨ i = 1 := by omega
    · rw [p0] at hj ⊢
      have hj : j < 1 := hj
      obtain rfl : j = 0 := by omega
      rw [tg_lt (by decide)]; decide
    · rw [p1] at hj ⊢
      have hj : j < 2 := hj
      obtain rfl | rfl : j = 0 ∨ j = 1 := by omega
      · rw [tg_lt (by decide)]; decide
      · rw [tg_lt (by decide)]; decide
  · intro i hi
    have hi : i < 2 := hi
    obtain rfl | rfl : i = 0 ∨ i = 1 := by omega
    · rw [p0]
      refine ⟨by simp, ?_⟩
      have t0 := jB_size ([(0, 0, 2)].map tB)
      rw [← t0]
      have := pB_421
      rw [show (1 : Nat) = 0 + 1 from rfl, pB_succ, pB_zero, p0] at this
      have hs := congrArg ByteArray.size this
      rw [ByteArray.size_append, ByteArray.size_append] at hs
      have e : (⟨#[48, 58, 48, 45, 50, 10]⟩ : ByteArray).size = 6 := rfl
      omega
    · rw [p1]
      refine ⟨by simp, ?_⟩
      have t0 := jB_size ([(1, 0, 3), (1, 3, 4)].map tB)
      rw [← t0]
      have := pB_42
      rw [show (2 : Nat) = 1 + 1 from rfl, pB_succ, p1] at this
      have hs := congrArg ByteArray.size this
      rw [ByteArray.size_append, ByteArray.size_append] at hs
      have e : (⟨#[48, 58, 48, 45, 50, 10, 49, 58, 48, 45, 51, 32, 49, 58, 51, 45, 52, 10]⟩ : ByteArray).size = 18 := rfl
      omega
  · intro m hm
    have hm : m ≤ 2 := hm
    obtain rfl | rfl | rfl : m = 0 ∨ m = 1 ∨ m = 2 := by omega
    · rw [pB_zero]; decide
    · rw [pB_421]; decide
    · rw [pB_42]; decide
end Go.Proofs.YtdhmmllpldjkbaaGreatDoor.Gm
/- (Dp) -/
namespace Go.Proofs.YtdhmmllpldjkbaaGreatDoor.Gm
open Go.RowKit
set_option linter.unusedVariables false
theorem setCs_size : ∀ (vs : List Value) (cs : Array Value) (o : Nat), (setCs cs o vs).size = cs.size
  | [], _, _ => rfl
  | v :: r, cs, o => by rw [setCs, setCs_size r]; simp
theorem setCs_get : ∀ (vs : List Value) (cs : Array Value) (o t : Nat), o + vs.length ≤ cs.size → (setCs cs o vs)[t]? = if o ≤ t ∧ t < o + vs.length then vs[t - o]? else cs[t]?
  | [], cs, o, t, _ => by rw [if_neg (by intro h; have := h.2; simp only [List.length_nil] at this; omega)]; rfl
  | v :: r, cs, o, t, h => by
    have h' : o + 1 + r.length ≤ cs.size := by simp only [List.length_cons] at h; omega
    rw [setCs, setCs_get r _ (o + 1) t (by simpa using h')]
    simp only [List.length_cons]
    by_cases h1 : o + 1 ≤ t ∧ t < o + 1 + r.length
    · rw [if_pos h1, if_pos (by omega)]
      obtain ⟨s, rfl⟩ : ∃ s, t = o + 1 + s := ⟨t - (o + 1), by omega⟩
      rw [show o + 1 + s - o = s + 1 by omega, show o + 1 + s - (o + 1) = s by omega]
      rfl
    · rw [if_neg h1, Array.getElem?_setIfInBounds]
      by_cases h2 : o = t
      · subst h2
        rw [if_pos rfl, if_pos (by omega), if_pos (by omega)]
        simp
      · rw [if_neg h2, if_neg (by omega)]
theorem zero_task (w : World) : (zeroValue 108).run Tryz.prog w = .ok (.agg #[.int .i64 0, .int .i64 0, .int .i64 0]) w := Tryz.zeroValue108 w
theorem run_clear_task (w : World) (ty : TypeId) (g o c : Nat) (hc : ∀ j, j < 3 → (w.cell? ⟨g, o + j, none⟩).isSome = true) (hf : ∀ j, j < 3 → w.frozen? ⟨g, o + j, none⟩ = false) :
    (Builtin.clear_ #[106] ty #[.slice (some ⟨g, o, none⟩) 1 c]).run Tryz.prog w = .ok (.tuple #[]) (w.setCells g o [.int .i64 0, .int .i64 0, .int .i64 0]) := by
  have hzc : (Builtin.zeroCells (Value.agg #[.int .i64 0, .int .i64 0, .int .i64 0]).cells 1).toList = [.int .i64 0, .int .i64 0, .int .i64 0] := by
    unfold Builtin.zeroCells
    simp [Value.cells, Array.range]
    try rfl
  have hst := run_storeCells_cells (P := Tryz.prog) g o [.int .i64 0, .int .i64 0, .int .i64 0] 0 w (by simpa using hc) (by simpa using hf) (by intro v hv'; simp at hv'; subst hv'; rfl)
  simp only [Nat.add_zero] at hst
  simp [Builtin.clear_, run_underlying Tryz.underlying106, hzc, hst]
end Go.Proofs.YtdhmmllpldjkbaaGreatDoor.Gm
