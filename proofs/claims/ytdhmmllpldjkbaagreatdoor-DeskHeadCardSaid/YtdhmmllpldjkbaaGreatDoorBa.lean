/- big.Cmp, big.Add. -/
import Derived.Test.YtdhmmllpldjkbaaGreatDoorBt
namespace Go.Proofs.YtdhmmllpldjkbaaGreatDoor.Gm
open Go.RowKit
set_option linter.unusedVariables false
/-- which of two numbers is the greater one -/
@[irreducible] def sg (x y : Nat) : Int := if x < y then -1 else if x = y then 0 else 1
theorem sg_lt {x y : Nat} (h : x < y) : sg x y = -1 := by unfold sg; rw [if_pos h]
theorem sg_eq {x y : Nat} (h : x = y) : sg x y = 0 := by unfold sg; rw [if_neg (by omega), if_pos h]
theorem sg_gt {x y : Nat} (h : y < x) : sg x y = 1 := by unfold sg; rw [if_neg (by omega), if_neg (by omega)]
theorem wl_make_u64 {ops : Array Oper} {rest : List Oper} {o : Oper} {a : Act} {Q : Exit → Act → World → Prop} (w : World) (hgd : o.guard = none) (l c : Operand)
    (ho : o.op = Op.makeSlice 44 l c) (B : Nat) (L C : Int) (n : Nat) (W : World) (hl : a.eval l = .int .i64 L) (hc : a.eval c = .int .i64 C) (hL : L = (n : Int)) (hC : C = (n : Int))
    (hn : n ≤ 1000000) (hbel : Below B W w) (hB : B ≤ w.heap.size)
    (h : ∀ g w', Hid (g = w.heap.size) → Oz .u64 51 B w' (.slice (some ⟨g, 0, none⟩) n n) (List.replicate n 0) → Below B W w' → wpList Tryz.prog ops Q rest (a.put o.dst (.slice (some ⟨g, 0, none⟩) n n)) w') :
    wpList Tryz.prog ops Q (o :: rest) a w := by
  refine wl_makeV 51 44 (.int .u64 0) 8 Tryz.underlying44 info_u64 rfl (by decide) w hgd l c ho B L C n W hl hc hL hC hn hbel hB fun g w' h0 h1 h2 => h g w' h0 ?_ h2
  unfold Oz
  rw [List.length_replicate, List.map_replicate]
  exact h1
/-- a list told number by number -/
@[irreducible] def oL (g : Nat → Nat) (N : Nat) : List Nat := (List.range N).map g
theorem oL_len (g : Nat → Nat) (N : Nat) : (oL g N).length = N := by unfold oL; simp
theorem oL_at (g : Nat → Nat) {N k : Nat} (h : k < N) : (oL g N)[k]? = some (g k) := by unfold oL; rw [List.getElem?_map, List.getElem?_range h]; rfl
theorem oL_at0 (g : Nat → Nat) (N k : Nat) : at0 (oL g N) k = if k < N then g k else 0 := by
  split
  · rename_i h; unfold at0; rw [List.getD, oL_at g h]; rfl
  · rename_i h; exact at0_out (by rw [oL_len]; omega)
theorem oL_set (g g2 : Nat → Nat) (N i x : Nat) (h : i < N) (hi : g2 i = x) (ho : ∀ j, j < N → j ≠ i → g2 j = g j) : (nz (oL g N)).set i (x : Int) = nz (oL g2 N) := by
  unfold nz oL
  apply List.ext_getElem?
  intro j
  rw [List.getElem?_set, List.map_map, List.map_map, List.getElem?_map, List.getElem?_map]
  by_cases hij : i = j
  · subst hij
    rw [if_pos rfl, if_pos (by simpa using h), List.getElem?_range h]
    simp [hi]
  · rw [if_neg hij]
    by_cases hj : j < N
    · rw [List.getElem?_range hj]
      simp [ho j hj (fun e => hij e.symm)]
    · rw [List.getElem?_eq_none (by simpa using hj)]; rfl
theorem oL_gd (g : Nat → Nat) {N k : Nat} (h : k < N) : gd (nz (oL g N)) k = (g k : Int) := by
  rw [gd_eq]; unfold nz; rw [List.getElem?_map, oL_at g h]; rfl
theorem nz_gd {l : List Nat} {k : Nat} (h : k < l.length) : gd (nz l) k = (at0 l k : Int) := by
  rw [gd_eq]; unfold nz; rw [List.getElem?_map, List.getElem?_eq_getElem h, at0_lt h]; rfl
theorem rep_oL (N : Nat) : List.replicate N (0 : Int) = nz (oL (fun _ => 0) N) := by
  unfold nz oL
  rw [List.map_map]
  apply List.ext_getElem?
  intro j
  rw [List.getElem?_replicate, List.getElem?_map]
  by_cases h : j < N
  · rw [if_pos h, List.getElem?_range h]; rfl
  · rw [if_neg h, List.getElem?_eq_none (by simpa using h)]; rfl
end Go.Proofs.YtdhmmllpldjkbaaGreatDoor.Gm
