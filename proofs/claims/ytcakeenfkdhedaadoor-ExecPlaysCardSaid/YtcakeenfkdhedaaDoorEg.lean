/- Plain: rounds of picks end a run; slices of picks. -/
import Derived.Test.YtcakeenfkdhedaaDoorEr
namespace Go.Proofs.YtcakeenfkdhedaaDoor.Gm
open Go.RowKit
set_option linter.unusedVariables false
theorem stXP_cases {back : Bool} {ks : List Nat} {zs : List Int} {W : Nat} {ll : List (List T3)} {s : RS} (h : RI back ks zs W ll s) (p : Int × Int) : stXP back ks W ll s p = s ∨ remS ll (stXP back ks W ll s p) + 1 = remS ll s := by
  unfold stXP
  split
  · rename_i h1
    by_cases hq : 0 < (pg s.qs p.1.toNat).length ∨ (p.2.toNat ≠ p.1.toNat ∧ 0 < (pg s.qs p.2.toNat).length)
    · exact .inr ((rem_stX h h1.1 _ _).2 hq)
    · left
      unfold stX
      rw [if_neg (fun h => hq (.inl h)), if_neg (fun h => hq (.inr h))]
  · exact .inl rfl
theorem rem_le {back : Bool} {ks : List Nat} {zs : List Int} {W : Nat} {ll : List (List T3)} (hg : GL ks ll) (hzl : zs.length = pk ks) (hW : 1 ≤ W) (l : List (Int × Int)) : ∀ {s : RS}, RI back ks zs W ll s → remS ll (runP back ks W ll s l) ≤ remS ll s := by
  induction l with
  | nil => exact fun _ => Nat.le_refl _
  | cons p l ih =>
    intro s h
    have h1 := ih (stXP_inv hg hzl hW h p)
    have h2 := stXP_cases h p
    show remS ll (runP back ks W ll (stXP back ks W ll s p) l) ≤ _
    rcases h2 with h2 | h2
    · rw [h2] at h1 ⊢; exact h1
    · omega
theorem rem_lt {back : Bool} {ks : List Nat} {zs : List Int} {W : Nat} {ll : List (List T3)} (hg : GL ks ll) (hzl : zs.length = pk ks) (hW : 1 ≤ W) {a : Nat} (ha : a < W) {v : Int} (hv : 0 ≤ v ∧ v < W) (l : List (Int × Int)) : ∀ {s : RS}, RI back ks zs W ll s → s.ph < ll.length → 0 < (pg s.qs a).length → ((a : Int), v) ∈ l → remS ll (runP back ks W ll s l) + 1 ≤ remS ll s := by
  induction l with
  | nil => intro s _ _ _ hm; cases hm
  | cons p l ih =>
    intro s h hx hq hm
    have hi := stXP_inv hg hzl hW h p
    have h1 := rem_le hg hzl hW l hi
    show remS ll (runP back ks W ll (stXP back ks W ll s p) l) + 1 ≤ _
    rcases stXP_cases h p with h2 | h2
    · rcases List.mem_cons.1 hm with hm | hm
      · subst hm
        have h3 := (rem_stX h hx a v.toNat).2 (.inl hq)
        have e : stXP back ks W ll s ((a : Int), v) = stX back ks W ll s a v.toNat := by
          unfold stXP
          rw [if_pos ⟨hx, by show (0 : Int) ≤ a; omega, by show (a : Int) < W; omega, hv.1, hv.2⟩]
          simp
        rw [e] at h1 ⊢
        omega
      · rw [h2]
        exact ih h hx hq hm
    · omega
/-- a round: each worker goes on once -/
@[irreducible] def rnd (W : Nat) (k : Nat) : List (Int × Int) := (List.range k).map fun (i : Nat) => ((i : Int), (((i + 1) % W : Nat) : Int))
theorem rnd_zero (W : Nat) : rnd W 0 = [] := by unfold rnd; rfl
theorem rnd_succ (W k : Nat) : rnd W (k + 1) = rnd W k ++ [((k : Int), (((k + 1) % W : Nat) : Int))] := by unfold rnd; rw [List.range_succ, List.map_append]; rfl
theorem round_dec {back : Bool} {ks : List Nat} {zs : List Int} {W : Nat} {ll : List (List T3)} {s : RS} {n : Nat} (hg : GL ks ll) (hzl : zs.length = pk ks) (hW : 1 ≤ W) (h : RI back ks zs W ll s) (hn : remS ll s ≤ n + 1) : remS ll (runP back ks W ll s (rnd W W)) ≤ n := by
  by_cases hx : s.ph < ll.length
  · obtain ⟨i, hi, hq⟩ := some_q h hx
    have := rem_lt hg hzl hW hi (v := (((i + 1) % W : Nat) : Int)) ⟨by omega, by have := Nat.mod_lt (i + 1) (show 0 < W by omega); omega⟩ (rnd W W) h hx hq (by
      unfold rnd
      exact List.mem_map.2 ⟨i, List.mem_range.2 hi, rfl⟩)
    omega
  · have h0 := h.zero (by have := h.ph; omega)
    have := rem_le hg hzl hW (rnd W W) h
    have h1 : remS ll s = 0 := by unfold remS; rw [h0, List.drop_of_length_le (by omega)]; rfl
    omega
/-- pick i of a list -/
@[irreducible] def kp (l : List (Int × Int)) (i : Nat) : Int × Int := l.getD i (0, 0)
theorem kp_eq (l : List (Int × Int)) (i : Nat) : kp l i = l[i]?.getD (0, 0) := by unfold kp; rw [List.getD_eq_getElem?_getD]
theorem kp_lt {l : List (Int × Int)} {i : Nat} (h : i < l.length) : kp l i = l[i] := by rw [kp_eq, List.getElem?_eq_getElem h]; rfl
/-- a slice of picks reads as a list -/
def Rpi (w : World) (v : Value) (l : List (Int × Int)) : Prop :=
  ∃ a cap b off, v = .slice a l.length cap ∧ l.length ≤ cap ∧ cap ≤ 9223372036854775807 ∧ (l.length ≤ 0 ∨ a = some ⟨b, off, none⟩) ∧
    ∀ i, i < l.length → w.cell? ⟨b, off + i * 2, none⟩ = some (.int .i64 (kp l i).1) ∧ w.cell? ⟨b, off + i * 2 + 1, none⟩ = some (.int .i64 (kp l i).2)
theorem Rpi.below {w w' : World} {v : Value} {l : List (Int × Int)} (h : Rpi w v l) (hb : Below w.heap.size w w') : Rpi w' v l := by
  obtain ⟨a, cap, b, off, e, h1, h2, h3, hx⟩ := h
  refine ⟨a, cap, b, off, e, h1, h2, h3, fun i hi => ?_⟩
  obtain ⟨c0, c1⟩ := hx i hi
  exact ⟨(hb.cell (p := ⟨b, _, none⟩) (World.block_lt_of_cell? w _ c0)).trans c0, (hb.cell (p := ⟨b, _, none⟩) (World.block_lt_of_cell? w _ c1)).trans c1⟩
theorem take_kp {l : List (Int × Int)} {i : Nat} (h : i < l.length) : l.take (i + 1) = l.take i ++ [kp l i] := by
  rw [List.take_succ_eq_append_getElem h, kp_lt h]
theorem flat_take {ll : List (List T3)} {i : Nat} (h : i < ll.length) : (ll.take (i + 1)).flatten.length = (ll.take i).flatten.length + (pg ll i).length := by
  rw [List.take_succ_eq_append_getElem h, List.flatten_append, List.length_append, pg_lt h]; simp
theorem GL.flat {ks : List Nat} {ll : List (List T3)} (h : GL ks ll) (i : Nat) : (ll.take i).flatten.length ≤ 192 := by
  have h2 := flat_le (ll := ll.take i) (fun l hl => by
    obtain ⟨j, hj, rfl⟩ := List.getElem_of_mem (List.mem_of_mem_take hl)
    rw [← pg_lt hj]; exact h.le j hj)
  have h3 := h.shp.len3
  rw [szs_len, ← h.len] at h3
  rw [List.length_take] at h2
  omega
end Go.Proofs.YtcakeenfkdhedaaDoor.Gm
