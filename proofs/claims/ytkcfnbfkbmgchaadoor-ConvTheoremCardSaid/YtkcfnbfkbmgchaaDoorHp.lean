/- Plain: shapes: places, strides. -/
import Derived.Test.YtkcfnbfkbmgchaaDoorAxes
namespace Go.Proofs.YtkcfnbfkbmgchaaDoor.Gm
/-- number i of a list of naturals -/
@[irreducible] def nd (l : List Nat) (i : Nat) : Nat := l.getD i 0
theorem nd_eq (l : List Nat) (i : Nat) : nd l i = l[i]?.getD 0 := by unfold nd; rw [List.getD_eq_getElem?_getD]
theorem nd_lt {l : List Nat} {i : Nat} (h : i < l.length) : nd l i = l[i] := by rw [nd_eq, List.getElem?_eq_getElem h]; rfl
theorem nd_zero (d : Nat) (l : List Nat) : nd (d :: l) 0 = d := by rw [nd_eq]; rfl
theorem nd_succ (d : Nat) (l : List Nat) (i : Nat) : nd (d :: l) (i + 1) = nd l i := by rw [nd_eq, nd_eq]; rfl
theorem nd_set (l : List Nat) (i j x : Nat) (hi : i < l.length) : nd (l.set i x) j = if i = j then x else nd l j := by
  rw [nd_eq, nd_eq, List.getElem?_set]
  split
  · rename_i h; subst h; simp
  · rfl
theorem nd_mem {l : List Nat} {i : Nat} (h : i < l.length) : nd l i ∈ l := by rw [nd_lt h]; exact List.getElem_mem h
/-- the product -/
def pr : List Nat → Nat
  | [] => 1
  | d :: l => d * pr l
theorem pr_append (l m : List Nat) : pr (l ++ m) = pr l * pr m := by
  induction l with
  | nil => simp [pr]
  | cons d l ih => simp only [List.cons_append, pr, ih, Nat.mul_assoc]
theorem pr_pos {l : List Nat} (h : ∀ d ∈ l, 1 ≤ d) : 1 ≤ pr l := by
  induction l with
  | nil => simp [pr]
  | cons d l ih => exact Nat.mul_pos (h d (by simp)) (ih (fun x hx => h x (by simp [hx])))
theorem pr_take_succ (l : List Nat) (i : Nat) (h : i < l.length) : pr (l.take (i + 1)) = pr (l.take i) * nd l i := by
  rw [List.take_succ_eq_append_getElem h, pr_append, nd_lt h]; simp [pr]
theorem pr_split (l : List Nat) (i : Nat) : pr (l.take i) * pr (l.drop i) = pr l := by rw [← pr_append, List.take_append_drop]
theorem pr_drop (l : List Nat) (i : Nat) (h : i < l.length) : pr (l.drop i) = nd l i * pr (l.drop (i + 1)) := by
  rw [List.drop_eq_getElem_cons h, nd_lt h]; rfl
theorem pr_take_le {l : List Nat} (h : ∀ d ∈ l, 1 ≤ d) (i : Nat) : pr (l.take i) ≤ pr l := by
  rw [← pr_split l i]
  exact Nat.le_mul_of_pos_right _ (pr_pos (fun d hd => h d (List.mem_of_mem_drop hd)))
theorem pr_drop_le {l : List Nat} (h : ∀ d ∈ l, 1 ≤ d) (i : Nat) : pr (l.drop i) ≤ pr l := by
  rw [← pr_split l i]
  exact Nat.le_mul_of_pos_left _ (pr_pos (fun d hd => h d (List.mem_of_mem_take hd)))
/-- how far apart neighbours of an axis lie -/
def under (l : List Nat) (i : Nat) : Nat := pr (l.drop (i + 1))
theorem nd_le_pr {l : List Nat} (h : ∀ d ∈ l, 1 ≤ d) {i : Nat} (hi : i < l.length) : nd l i * under l i ≤ pr l := by
  unfold under
  rw [← pr_drop l i hi]
  exact pr_drop_le h i
theorem under_pos {l : List Nat} (h : ∀ d ∈ l, 1 ≤ d) (i : Nat) : 1 ≤ under l i := pr_pos (fun d hd => h d (List.mem_of_mem_drop hd))
theorem nd_le {l : List Nat} (h : ∀ d ∈ l, 1 ≤ d) {i : Nat} (hi : i < l.length) : nd l i ≤ pr l := Nat.le_trans (Nat.le_mul_of_pos_right _ (under_pos h i)) (nd_le_pr h hi)
theorem under_le {l : List Nat} (h : ∀ d ∈ l, 1 ≤ d) (i : Nat) : under l i ≤ pr l := pr_drop_le h _
/-- the places of number k -/
def plcs (l : List Nat) (k : Nat) : List Nat := (List.range l.length).map fun i => k / under l i % nd l i
theorem plcs_len (l : List Nat) (k : Nat) : (plcs l k).length = l.length := by simp [plcs]
theorem nd_plcs (l : List Nat) (k i : Nat) (hi : i < l.length) : nd (plcs l k) i = k / under l i % nd l i := by
  rw [nd_eq, plcs, List.getElem?_map, List.getElem?_range hi]; rfl
/-- the number at places -/
def plc : List Nat → List Nat → Nat
  | [], _ => 0
  | _ :: _, [] => 0
  | _ :: l, x :: p => x * pr l + plc l p
/-- .. as it is reckoned, axis by axis -/
def plf (l p : List Nat) : Nat → Nat
  | 0 => 0
  | i + 1 => plf l p i * nd l i + nd p i
theorem plf_eq (l p : List Nat) (hp : p.length = l.length) : ∀ i, i ≤ l.length → plf l p i * pr (l.drop i) + plc (l.drop i) (p.drop i) = plc l p := by
  intro i
  induction i with
  | zero => intro _; simp [plf]
  | succ i ih =>
    intro h
    rw [← ih (by omega)]
    have e1 : l.drop i = nd l i :: l.drop (i + 1) := by rw [List.drop_eq_getElem_cons (by omega), nd_lt (by omega)]
    have e2 : p.drop i = nd p i :: p.drop (i + 1) := by rw [List.drop_eq_getElem_cons (by omega), nd_lt (by omega)]
    rw [e1, e2]
    simp only [plc, pr, plf]
    grind
theorem plf_full (l p : List Nat) (hp : p.length = l.length) : plf l p l.length = plc l p := by
  have h := plf_eq l p hp l.length (Nat.le_refl _)
  rw [List.drop_length] at h
  simpa [plc, pr] using h
theorem plf_lt {l p : List Nat} (h : ∀ i, i < l.length → nd p i < nd l i) : ∀ i, i ≤ l.length → plf l p i < pr (l.take i) := by
  intro i
  induction i with
  | zero => intro _; simp [plf, pr]
  | succ i ih =>
    intro hi
    rw [pr_take_succ l i (by omega)]
    have h1 := ih (by omega)
    have h2 := h i (by omega)
    have h3 : (plf l p i + 1) * nd l i ≤ pr (l.take i) * nd l i := Nat.mul_le_mul_right _ h1
    rw [Nat.add_mul, Nat.one_mul] at h3
    show plf l p i * nd l i + nd p i < _
    omega
theorem plc_lt {l p : List Nat} (hp : p.length = l.length) (h : ∀ i, i < l.length → nd p i < nd l i) : plc l p < pr l := by
  have := plf_lt h l.length (Nat.le_refl _)
  rwa [plf_full l p hp, List.take_length] at this
theorem plc_set (l p : List Nat) (hp : p.length = l.length) (a x : Nat) (ha : a < l.length) : plc l (p.set a x) + nd p a * under l a = plc l p + x * under l a := by
  induction l generalizing p a with
  | nil => simp at ha
  | cons d l ih =>
    cases p with
    | nil => simp at hp
    | cons y p =>
      cases a with
      | zero => simp only [List.set_cons_zero, plc, nd_zero, under, List.drop_succ_cons, List.drop_zero]; omega
      | succ a =>
        have := ih p (by simpa using hp) a (by simpa using ha)
        simp only [List.set_cons_succ, plc, nd_succ]
        have e : under (d :: l) (a + 1) = under l a := by simp [under]
        rw [e]
        omega
theorem mod_mul_div (k a b : Nat) : k % (a * b) / b = k / b % a := by
  rcases Nat.eq_zero_or_pos b with hb | hb
  · subst hb; simp
  · rw [Nat.mul_comm, Nat.mod_mul_right_div_self]
theorem plc_plcs (l : List Nat) (k : Nat) : plc l (plcs l k) = k % pr l := by
  have hg : ∀ i, i ≤ l.length → plc (l.drop (l.length - i)) ((plcs l k).drop (l.length - i)) = k % pr (l.drop (l.length - i)) := by
    intro i
    induction i with
    | zero => intro _; simp [plc, pr, Nat.mod_one]
    | succ i ih =>
      intro hi
      have h1 := ih (by omega)
      have hj : l.length - (i + 1) + 1 = l.length - i := by omega
      have hjl : l.length - (i + 1) < l.length := by omega
      generalize l.length - (i + 1) = j at *
      rw [List.drop_eq_getElem_cons hjl, List.drop_eq_getElem_cons (l := plcs l k) (by rw [plcs_len]; exact hjl)]
      simp only [plc, pr]
      rw [hj, h1, ← nd_lt hjl, ← nd_lt (by rw [plcs_len]; exact hjl), nd_plcs l k j hjl]
      unfold under
      rw [hj]
      generalize pr (l.drop (l.length - i)) = u
      have h2 := Nat.div_add_mod (k % (nd l j * u)) u
      rw [mod_mul_div, Nat.mod_mul_left_mod] at h2
      rw [Nat.mul_comm]
      exact h2
  have := hg l.length (Nat.le_refl _)
  simpa using this
theorem plcs_lt (l : List Nat) (k i : Nat) (hi : i < l.length) (h : 1 ≤ nd l i) : nd (plcs l k) i < nd l i := by
  rw [nd_plcs l k i hi]; exact Nat.mod_lt _ h
/-- the line through k along an axis where k has place 0 -/
theorem plc_line (l : List Nat) (k a x : Nat) (ha : a < l.length) (hk : k < pr l) (h0 : nd (plcs l k) a = 0) : plc l ((plcs l k).set a x) = k + x * under l a := by
  have h := plc_set l (plcs l k) (plcs_len l k) a x ha
  rw [h0, plc_plcs, Nat.mod_eq_of_lt hk] at h
  omega
/-- the numbers that have place 0 on an axis -/
def heads (l : List Nat) (a : Nat) : List Nat := (List.range (pr l)).filter fun k => decide (k / under l a % nd l a = 0)
def lns (l : List Nat) (a : Nat) : List (List Nat) := (heads l a).map fun k => (List.range (nd l a)).map fun i => k + i * under l a
/-- right shapes -/
structure Shp (l : List Nat) : Prop where
  len0 : 1 ≤ l.length
  len3 : l.length ≤ 3
  pow : ∀ d ∈ l, ∃ k, d = 2 ^ k
  le : pr l ≤ 1024
theorem Shp.pos {l : List Nat} (h : Shp l) : ∀ d ∈ l, 1 ≤ d := fun d hd => by
  obtain ⟨k, rfl⟩ := h.pow d hd
  exact Nat.two_pow_pos k
theorem Shp.pr1 {l : List Nat} (h : Shp l) : 1 ≤ pr l := pr_pos h.pos
theorem Shp.nd1 {l : List Nat} (h : Shp l) {i : Nat} (hi : i < l.length) : 1 ≤ nd l i := h.pos _ (nd_mem hi)
theorem Shp.ndle {l : List Nat} (h : Shp l) {i : Nat} (hi : i < l.length) : nd l i ≤ 1024 := Nat.le_trans (nd_le h.pos hi) h.le
theorem Shp.under1 {l : List Nat} (h : Shp l) (i : Nat) : 1 ≤ under l i := under_pos h.pos i
theorem Shp.underle {l : List Nat} (h : Shp l) (i : Nat) : under l i ≤ 1024 := Nat.le_trans (under_le h.pos i) h.le
/-- lines by their numbers -/
theorem lns_eq {l : List Nat} (h : Shp l) {a : Nat} (ha : a < l.length) : lns l a = linesOf (under l a) (nd l a) (pr (l.take a) * under l a) := by
  unfold lns heads linesOf line
  have e : pr l = pr (l.take a) * (nd l a * under l a) := by rw [← pr_split l a, pr_drop l a ha]; rfl
  rw [e, filter_lines _ _ _ (h.under1 a) (h.nd1 ha), List.map_map]
  rfl
/-- powers of two, as integers -/
def pw (d : Int) : Prop := ∃ k : Nat, d = 2 ^ k
theorem pw_pos {d : Int} (h : pw d) : 1 ≤ d := by
  obtain ⟨k, rfl⟩ := h
  have := Nat.two_pow_pos k
  have e : ((2 : Int) ^ k) = ((2 ^ k : Nat) : Int) := by simp
  omega
theorem pw_one : pw 1 := ⟨0, by simp⟩
theorem pw_double {d : Int} : pw (d * 2) ↔ pw d := by
  constructor
  · rintro ⟨k, hk⟩
    cases k with
    | zero => simp at hk; omega
    | succ k => exact ⟨k, by rw [Int.pow_succ] at hk; omega⟩
  · rintro ⟨k, hk⟩
    exact ⟨k + 1, by rw [Int.pow_succ, hk]⟩
theorem pw_odd {d : Int} (h : d % 2 ≠ 0) : pw d ↔ d = 1 := by
  constructor
  · rintro ⟨k, hk⟩
    cases k with
    | zero => simpa using hk
    | succ k => rw [Int.pow_succ] at hk; omega
  · rintro rfl; exact pw_one
theorem pw_low {d : Int} (h : d ≤ 1) : pw d ↔ d = 1 := by
  constructor
  · intro hp; have := pw_pos hp; omega
  · rintro rfl; exact pw_one
theorem and_pred (n : Nat) (h : 1 ≤ n) : n &&& (n - 1) = 0 ↔ pw (n : Int) := by
  induction n using Nat.strongRecOn with
  | _ n ih =>
    rcases Nat.mod_two_eq_zero_or_one n with h0 | h1
    · obtain ⟨m, rfl⟩ : ∃ m, n = 2 * m := ⟨n / 2, by omega⟩
      have hm : 1 ≤ m := by omega
      have e : 2 * m &&& (2 * m - 1) = 2 * (m &&& (m - 1)) := by
        apply Nat.eq_of_testBit_eq
        intro i
        cases i with
        | zero => simp
        | succ i =>
          rw [Nat.testBit_and, Nat.testBit_succ, Nat.testBit_succ, Nat.testBit_succ]
          rw [show 2 * m / 2 = m by omega, show (2 * m - 1) / 2 = m - 1 by omega, show 2 * (m &&& (m - 1)) / 2 = m &&& (m - 1) by omega, Nat.testBit_and]
      rw [e, show ((2 * m : Nat) : Int) = (m : Int) * 2 by omega, pw_double, ← ih m (by omega) hm]
      omega
    · rw [pw_odd (by omega)]
      by_cases hn : n = 1
      · subst hn; simp
      · have : n &&& (n - 1) ≠ 0 := by
          intro e
          obtain ⟨m, rfl⟩ : ∃ m, n = 2 * m + 1 := ⟨n / 2, by omega⟩
          have hm : m ≠ 0 := by omega
          obtain ⟨i, hi⟩ := Nat.exists_testBit_of_ne_zero hm
          have h2 : (2 * m + 1 &&& (2 * m + 1 - 1)).testBit (i + 1) = (0 : Nat).testBit (i + 1) := by rw [e]
          rw [Nat.testBit_and, Nat.testBit_succ, Nat.testBit_succ, Nat.zero_testBit, show (2 * m + 1) / 2 = m by omega, show (2 * m + 1 - 1) / 2 = m by omega, hi] at h2
          simp at h2
        constructor
        · intro e; exact absurd e this
        · intro e; omega
end Go.Proofs.YtkcfnbfkbmgchaaDoor.Gm
