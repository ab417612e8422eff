/- Products of lists of numbers at a base, by products of polynomials over the field. (Plain.) -/
import Derived.Test.YtdhmmllpldjkbaaGreatDoorPla
import Derived.Test.YtdhmmllpldjkbaaGreatDoorBg
namespace Go.Proofs.YtdhmmllpldjkbaaGreatDoor.Gm
set_option linter.unusedVariables false
def addN : List Nat → List Nat → List Nat
  | [], b => b
  | a, [] => a
  | x :: a, y :: b => (x + y) :: addN a b
theorem addN_bv (B : Nat) : ∀ a b : List Nat, bv B (addN a b) = bv B a + bv B b
  | [], b => by simp [addN, bv]
  | x :: a, [] => by simp [addN, bv]
  | x :: a, y :: b => by simp only [addN, bv, addN_bv B a b]; rw [Nat.mul_add]; omega
theorem addN_at : ∀ (a b : List Nat) (k : Nat), at0 (addN a b) k = at0 a k + at0 b k
  | [], b, k => by simp [addN, at0]
  | x :: a, [], k => by simp [addN, at0]
  | x :: a, y :: b, 0 => by simp [addN, at0]
  | x :: a, y :: b, k + 1 => by
    have := addN_at a b k
    simpa [addN, at0] using this
def mulN : List Nat → List Nat → List Nat
  | [], _ => []
  | x :: a, b => addN (b.map fun y => x * y) (0 :: mulN a b)
theorem bv_smul (B x : Nat) (b : List Nat) : bv B (b.map fun y => x * y) = x * bv B b := by
  induction b with
  | nil => simp [bv]
  | cons y b ih => simp only [List.map_cons, bv, ih]; rw [Nat.mul_add, Nat.mul_left_comm]
theorem mulN_bv (B : Nat) (a b : List Nat) : bv B (mulN a b) = bv B a * bv B b := by
  induction a with
  | nil => simp [mulN, bv]
  | cons x a ih => simp only [mulN, addN_bv, bv_smul, bv, ih]; rw [Nat.add_mul, Nat.mul_assoc]; omega
theorem at0_smul (x : Nat) (b : List Nat) (k : Nat) : at0 (b.map fun y => x * y) k = x * at0 b k := by
  unfold at0
  rw [List.getD, List.getD, List.getElem?_map]
  cases b[k]? <;> simp
theorem mulN_le (M : Nat) (b : List Nat) (hb : ∀ y ∈ b, y ≤ M) (a : List Nat) (ha : ∀ x ∈ a, x ≤ M) : ∀ k, at0 (mulN a b) k ≤ a.length * (M * M) := by
  have hbk : ∀ k, at0 b k ≤ M := fun k => by
    rcases Nat.lt_or_ge k b.length with h | h
    · rw [at0_lt h]; exact hb _ (List.getElem_mem h)
    · rw [at0_out h]; exact Nat.zero_le _
  induction a with
  | nil => intro k; simp [mulN, at0]
  | cons x a ih =>
    intro k
    have ih := ih (fun y hy => ha y (List.mem_cons_of_mem _ hy))
    simp only [mulN, addN_at, at0_smul, List.length_cons]
    have h1 : x * at0 b k ≤ M * M := Nat.mul_le_mul (ha x (List.mem_cons_self ..)) (hbk k)
    have h2 : at0 (0 :: mulN a b) k ≤ a.length * (M * M) := by
      cases k with
      | zero => simp [at0]
      | succ k => exact ih k
    rw [Nat.add_mul]; omega
theorem toF_nat0 : toF ((0 : Nat) : Int) = 0 := by
  apply vl_inj; rw [vl_toF]; unfold vl; rfl
theorem cf_toF (b : List Nat) (k : Nat) : cf ((b.map fun n : Nat => (n : Int)).map toF) k = toF (at0 b k : Int) := by
  unfold cf at0
  rw [List.getD, List.getD, List.getElem?_map, List.getElem?_map]
  cases b[k]? with
  | none => simpa using toF_nat0.symm
  | some x => simp
theorem cv_front (a b : Nat → F) (k : Nat) : cv a b (k + 1) = a 0 * b (k + 1) + cv (fun i => a (i + 1)) b k := by
  unfold cv
  rw [S_front]
  congr 1
  exact S_congr (fun i hi => by rw [show k + 1 - (i + 1) = k - i by omega])
theorem cv_nil (b : Nat → F) (k : Nat) : cv (cf []) b k = 0 := by
  unfold cv
  refine S_all0 (fun i _ => ?_)
  show (0 : F) * _ = 0
  grind
theorem mulN_toF (b : List Nat) (a : List Nat) : ∀ k, toF (at0 (mulN a b) k : Int) = cv (cf ((a.map fun n : Nat => (n : Int)).map toF)) (cf ((b.map fun n : Nat => (n : Int)).map toF)) k := by
  induction a with
  | nil =>
    intro k
    rw [show at0 (mulN [] b) k = 0 by simp [mulN, at0], toF_nat0]
    exact (cv_nil _ k).symm
  | cons x a ih =>
    intro k
    simp only [mulN, addN_at, at0_smul, List.map_cons]
    cases k with
    | zero =>
      rw [show at0 (0 :: mulN a b) 0 = 0 from rfl, Nat.add_zero, Int.natCast_mul, toF_mul, ← cf_toF]
      unfold cv
      rw [S_succ, S_zero]
      show _ = 0 + toF (x : Int) * _
      grind
    | succ k =>
      rw [show at0 (0 :: mulN a b) (k + 1) = at0 (mulN a b) k from rfl, Int.natCast_add, toF_add, Int.natCast_mul, toF_mul, ← cf_toF, ih k, cv_front]
      rfl
/-- the product of two lists of small numbers, told by the product over the field -/
theorem mulL_bv (B M : Nat) (a b : List Nat) (ha : ∀ x ∈ a, x ≤ M) (hb : ∀ x ∈ b, x ≤ M) (hM : a.length * (M * M) < 18446744069414584321) :
    bv B ((mulL ((a.map fun n : Nat => (n : Int)).map toF) ((b.map fun n : Nat => (n : Int)).map toF)).map fun x => (vl x).toNat) = bv B a * bv B b ∧ ∀ x ∈ mulL ((a.map fun n : Nat => (n : Int)).map toF) ((b.map fun n : Nat => (n : Int)).map toF), vl x ≤ a.length * (M * M) := by
  generalize hp : mulL ((a.map fun n : Nat => (n : Int)).map toF) ((b.map fun n : Nat => (n : Int)).map toF) = p
  have key : ∀ k, vl (cf p k) = (at0 (mulN a b) k : Int) := fun k => by
    rw [← hp, cf_mulL, ← mulN_toF, vl_toF]
    have := mulN_le M b hb a ha k
    rw [Int.emod_eq_of_lt (by omega) (by omega)]
  have e : at0 (p.map fun x => (vl x).toNat) = at0 (mulN a b) := by
    funext k
    have h := key k
    unfold cf at h
    unfold at0 at h ⊢
    rw [List.getD, List.getElem?_map]
    rw [List.getD] at h
    cases hk : p[k]? with
    | none =>
      rw [hk] at h
      have h0 : vl 0 = 0 := by unfold vl; rfl
      simp only [Option.getD_none, h0] at h
      simp only [Option.map_none, Option.getD_none]
      omega
    | some x =>
      rw [hk] at h
      simp only [Option.getD_some] at h
      simp only [Option.map_some, Option.getD_some]
      omega
  constructor
  · rw [← mulN_bv, ← sv_bv B _ (p.length + (mulN a b).length) (by rw [List.length_map]; omega), ← sv_bv B (mulN a b) (p.length + (mulN a b).length) (by omega), e]
  · intro x hx
    obtain ⟨k, hk, rfl⟩ := List.getElem_of_mem hx
    have h := key k
    unfold cf at h
    rw [List.getD, List.getElem?_eq_getElem hk] at h
    have := mulN_le M b hb a ha k
    simp only [Option.getD_some] at h
    rw [h]
    exact Int.ofNat_le.2 this
end Go.Proofs.YtdhmmllpldjkbaaGreatDoor.Gm
