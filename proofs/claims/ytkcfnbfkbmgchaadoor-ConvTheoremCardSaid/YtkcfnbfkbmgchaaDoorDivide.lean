import Derived.Test.YtkcfnbfkbmgchaaDoorVal
namespace Go.Proofs.YtkcfnbfkbmgchaaDoor.Gm
/-- one more number of the quotient -/
theorem cv_set {q : List F} {b : Nat → F} {i : Nat} (hi : i < q.length) (h0 : cf q i = 0) (c : F) (k : Nat) :
    cv (cf (q.set i c)) b k = cv (cf q) b k + (if i ≤ k then c * b (k - i) else 0) := by
  have hs : ∀ j, cf (q.set i c) j = cf q j + (if j = i then c else 0) := by
    intro j
    unfold cf
    rw [List.getD_eq_getElem?_getD, List.getElem?_set, List.getD_eq_getElem?_getD]
    by_cases hj : i = j
    · subst hj
      have : q[i]?.getD 0 = 0 := by have := h0; unfold cf at this; rwa [List.getD_eq_getElem?_getD] at this
      rw [if_pos rfl, if_pos hi, if_pos rfl, this]; show c = 0 + c; grind
    · rw [if_neg hj, if_neg (fun e => hj e.symm)]; grind
  unfold cv
  rw [S_congr (g := fun j => cf q j * b (k - j) + (if j = i then c else 0) * b (k - j)) (fun j _ => by rw [hs]; grind), S_add]
  congr 1
  by_cases hik : i ≤ k
  · rw [if_pos hik, S_single (k := i) (by omega) (fun j _ hne => by rw [if_neg hne]; grind), if_pos rfl]
  · rw [if_neg hik]
    exact S_all0 (fun j hj => by rw [if_neg (by omega)]; grind)
/-- the loop of a division, behind the places from i on -/
def DivInv (a0 A q b : List F) (i : Nat) : Prop :=
  A.length = a0.length ∧ q.length = a0.length - b.length + 1 ∧ (∀ k, cf a0 k = cv (cf q) (cf b) k + cf A k) ∧ (∀ j, j < i → cf q j = 0) ∧ (∀ m, i + b.length - 1 ≤ m → cf A m = 0)
theorem div_start {a0 b : List F} (hb : b ≠ []) (hab : b.length ≤ a0.length) : DivInv a0 a0 (List.replicate (a0.length - b.length + 1) 0) b (a0.length - b.length + 1) := by
  have hc : ∀ n i, cf (List.replicate n 0) i = 0 := fun n i => by
    unfold cf; rw [List.getD_eq_getElem?_getD, List.getElem?_replicate]; split <;> rfl
  have := List.length_pos_iff.2 hb
  refine ⟨rfl, by simp, fun k => ?_, fun j _ => hc _ _, fun m hm => cf_ge (by omega)⟩
  have : cv (cf (List.replicate (a0.length - b.length + 1) 0)) (cf b) k = 0 := S_all0 (fun i _ => by rw [hc]; grind)
  rw [this]; grind
/-- the array with the multiple taken away at the places i .. i + j - 1 -/
def subAt (A : List F) (c : F) (b : List F) (i : Nat) : Nat → List F
  | 0 => A
  | j+1 => (subAt A c b i j).set (i + j) (cf (subAt A c b i j) (i + j) - c * cf b j)
theorem subAt_len (A : List F) (c : F) (b : List F) (i j : Nat) : (subAt A c b i j).length = A.length := by
  induction j with
  | zero => rfl
  | succ j ih => show (List.set _ _ _).length = _; rw [List.length_set, ih]
theorem cf_subAt (A : List F) (c : F) (b : List F) (i j m : Nat) (h : i + j ≤ A.length) : cf (subAt A c b i j) m = cf A m - (if i ≤ m ∧ m < i + j then c * cf b (m - i) else 0) := by
  induction j with
  | zero => rw [if_neg (by omega)]; show cf A m = cf A m - 0; grind
  | succ j ih =>
    have ih' := ih (by omega)
    show cf ((subAt A c b i j).set (i + j) _) m = _
    have hs : cf ((subAt A c b i j).set (i + j) (cf (subAt A c b i j) (i + j) - c * cf b j)) m = if i + j = m then cf (subAt A c b i j) (i + j) - c * cf b j else cf (subAt A c b i j) m := by
      unfold cf
      rw [List.getD_eq_getElem?_getD, List.getElem?_set, List.getD_eq_getElem?_getD]
      split
      · rw [if_pos (by rw [subAt_len]; omega)]; rfl
      · rfl
    rw [hs]
    by_cases hm : i + j = m
    · subst hm
      rw [if_pos rfl, ih', if_neg (by omega), if_pos (by omega), show i + j - i = j by omega]; grind
    · rw [if_neg hm, ih']
      by_cases hc : i ≤ m ∧ m < i + j
      · rw [if_pos hc, if_pos (by omega)]
      · rw [if_neg hc, if_neg (by omega)]
theorem div_step {a0 A q b : List F} {i : Nat} (hb : b ≠ []) (hab : b.length ≤ a0.length) (hl : cf b (b.length - 1) ≠ 0) (h : DivInv a0 A q b (i+1)) (hi : i < q.length) :
    DivInv a0 (subAt A (cf A (i + b.length - 1) * inv (cf b (b.length - 1))) b i b.length) (q.set i (cf A (i + b.length - 1) * inv (cf b (b.length - 1)))) b i := by
  obtain ⟨h1, h2, h3, h4, h5⟩ := h
  have hpos := List.length_pos_iff.2 hb
  have hm := mul_inv _ hl
  generalize hc : cf A (i + b.length - 1) * inv (cf b (b.length - 1)) = c
  have hlen : i + b.length ≤ A.length := by omega
  refine ⟨by rw [subAt_len, h1], by rw [List.length_set, h2], fun k => ?_, fun j hj => ?_, fun m hm' => ?_⟩
  · rw [cv_set hi (h4 i (by omega)), cf_subAt _ _ _ _ _ _ hlen, h3]
    by_cases hik : i ≤ k
    · rw [if_pos hik]
      by_cases hk2 : k < i + b.length
      · rw [if_pos ⟨hik, hk2⟩]; grind
      · rw [if_neg (by omega), cf_ge (l := b) (by omega)]; grind
    · rw [if_neg hik, if_neg (by omega)]; grind
  · have hne : i ≠ j := by omega
    unfold cf
    rw [List.getD_eq_getElem?_getD, List.getElem?_set_ne hne, ← List.getD_eq_getElem?_getD]
    exact h4 j (by omega)
  · rw [cf_subAt _ _ _ _ _ _ hlen]
    by_cases hm2 : m = i + b.length - 1
    · rw [if_pos (by omega), hm2, show i + b.length - 1 - i = b.length - 1 by omega, ← hc]; grind
    · rw [if_neg (by omega), h5 m (by omega)]; grind
theorem div_end {a0 A q b : List F} (hb : b ≠ []) (h : DivInv a0 A q b 0) : strip (addL (mulL (strip q) b) (strip A)) = strip a0 ∧ (strip A).length < b.length := by
  obtain ⟨h1, h2, h3, h4, h5⟩ := h
  have hpos := List.length_pos_iff.2 hb
  constructor
  · apply strip_eq
    intro k
    rw [cf_addL, cf_mulL, cf_strip, h3]
    congr 1
    exact cv_congr (fun i _ => cf_strip q i) (fun _ _ => rfl)
  · rcases strip_last A with h | h
    · rw [h]; exact hpos
    · apply Classical.byContradiction
      intro hc
      exact h (h5 _ (by omega))
end Go.Proofs.YtkcfnbfkbmgchaaDoor.Gm
