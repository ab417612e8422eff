import Derived.Test.YtkcfnbfkbmgchaaDoorLagrange
namespace Go.Proofs.YtkcfnbfkbmgchaaDoor.Gm
/-- the first place of line L of an axis with d places, s numbers apart -/
def lineAt (s d L : Nat) : Nat := L / s * (d * s) + L % s
theorem range_filter_lt (n s : Nat) (h : s ≤ n) : (List.range n).filter (fun x => decide (x < s)) = List.range s := by
  obtain ⟨t, rfl⟩ := Nat.exists_eq_add_of_le h
  rw [List.range_add, List.filter_append]
  rw [List.filter_eq_self.2 (fun x hx => by simpa using hx)]
  rw [List.filter_eq_nil_iff.2 (fun x hx => by
    obtain ⟨y, _, rfl⟩ := List.mem_map.1 hx
    simp)]
  simp
/-- the places of value 0 on an axis, in their order -/
theorem filter_lines (s d h : Nat) (hs : 0 < s) (hd : 0 < d) : (List.range (h * (d * s))).filter (fun p => decide (p / s % d = 0)) = (List.range (h * s)).map (lineAt s d) := by
  induction h with
  | zero => simp
  | succ h ih =>
    rw [Nat.succ_mul, List.range_add, List.filter_append, ih, Nat.succ_mul, List.range_add, List.map_append]
    congr 1
    rw [List.filter_map]
    have e1 : (List.range (d * s)).filter ((fun p => decide (p / s % d = 0)) ∘ fun x => h * (d * s) + x) = (List.range (d * s)).filter (fun x => decide (x < s)) := by
      apply List.filter_congr
      intro x hx
      have hx' : x < d * s := List.mem_range.1 hx
      have h1 : (h * (d * s) + x) / s = h * d + x / s := by
        rw [← Nat.mul_assoc, Nat.add_comm, Nat.add_mul_div_right _ _ hs, Nat.add_comm]
      have h2 : x / s < d := Nat.div_lt_of_lt_mul (by rwa [Nat.mul_comm])
      simp only [Function.comp_def]
      rw [h1, Nat.add_comm, Nat.add_mul_mod_self_right, Nat.mod_eq_of_lt h2]
      congr 1
      rw [eq_iff_iff, Nat.div_eq_zero_iff]
      omega
    rw [e1, range_filter_lt _ _ (Nat.le_mul_of_pos_left s hd), List.map_map]
    apply List.map_congr_left
    intro x hx
    have hx' : x < s := List.mem_range.1 hx
    simp only [Function.comp_def, lineAt]
    rw [Nat.add_comm (h * s), Nat.add_mul_div_right _ _ hs, Nat.div_eq_of_lt hx', Nat.add_mul_mod_self_right, Nat.mod_eq_of_lt hx', Nat.zero_add]
/-- line L's places -/
def line (s d L : Nat) : List Nat := (List.range d).map (fun i => lineAt s d L + i * s)
def linesOf (s d m : Nat) : List (List Nat) := (List.range m).map (line s d)
/-- of a place: its number on the axis, the number of its line -/
def coord (s d p : Nat) : Nat := p / s % d
def lineNo (s d p : Nat) : Nat := p / (d * s) * s + p % s
theorem place_split (s d p : Nat) : p = lineAt s d (lineNo s d p) + coord s d p * s := by
  by_cases hs : s = 0
  · subst hs; unfold lineAt lineNo coord; simp
  have hs : 0 < s := by omega
  have h1 : lineNo s d p / s = p / (d * s) := by
    unfold lineNo; rw [Nat.add_comm, Nat.add_mul_div_right _ _ hs, Nat.div_eq_of_lt (Nat.mod_lt _ hs), Nat.zero_add]
  have h2 : lineNo s d p % s = p % s := by
    unfold lineNo; rw [Nat.add_comm, Nat.add_mul_mod_self_right, Nat.mod_mod]
  unfold lineAt coord
  rw [h1, h2]
  have h3 : p / (d * s) = p / s / d := by rw [Nat.mul_comm d s, Nat.div_div_eq_div_mul]
  rw [h3]
  have h4 := Nat.div_add_mod (p / s) d
  have h5 := Nat.div_add_mod p s
  generalize hq : p / s / d = q at *
  generalize hr : p / s % d = r at *
  generalize hu : p / s = u at *
  generalize hv : p % s = v at *
  rw [← h5, ← h4, Nat.mul_add, ← Nat.mul_assoc]
  grind
theorem coord_lt (s d p : Nat) (hd : 0 < d) : coord s d p < d := Nat.mod_lt _ hd
theorem coord_of (s d L i : Nat) (hs : 0 < s) (hi : i < d) : coord s d (lineAt s d L + i * s) = i := by
  unfold coord lineAt
  have e : (L / s * (d * s) + L % s + i * s) / s = L / s * d + i := by
    rw [← Nat.mul_assoc, show L / s * d * s + L % s + i * s = L % s + (L / s * d + i) * s by grind, Nat.add_mul_div_right _ _ hs, Nat.div_eq_of_lt (Nat.mod_lt _ hs), Nat.zero_add]
  rw [e, Nat.add_comm, Nat.add_mul_mod_self_right, Nat.mod_eq_of_lt hi]
theorem lineNo_of (s d L i : Nat) (hs : 0 < s) (hi : i < d) : lineNo s d (lineAt s d L + i * s) = L := by
  unfold lineNo lineAt
  have hd : 0 < d := by omega
  have hds : 0 < d * s := Nat.mul_pos hd hs
  have hlt : L % s + i * s < d * s := by
    have h1 := Nat.mod_lt L hs
    have h2 : (i + 1) * s ≤ d * s := Nat.mul_le_mul_right s hi
    rw [Nat.add_mul, Nat.one_mul] at h2
    omega
  have e1 : (L / s * (d * s) + L % s + i * s) / (d * s) = L / s := by
    rw [Nat.add_assoc, Nat.add_comm, Nat.add_mul_div_right _ _ hds, Nat.div_eq_of_lt hlt, Nat.zero_add]
  have e2 : (L / s * (d * s) + L % s + i * s) % s = L % s := by
    rw [show L / s * (d * s) + L % s + i * s = L % s + (L / s * d + i) * s by grind, Nat.add_mul_mod_self_right, Nat.mod_mod]
  rw [e1, e2]
  have := Nat.div_add_mod L s
  rw [Nat.mul_comm] at this
  exact this
theorem lineAt_lt (s d m L i : Nat) (hs : 0 < s) (hL : L < m * s) (hi : i < d) : lineAt s d L + i * s < m * (d * s) := by
  unfold lineAt
  have h0 : L / s < m := Nat.div_lt_of_lt_mul (by rwa [Nat.mul_comm])
  have h1 := Nat.mod_lt L hs
  have h2 : (i + 1) * s ≤ d * s := Nat.mul_le_mul_right s hi
  have h3 : (L / s + 1) * (d * s) ≤ m * (d * s) := Nat.mul_le_mul_right (d * s) h0
  rw [Nat.add_mul, Nat.one_mul] at h2 h3
  omega
theorem lineNo_lt (s d m p : Nat) (hs : 0 < s) (hp : p < m * (d * s)) : lineNo s d p < m * s := by
  unfold lineNo
  have hds : 0 < d * s := by
    rcases Nat.eq_zero_or_pos (d * s) with h | h
    · rw [h, Nat.mul_zero] at hp; omega
    · exact h
  have h0 : p / (d * s) < m := Nat.div_lt_of_lt_mul (by rwa [Nat.mul_comm])
  have h1 := Nat.mod_lt p hs
  have h3 : (p / (d * s) + 1) * s ≤ m * s := Nat.mul_le_mul_right s h0
  rw [Nat.add_mul, Nat.one_mul] at h3
  omega
/-- a row of numbers, transformed or back -/
def tr (back : Bool) (k : Nat) (a : Nat → F) (j : Nat) : F :=
  if back then inv (cast (2 ^ k)) * dft (2 ^ k) (inv (root k)) a j else dft (2 ^ k) (root k) a j
theorem tr_congr {back : Bool} {k : Nat} {a b : Nat → F} (h : ∀ i, i < 2 ^ k → a i = b i) (j : Nat) : tr back k a j = tr back k b j := by
  unfold tr; split
  · rw [dft_congr h]
  · rw [dft_congr h]
/-- the lines first .. last - 1 of an axis, transformed -/
def turned (back : Bool) (s k first last : Nat) (a : Nat → F) (p : Nat) : F :=
  if first ≤ lineNo s (2 ^ k) p ∧ lineNo s (2 ^ k) p < last then tr back k (fun i => a (lineAt s (2 ^ k) (lineNo s (2 ^ k) p) + i * s)) (coord s (2 ^ k) p) else a p
/-- a whole axis -/
def axis (back : Bool) (s k : Nat) (a : Nat → F) (p : Nat) : F := tr back k (fun i => a (lineAt s (2 ^ k) (lineNo s (2 ^ k) p) + i * s)) (coord s (2 ^ k) p)
theorem cast_ne (n : Nat) (h0 : 0 < n) (h1 : n ≤ 1048576) : cast n ≠ 0 := by
  rw [cast_toF]
  exact toF_ne (by omega) (by omega)
theorem tr_fwd (k : Nat) (a : Nat → F) (j : Nat) : tr false k a j = dft (2 ^ k) (root k) a j := by unfold tr; rw [if_neg (by decide)]
theorem tr_inv (k : Nat) (a : Nat → F) (j : Nat) : tr true k a j = inv (cast (2 ^ k)) * dft (2 ^ k) (inv (root k)) a j := by unfold tr; rw [if_pos rfl]
theorem pow_20 {k : Nat} (hk : k ≤ 20) : 2 ^ k ≤ 1048576 := Nat.pow_le_pow_right (by omega) hk
theorem tr_back {k : Nat} (hk : k ≤ 20) (a : Nat → F) {j : Nat} (hj : j < 2 ^ k) (b : Bool) : tr (!b) k (tr b k a) j = a j := by
  have hr := rt_root k (by omega)
  have hm := mul_inv (root k) (root_ne k)
  have hm' : inv (root k) * root k = 1 := by rw [← hm]; grind
  have hc := mul_inv (cast (2 ^ k)) (cast_ne _ (Nat.two_pow_pos k) (pow_20 hk))
  cases b with
  | false =>
    rw [show (!false) = true from rfl, tr_inv, dft_congr (b := dft (2 ^ k) (root k) a) (fun i _ => tr_fwd k a i), dft_back hr hm a hj]
    generalize cast (2 ^ k) = c at *
    grind
  | true =>
    rw [show (!true) = false from rfl, tr_fwd, dft_congr (b := fun j => inv (cast (2 ^ k)) * dft (2 ^ k) (inv (root k)) a j) (fun i _ => tr_inv k a i), dft_smul, dft_back (rt_inv hr) hm' a hj]
    generalize cast (2 ^ k) = c at *
    grind
end Go.Proofs.YtkcfnbfkbmgchaaDoor.Gm
