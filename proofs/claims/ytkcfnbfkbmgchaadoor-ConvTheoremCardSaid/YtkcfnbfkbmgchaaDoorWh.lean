/- Plain: all axes of an array: the whole transform is one sum with a product of powers. -/
import Derived.Test.YtkcfnbfkbmgchaaDoorHp
namespace Go.Proofs.YtkcfnbfkbmgchaaDoor.Gm
/-- the power that number i has in number j of a row's transform -/
@[irreducible] def ker (back : Bool) (k i j : Nat) : F := if back then inv (cast (2 ^ k)) * inv (root k) ^ (j * i) else root k ^ (j * i)
theorem ker_f (k i j : Nat) : ker false k i j = root k ^ (j * i) := by unfold ker; rw [if_neg (by decide)]
theorem ker_b (k i j : Nat) : ker true k i j = inv (cast (2 ^ k)) * inv (root k) ^ (j * i) := by unfold ker; rw [if_pos rfl]
theorem tr_ker (back : Bool) (k : Nat) (a : Nat → F) (j : Nat) : tr back k a j = S (2 ^ k) (fun i => a i * ker back k i j) := by
  cases back with
  | false => rw [tr_fwd, dft_eq]; exact S_congr (fun i _ => by rw [ker_f])
  | true =>
    rw [tr_inv, dft_eq, ← S_mul_left]
    exact S_congr (fun i _ => by rw [ker_b]; generalize inv (cast (2 ^ k)) = c; generalize inv (root k) ^ (j * i) = d; grind)
theorem S_block (m u : Nat) (f : Nat → F) : S (m * u) f = S m (fun i => S u (fun r => f (i * u + r))) := by
  induction m with
  | zero => rw [Nat.zero_mul]; rfl
  | succ m ih => rw [Nat.succ_mul, S_split, ih, S_succ]
/-- sizes of logs -/
def szs (ks : List Nat) : List Nat := ks.map (2 ^ ·)
theorem szs_pos {ks : List Nat} : ∀ d ∈ szs ks, 1 ≤ d := fun d hd => by
  obtain ⟨k, _, rfl⟩ := List.mem_map.1 hd
  exact Nat.two_pow_pos k
def pk (ks : List Nat) : Nat := pr (szs ks)
theorem pk_nil : pk [] = 1 := rfl
theorem pk_cons (k : Nat) (ks : List Nat) : pk (k :: ks) = 2 ^ k * pk ks := rfl
theorem pk_pos (ks : List Nat) : 0 < pk ks := pr_pos szs_pos
def KER (back : Bool) : List Nat → Nat → Nat → F
  | [], _, _ => 1
  | k :: ks, q, p => ker back k (q / pk ks) (p / pk ks) * KER back ks (q % pk ks) (p % pk ks)
/-- the whole transform -/
@[irreducible] def WT (back : Bool) (ks : List Nat) (a : Nat → F) (p : Nat) : F := S (pk ks) (fun q => a q * KER back ks q p)
theorem WT_eq (back : Bool) (ks : List Nat) (a : Nat → F) (p : Nat) : WT back ks a p = S (pk ks) (fun q => a q * KER back ks q p) := by unfold WT; rfl
theorem WT_congr {back : Bool} {ks : List Nat} {a b : Nat → F} (h : ∀ i, i < pk ks → a i = b i) (p : Nat) : WT back ks a p = WT back ks b p := by
  rw [WT_eq, WT_eq]; exact S_congr (fun i hi => by rw [h i hi])
theorem blk_div {u i r : Nat} (hr : r < u) : (i * u + r) / u = i := by
  rw [Nat.add_comm, Nat.add_mul_div_right _ _ (by omega), Nat.div_eq_of_lt hr, Nat.zero_add]
theorem blk_mod {u i r : Nat} (hr : r < u) : (i * u + r) % u = r := by
  rw [Nat.add_comm, Nat.add_mul_mod_self_right, Nat.mod_eq_of_lt hr]
theorem WT_cons (back : Bool) (k : Nat) (ks : List Nat) (a : Nat → F) (p : Nat) :
    WT back (k :: ks) a p = S (2 ^ k) (fun i => WT back ks (fun r => a (i * pk ks + r)) (p % pk ks) * ker back k i (p / pk ks)) := by
  rw [WT_eq, pk_cons, S_block]
  refine S_congr (fun i _ => ?_)
  rw [WT_eq, ← S_mul_right]
  refine S_congr (fun r hr => ?_)
  show a (i * pk ks + r) * (ker back k ((i * pk ks + r) / pk ks) (p / pk ks) * KER back ks ((i * pk ks + r) % pk ks) (p % pk ks)) = _
  rw [blk_div hr, blk_mod hr]
  generalize KER back ks r (p % pk ks) = x
  generalize ker back k i (p / pk ks) = y
  grind
/-- the axes: how far apart, and their logs -/
def axs : List Nat → List (Nat × Nat)
  | [] => []
  | k :: ks => (pk ks, k) :: axs ks
theorem lineAt_no (s d p : Nat) (hs : 0 < s) : lineAt s d (lineNo s d p) = p / (d * s) * (d * s) + p % s := by
  have h1 : lineNo s d p / s = p / (d * s) := by
    unfold lineNo; rw [Nat.add_comm, Nat.add_mul_div_right _ _ hs, Nat.div_eq_of_lt (Nat.mod_lt _ hs), Nat.zero_add]
  have h2 : lineNo s d p % s = p % s := by
    unfold lineNo; rw [Nat.add_comm, Nat.add_mul_mod_self_right, Nat.mod_mod]
  unfold lineAt
  rw [h1, h2]
theorem axis_eq (back : Bool) (s k : Nat) (hs : 0 < s) (a : Nat → F) (p : Nat) : axis back s k a p = tr back k (fun i => a (p / (2 ^ k * s) * (2 ^ k * s) + p % s + i * s)) (p / s % 2 ^ k) := by
  unfold axis coord
  rw [lineAt_no _ _ _ hs]
theorem axis_block (back : Bool) (s k : Nat) (hs : 0 < s) {u : Nat} (hu : 2 ^ k * s ∣ u) (a : Nat → F) (P r : Nat) : axis back s k a (P * u + r) = axis back s k (fun x => a (P * u + x)) r := by
  obtain ⟨t, rfl⟩ := hu
  have hk : 0 < 2 ^ k := Nat.two_pow_pos k
  generalize hd : 2 ^ k = d at *
  have hds : 0 < d * s := Nat.mul_pos hk hs
  rw [axis_eq _ _ _ hs, axis_eq _ _ _ hs, hd]
  have e1 : (P * (d * s * t) + r) / (d * s) = P * t + r / (d * s) := by
    rw [show P * (d * s * t) + r = r + (P * t) * (d * s) by grind, Nat.add_mul_div_right _ _ hds, Nat.add_comm]
  have e2 : (P * (d * s * t) + r) % s = r % s := by
    rw [show P * (d * s * t) + r = r + (P * d * t) * s by grind, Nat.add_mul_mod_self_right]
  have e3 : (P * (d * s * t) + r) / s % d = r / s % d := by
    rw [show P * (d * s * t) + r = r + (P * t * d) * s by grind, Nat.add_mul_div_right _ _ hs, Nat.add_mul_mod_self_right]
  rw [e1, e2, e3]
  congr 1
  funext i
  congr 1
  grind
theorem axis_congr {back : Bool} {s k u : Nat} (hs : 0 < s) (hu : 2 ^ k * s ∣ u) {a b : Nat → F} (h : ∀ i, i < u → a i = b i) {p : Nat} (hp : p < u) : axis back s k a p = axis back s k b p := by
  rw [axis_eq _ _ _ hs, axis_eq _ _ _ hs]
  refine tr_congr (fun i hi => h _ ?_) _
  obtain ⟨t, rfl⟩ := hu
  have hk : 0 < 2 ^ k := Nat.two_pow_pos k
  generalize 2 ^ k = d at *
  have h1 := Nat.mod_lt p hs
  have h2 : (i + 1) * s ≤ d * s := Nat.mul_le_mul_right s hi
  have h3 : p / (d * s) < t := Nat.div_lt_of_lt_mul hp
  have h4 : (p / (d * s) + 1) * (d * s) ≤ t * (d * s) := Nat.mul_le_mul_right _ h3
  rw [Nat.add_mul, Nat.one_mul] at h2 h4
  rw [Nat.mul_comm (d * s) t]
  omega
def Fit (u : Nat) (l : List (Nat × Nat)) : Prop := ∀ x ∈ l, 0 < x.1 ∧ 2 ^ x.2 * x.1 ∣ u
def run (back : Bool) (l : List (Nat × Nat)) (a : Nat → F) : Nat → F := l.foldl (fun a x => axis back x.1 x.2 a) a
theorem run_nil (back : Bool) (a : Nat → F) : run back [] a = a := rfl
theorem run_cons (back : Bool) (x : Nat × Nat) (l : List (Nat × Nat)) (a : Nat → F) : run back (x :: l) a = run back l (axis back x.1 x.2 a) := rfl
theorem run_append (back : Bool) (l m : List (Nat × Nat)) (a : Nat → F) : run back (l ++ m) a = run back m (run back l a) := List.foldl_append
theorem run_congr {back : Bool} {u : Nat} : ∀ {l : List (Nat × Nat)}, Fit u l → ∀ {a b : Nat → F}, (∀ i, i < u → a i = b i) → ∀ p, p < u → run back l a p = run back l b p
  | [], _, _, _, h, p, hp => h p hp
  | x :: l, hf, a, b, h, p, hp => by
    rw [run_cons, run_cons]
    have hx := hf x (by simp)
    exact run_congr (fun y hy => hf y (by simp [hy])) (fun i hi => axis_congr hx.1 hx.2 h hi) p hp
theorem run_block {back : Bool} {u : Nat} (P : Nat) : ∀ {l : List (Nat × Nat)}, Fit u l → ∀ (a : Nat → F) (r : Nat), r < u → run back l a (P * u + r) = run back l (fun x => a (P * u + x)) r
  | [], _, _, _, _ => rfl
  | x :: l, hf, a, r, hr => by
    have hx := hf x (by simp)
    have hl : Fit u l := fun y hy => hf y (by simp [hy])
    rw [run_cons, run_cons, run_block P hl _ r hr]
    exact run_congr hl (fun i hi => axis_block back x.1 x.2 hx.1 hx.2 a P i) r hr
theorem fit_axs : ∀ ks : List Nat, Fit (pk ks) (axs ks)
  | [] => fun x hx => by simp [axs] at hx
  | k :: ks => fun x hx => by
    rcases List.mem_cons.1 hx with rfl | hx
    · exact ⟨pk_pos ks, Nat.dvd_refl _⟩
    · have := fit_axs ks x hx
      exact ⟨this.1, Nat.dvd_trans this.2 ⟨2 ^ k, by rw [pk_cons, Nat.mul_comm]⟩⟩
theorem axis_first (back : Bool) (k : Nat) (ks : List Nat) (a : Nat → F) {P r : Nat} (hP : P < 2 ^ k) (hr : r < pk ks) : axis back (pk ks) k a (P * pk ks + r) = tr back k (fun i => a (i * pk ks + r)) P := by
  have hu := pk_pos ks
  rw [axis_eq _ _ _ hu]
  generalize pk ks = u at *
  have hlt : P * u + r < 2 ^ k * u := by
    have := Nat.mul_le_mul_right u (show P + 1 ≤ 2 ^ k from hP)
    rw [Nat.add_mul, Nat.one_mul] at this
    omega
  rw [Nat.div_eq_of_lt hlt, blk_div hr, blk_mod hr, Nat.mod_eq_of_lt hP]
  congr 1
  funext i
  congr 1
  omega
theorem pk_split {k : Nat} {ks : List Nat} {p : Nat} (hp : p < pk (k :: ks)) : p / pk ks < 2 ^ k ∧ p % pk ks < pk ks ∧ p / pk ks * pk ks + p % pk ks = p :=
  ⟨Nat.div_lt_of_lt_mul (by rw [Nat.mul_comm]; exact hp), Nat.mod_lt _ (pk_pos ks), by rw [Nat.mul_comm]; exact Nat.div_add_mod p _⟩
/-- axis by axis is the whole -/
theorem run_whole (back : Bool) : ∀ (ks : List Nat) (a : Nat → F) (p : Nat), p < pk ks → run back (axs ks) a p = WT back ks a p
  | [], a, p, hp => by
    have : p = 0 := by rw [pk_nil] at hp; omega
    subst this
    rw [WT_eq, pk_nil]
    show a 0 = S (0 + 1) _
    rw [S_succ, S_zero]
    show a 0 = 0 + a 0 * 1
    grind
  | k :: ks, a, p, hp => by
    obtain ⟨h1, h2, h3⟩ := pk_split hp
    show run back (axs ks) (axis back (pk ks) k a) p = _
    conv => lhs; rw [← h3]
    rw [run_block _ (fit_axs ks) _ _ h2, run_congr (fit_axs ks) (fun r hr => axis_first back k ks a h1 hr) _ h2, run_whole back ks _ _ h2, WT_cons, WT_eq]
    rw [S_congr (g := fun q => S (2 ^ k) (fun i => a (i * pk ks + q) * ker back k i (p / pk ks) * KER back ks q (p % pk ks))) (fun q _ => by rw [tr_ker, S_mul_right]), S_swap]
    refine S_congr (fun i _ => ?_)
    rw [WT_eq, ← S_mul_right]
    refine S_congr (fun q _ => ?_)
    generalize KER back ks q (p % pk ks) = x
    generalize ker back k i (p / pk ks) = y
    grind
/-- the other way round, too -/
theorem run_rev (back : Bool) : ∀ (ks : List Nat) (a : Nat → F) (p : Nat), p < pk ks → run back (axs ks).reverse a p = WT back ks a p
  | [], a, p, hp => run_whole back [] a p hp
  | k :: ks, a, p, hp => by
    obtain ⟨h1, h2, h3⟩ := pk_split hp
    show run back ((pk ks, k) :: axs ks).reverse a p = _
    rw [List.reverse_cons, run_append]
    show axis back (pk ks) k (run back (axs ks).reverse a) p = _
    have hf : Fit (pk ks) (axs ks).reverse := fun x hx => fit_axs ks x (List.mem_reverse.1 hx)
    conv => lhs; rw [← h3]
    rw [axis_first back k ks _ h1 h2, tr_ker, WT_cons]
    refine S_congr (fun i _ => ?_)
    rw [run_block _ hf _ _ h2, run_rev back ks _ _ h2]
end Go.Proofs.YtkcfnbfkbmgchaaDoor.Gm
