/- Plain: cyclic products and transforms; all axes at once. -/
import Derived.Test.YtkcfnbfkbmgchaaDoorWh
import Derived.Test.YtkcfnbfkbmgchaaDoorLists
namespace Go.Proofs.YtkcfnbfkbmgchaaDoor.Gm
theorem S_turn (n : Nat) (g : Nat → F) : S n (fun k => g ((k + 1) % n)) = S n g := by
  cases n with
  | zero => rfl
  | succ m =>
    rw [S_succ, S_front, Nat.mod_self]
    rw [S_congr (g := fun i => g (i + 1)) (fun i hi => by rw [Nat.mod_eq_of_lt (by omega)])]
    grind
theorem S_rot (n s : Nat) (f : Nat → F) : S n (fun k => f ((k + s) % n)) = S n f := by
  induction s with
  | zero => exact S_congr (fun i hi => by rw [Nat.add_zero, Nat.mod_eq_of_lt hi])
  | succ s ih =>
    rw [← ih, ← S_turn n (fun k => f ((k + s) % n))]
    exact S_congr (fun i hi => by
      show _ = f (((i + 1) % n + s) % n)
      rw [Nat.mod_add_mod, show i + (s + 1) = i + 1 + s by omega])
/-- the cyclic product -/
def cyc (n : Nat) (a b : Nat → F) (k : Nat) : F := S n (fun i => a i * b ((k + (n - i)) % n))
theorem pow_modn {x : F} {n : Nat} (hx : x ^ n = 1) (m : Nat) : x ^ (m % n) = x ^ m := by
  conv => rhs; rw [← Nat.div_add_mod m n, pow_add, pow_mul, hx, one_pow]
  grind
theorem cyc_dft {w : F} {n : Nat} (hw : w ^ n = 1) (a b : Nat → F) (j : Nat) : dft n w (cyc n a b) j = dft n w a j * dft n w b j := by
  have hx : (w ^ j) ^ n = 1 := by rw [← pow_mul, Nat.mul_comm, pow_mul, hw, one_pow]
  show S n (fun k => S n (fun i => a i * b ((k + (n - i)) % n)) * (w ^ j) ^ k) = S n (fun i => a i * (w ^ j) ^ i) * S n (fun i => b i * (w ^ j) ^ i)
  generalize w ^ j = x at *
  rw [S_congr (g := fun k => S n (fun i => a i * b ((k + (n - i)) % n) * x ^ k)) (fun k _ => by rw [S_mul_right]), S_swap, ← S_mul_right]
  refine S_congr (fun i hi => ?_)
  rw [← S_rot n (n - i) (fun m => b m * x ^ m), ← S_mul_left]
  refine S_congr (fun k hk => ?_)
  show _ = a i * x ^ i * (b ((k + (n - i)) % n) * x ^ ((k + (n - i)) % n))
  rw [pow_modn hx]
  have : x ^ i * x ^ (k + (n - i)) = x ^ k := by
    rw [← pow_add, show i + (k + (n - i)) = k + n by omega, pow_add, hx]; grind
  generalize b ((k + (n - i)) % n) = y
  rw [← this]
  grind
theorem cyc_cv {n : Nat} {a b : Nat → F} (ha : ∀ i, n ≤ i → a i = 0) (hb : ∀ i, n ≤ i → b i = 0) {k : Nat} (hk : k < n) : cyc n a b k = cv a b k + cv a b (k + n) := by
  unfold cyc cv
  obtain ⟨m, rfl⟩ : ∃ m, n = (k + 1) + m := ⟨n - k - 1, by omega⟩
  rw [S_split, show k + (k + 1 + m) + 1 = (k + 1) + (m + (k + 1)) by omega, S_split (k + 1) (m + (k + 1))]
  rw [S_all0 (n := k + 1) (f := fun i => a i * b (k + (k + 1 + m) - i)) (fun i hi => by rw [hb _ (by omega)]; grind)]
  rw [S_more (m := m) (n := m + (k + 1)) (by omega) (f := fun i => a (k + 1 + i) * b (k + (k + 1 + m) - (k + 1 + i))) (fun i h1 h2 => by rw [ha _ (by omega)]; grind)]
  have e1 : S (k + 1) (fun i => a i * b ((k + (k + 1 + m - i)) % (k + 1 + m))) = S (k + 1) (fun i => a i * b (k - i)) := S_congr (fun i hi => by
    rw [show k + (k + 1 + m - i) = (k - i) + (k + 1 + m) by omega, Nat.add_mod_right, Nat.mod_eq_of_lt (by omega)])
  have e2 : S m (fun i => a (k + 1 + i) * b ((k + (k + 1 + m - (k + 1 + i))) % (k + 1 + m))) = S m (fun i => a (k + 1 + i) * b (k + (k + 1 + m) - (k + 1 + i))) := S_congr (fun i hi => by
    rw [Nat.mod_eq_of_lt (by omega)]; congr 2; omega)
  rw [e1, e2]
  grind
theorem root_pow (k : Nat) (hk : k ≤ 32) : root k ^ (2 ^ k) = 1 := (rt_root k hk).full
/-- back from the product of transforms -/
theorem tr_cyc {k : Nat} (hk : k ≤ 20) (a b : Nat → F) {i : Nat} (hi : i < 2 ^ k) : tr true k (fun j => tr false k a j * tr false k b j) i = cyc (2 ^ k) a b i := by
  have h := tr_back hk (cyc (2 ^ k) a b) hi false
  rw [show (!false) = true from rfl] at h
  rw [← h]
  refine tr_congr (fun j _ => ?_) i
  rw [tr_fwd, tr_fwd, tr_fwd, cyc_dft (root_pow k (by omega))]
/-- twisted -/
theorem cv_twist (a b : Nat → F) (w : F) (k : Nat) : cv (fun i => a i * w ^ i) (fun i => b i * w ^ i) k = w ^ k * cv a b k := by
  unfold cv
  rw [← S_mul_left]
  refine S_congr (fun i hi => ?_)
  have : w ^ k = w ^ i * w ^ (k - i) := by rw [← pow_add]; congr 1; omega
  show a i * w ^ i * (b (k - i) * w ^ (k - i)) = w ^ k * (a i * b (k - i))
  rw [this]
  generalize w ^ i = x
  generalize w ^ (k - i) = y
  generalize a i = p
  generalize b (k - i) = q
  clear this
  grind
theorem skew_eq {k : Nat} (hk : k ≤ 20) {a b : Nat → F} (ha : ∀ i, 2 ^ k ≤ i → a i = 0) (hb : ∀ i, 2 ^ k ≤ i → b i = 0) {i : Nat} (hi : i < 2 ^ k) :
    tr true k (fun j => tr false k (fun i => a i * root (k + 1) ^ i) j * tr false k (fun i => b i * root (k + 1) ^ i) j) i * inv (root (k + 1)) ^ i = cv a b i - cv a b (i + 2 ^ k) := by
  rw [tr_cyc hk _ _ hi, cyc_cv (fun i h => by rw [ha i h]; grind) (fun i h => by rw [hb i h]; grind) hi, cv_twist, cv_twist, pow_add, root_half k (by omega)]
  have h1 : root (k + 1) ^ i * inv (root (k + 1)) ^ i = 1 := by rw [← pow_mul_pow, mul_inv _ (root_ne _), one_pow]
  generalize root (k + 1) ^ i = x at *
  generalize inv (root (k + 1)) ^ i = y at *
  grind
/-- whole transforms: there and back -/
theorem WT_tr (back : Bool) (k : Nat) (ks : List Nat) (a : Nat → F) (p : Nat) : WT back (k :: ks) a p = tr back k (fun i => WT back ks (fun r => a (i * pk ks + r)) (p % pk ks)) (p / pk ks) := by
  rw [WT_cons, tr_ker]
theorem WT_lin (back : Bool) (ks : List Nat) (n : Nat) (g : Nat → Nat → F) (c : Nat → F) (p : Nat) : WT back ks (fun r => S n (fun i => g i r * c i)) p = S n (fun i => WT back ks (g i) p * c i) := by
  rw [WT_eq, S_congr (g := fun q => S n (fun i => g i q * c i * KER back ks q p)) (fun q _ => by rw [S_mul_right]), S_swap]
  refine S_congr (fun i _ => ?_)
  rw [WT_eq, ← S_mul_right]
  refine S_congr (fun q _ => ?_)
  generalize KER back ks q p = x
  grind
theorem WT_back : ∀ (ks : List Nat), (∀ k ∈ ks, k ≤ 20) → ∀ (a : Nat → F) (b : Bool) (p : Nat), p < pk ks → WT (!b) ks (WT b ks a) p = a p
  | [], _, a, b, p, hp => by
    have e : ∀ (b : Bool) (a : Nat → F), WT b [] a p = a p := fun b a => by
      rw [← run_whole b [] a p hp]; rfl
    rw [e, e]
  | k :: ks, hk, a, b, p, hp => by
    obtain ⟨h1, h2, h3⟩ := pk_split hp
    rw [WT_tr, tr_congr (b := tr b k (fun i => a (i * pk ks + p % pk ks))) (fun i hi => ?_), tr_back (hk k (by simp)) _ h1, h3]
    rw [WT_congr (b := fun r => S (2 ^ k) (fun j => WT b ks (fun x => a (j * pk ks + x)) r * ker b k j i)) (fun r hr => ?_), WT_lin, tr_ker]
    · refine S_congr (fun j _ => ?_)
      rw [WT_back ks (fun x hx => hk x (by simp [hx])) _ b _ h2]
    · rw [WT_cons, blk_div hr, blk_mod hr]
/-- places added, round each axis -/
def AD : List Nat → Nat → Nat → Nat
  | [], _, _ => 0
  | k :: ks, i, j => (i / pk ks + j / pk ks) % 2 ^ k * pk ks + AD ks (i % pk ks) (j % pk ks)
theorem AD_lt : ∀ (ks : List Nat) (i j : Nat), AD ks i j < pk ks
  | [], _, _ => by simp [AD, pk_nil]
  | k :: ks, i, j => by
    have h1 := AD_lt ks (i % pk ks) (j % pk ks)
    have h2 := Nat.mod_lt (i / pk ks + j / pk ks) (Nat.two_pow_pos k)
    have h3 := Nat.mul_le_mul_right (pk ks) (show (i / pk ks + j / pk ks) % 2 ^ k + 1 ≤ 2 ^ k from h2)
    rw [Nat.add_mul, Nat.one_mul] at h3
    show _ < 2 ^ k * pk ks
    simp only [AD]
    omega
theorem ker_add {k : Nat} (hk : k ≤ 32) (i j p : Nat) : ker false k ((i + j) % 2 ^ k) p = ker false k i p * ker false k j p := by
  rw [ker_f, ker_f, ker_f, ← pow_add, ← Nat.mul_add]
  have hx : (root k ^ p) ^ (2 ^ k) = 1 := by rw [← pow_mul, Nat.mul_comm, pow_mul, root_pow k hk, one_pow]
  rw [pow_mul, pow_mul, pow_modn hx]
theorem KER_add : ∀ (ks : List Nat), (∀ k ∈ ks, k ≤ 32) → ∀ (i j p : Nat), KER false ks (AD ks i j) p = KER false ks i p * KER false ks j p
  | [], _, _, _, _ => by simp only [KER]; grind
  | k :: ks, hk, i, j, p => by
    have h1 := AD_lt ks (i % pk ks) (j % pk ks)
    simp only [KER, AD]
    rw [blk_div h1, blk_mod h1, KER_add ks (fun x hx => hk x (by simp [hx])), ker_add (hk k (by simp))]
    grind
/-- the product round all axes -/
def cycs (ks : List Nat) (a b : Nat → F) (p : Nat) : F := S (pk ks) (fun i => S (pk ks) (fun j => if AD ks i j = p then a i * b j else 0))
theorem S_pick {n k : Nat} (hk : k < n) (x : F) (f : Nat → F) : S n (fun q => (if k = q then x else 0) * f q) = x * f k := by
  rw [S_single hk (fun i _ hne => by rw [if_neg (fun e => hne e.symm)]; grind), if_pos rfl]
theorem cycs_WT {ks : List Nat} (hk : ∀ k ∈ ks, k ≤ 32) (a b : Nat → F) (p : Nat) : WT false ks (cycs ks a b) p = WT false ks a p * WT false ks b p := by
  rw [WT_eq, WT_eq, WT_eq, ← S_mul_right]
  rw [S_congr (g := fun q => S (pk ks) (fun i => S (pk ks) (fun j => (if AD ks i j = q then a i * b j else 0) * KER false ks q p))) (fun q _ => by
    rw [cycs, ← S_mul_right]; exact S_congr (fun i _ => by rw [S_mul_right])), S_swap]
  refine S_congr (fun i _ => ?_)
  rw [S_swap, ← S_mul_left]
  refine S_congr (fun j _ => ?_)
  rw [S_pick (AD_lt ks i j), KER_add ks hk]
  grind
theorem WT_cycs {ks : List Nat} (hk : ∀ k ∈ ks, k ≤ 20) (a b : Nat → F) {p : Nat} (hp : p < pk ks) : WT true ks (fun j => WT false ks a j * WT false ks b j) p = cycs ks a b p := by
  have h := WT_back ks hk (cycs ks a b) false p hp
  rw [show (!false) = true from rfl] at h
  rw [← h]
  exact WT_congr (fun j _ => by rw [cycs_WT (fun k hx => by have := hk k hx; omega)]) p
end Go.Proofs.YtkcfnbfkbmgchaaDoor.Gm
