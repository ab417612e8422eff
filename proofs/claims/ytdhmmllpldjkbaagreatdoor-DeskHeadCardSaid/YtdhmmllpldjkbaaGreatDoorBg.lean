/- Great numbers: texts of digits and the numbers that they tell; carries. (Plain: no program in sight.) -/
import Derived.Lib.ItoaNum
import Derived.Lib.TrimByte
import Derived.Lib.Atoi
import Derived.Lib.Bytealg
namespace Go.Proofs.YtdhmmllpldjkbaaGreatDoor.Gm
set_option linter.unusedVariables false
/-- a digit's byte -/
def isD (b : UInt8) : Prop := 48 ≤ b.toNat ∧ b.toNat ≤ 57
def dg (b : UInt8) : Nat := b.toNat - 48
/-- the number that digits tell -/
def nv : List UInt8 → Nat
  | [] => 0
  | b :: r => dg b * 10 ^ r.length + nv r
theorem nv_app (l r : List UInt8) : nv (l ++ r) = nv l * 10 ^ r.length + nv r := by
  induction l with
  | nil => simp [nv]
  | cons b l ih =>
    simp only [List.cons_append, nv, ih, List.length_append]
    rw [Nat.add_mul, Nat.mul_assoc, Nat.pow_add]; omega
def AllD (l : List UInt8) : Prop := ∀ b ∈ l, isD b
theorem dg_lt {b : UInt8} (h : isD b) : dg b < 10 := by unfold dg; have := h.1; have := h.2; omega
theorem nv_lt {l : List UInt8} (h : AllD l) : nv l < 10 ^ l.length := by
  induction l with
  | nil => simp [nv]
  | cons b r ih =>
    have h1 := ih (fun x hx => h x (List.mem_cons_of_mem _ hx))
    have h2 := dg_lt (h b (List.mem_cons_self ..))
    simp only [nv, List.length_cons, Nat.pow_succ]
    have : dg b * 10 ^ r.length ≤ 9 * 10 ^ r.length := Nat.mul_le_mul_right _ (by omega)
    omega
/-- a right number -/
def Cn (l : List UInt8) : Prop := l ≠ [] ∧ AllD l ∧ (1 < l.length → l.head? ≠ some 48)
theorem dg_pos {b : UInt8} (h : isD b) (h0 : b ≠ 48) : 1 ≤ dg b := by
  unfold dg
  have h1 : b.toNat ≠ 48 := fun e => h0 (by
    apply UInt8.toNat.inj; rw [e]; rfl)
  have := h.1
  omega
theorem Cn.ge {l : List UInt8} (h : Cn l) (h1 : 1 < l.length) : 10 ^ (l.length - 1) ≤ nv l := by
  obtain ⟨h0, hd, hz⟩ := h
  cases l with
  | nil => exact absurd rfl h0
  | cons b r =>
    have h2 := dg_pos (hd b (List.mem_cons_self ..)) (fun e => hz h1 (by rw [e]; rfl))
    simp only [nv, List.length_cons, Nat.add_sub_cancel]
    have := Nat.mul_le_mul_right (10 ^ r.length) h2
    omega
theorem Cn.of_ge {l : List UInt8} (h0 : l ≠ []) (hd : AllD l) (hg : 1 < l.length → 10 ^ (l.length - 1) ≤ nv l) : Cn l := by
  refine ⟨h0, hd, fun h1 he => ?_⟩
  cases l with
  | nil => cases he
  | cons b r =>
    have hb : b = 48 := by simpa using he
    subst hb
    have h2 := hg h1
    have h3 := nv_lt (l := r) (fun x hx => hd x (List.mem_cons_of_mem _ hx))
    simp only [nv, List.length_cons, Nat.add_sub_cancel] at h2
    have e : dg 48 = 0 := rfl
    rw [e] at h2
    omega
theorem nv_inj {l r : List UInt8} (hl : AllD l) (hr : AllD r) (hn : l.length = r.length) (h : nv l = nv r) : l = r := by
  induction l generalizing r with
  | nil => cases r with
    | nil => rfl
    | cons => cases hn
  | cons b l ih => cases r with
    | nil => cases hn
    | cons c r =>
      have hn' : l.length = r.length := by simpa using hn
      have hl' : AllD l := fun x hx => hl x (List.mem_cons_of_mem _ hx)
      have hr' : AllD r := fun x hx => hr x (List.mem_cons_of_mem _ hx)
      have h1 := nv_lt hl'
      have h2 := nv_lt hr'
      simp only [nv] at h
      rw [hn'] at h h1
      have hbc : dg b = dg c := by
        have hp : 0 < 10 ^ r.length := Nat.pow_pos (by omega)
        have e1 : (dg b * 10 ^ r.length + nv l) / 10 ^ r.length = dg b := by
          rw [Nat.add_comm, Nat.add_mul_div_right _ _ hp, Nat.div_eq_of_lt h1]; omega
        have e2 : (dg c * 10 ^ r.length + nv r) / 10 ^ r.length = dg c := by
          rw [Nat.add_comm, Nat.add_mul_div_right _ _ hp, Nat.div_eq_of_lt h2]; omega
        rw [← e1, ← e2, h]
      rw [hbc] at h
      have hb := hl b (List.mem_cons_self ..)
      have hc := hr c (List.mem_cons_self ..)
      have : b = c := by
        apply UInt8.toNat.inj
        unfold dg at hbc
        have := hb.1; have := hc.1
        omega
      rw [this, ih hl' hr' hn' (by omega)]
theorem Cn.len_lt {l r : List UInt8} (hl : Cn l) (hr : Cn r) (h : l.length < r.length) : nv l < nv r := by
  have h1 := nv_lt hl.2.1
  have h0 : 1 ≤ l.length := List.length_pos_iff.2 hl.1
  have h2 := hr.ge (by omega)
  have := Nat.pow_le_pow_right (show 0 < 10 by omega) (show l.length ≤ r.length - 1 by omega)
  omega
theorem Cn.inj {l r : List UInt8} (hl : Cn l) (hr : Cn r) (h : nv l = nv r) : l = r := by
  rcases Nat.lt_trichotomy l.length r.length with h1 | h1 | h1
  · have := hl.len_lt hr h1; omega
  · exact nv_inj hl.2.1 hr.2.1 h1 h
  · have := hr.len_lt hl h1; omega
/-- zeros ahead taken off -/
def tzr : List UInt8 → List UInt8
  | [] => []
  | b :: r => if b = 48 then tzr r else b :: r
theorem tz_nv (l : List UInt8) : nv (tzr l) = nv l := by
  induction l with
  | nil => rfl
  | cons b r ih =>
    simp only [tzr]
    split
    · rename_i h; subst h
      rw [ih]
      simp only [nv]
      have e : dg 48 = 0 := rfl
      rw [e]; omega
    · rfl
theorem tz_D {l : List UInt8} (h : AllD l) : AllD (tzr l) := by
  induction l with
  | nil => exact h
  | cons b r ih =>
    simp only [tzr]
    split
    · exact ih (fun x hx => h x (List.mem_cons_of_mem _ hx))
    · exact h
theorem tz_head (l : List UInt8) : (tzr l).head? ≠ some 48 := by
  induction l with
  | nil => simp [tzr]
  | cons b r ih =>
    simp only [tzr]
    split
    · exact ih
    · rename_i h; simpa using h
/-- .. or a nought -/
def tz0 (l : List UInt8) : List UInt8 := if tzr l = [] then [48] else tzr l
theorem tz0_nv (l : List UInt8) : nv (tz0 l) = nv l := by
  unfold tz0
  split
  · rename_i h
    rw [← tz_nv l, h]; rfl
  · exact tz_nv l
theorem tz0_Cn {l : List UInt8} (h : AllD l) : Cn (tz0 l) := by
  unfold tz0
  split
  · refine ⟨by simp, fun b hb => ?_, fun h => ?_⟩
    · have : b = 48 := by simpa using hb
      subst this; exact ⟨by decide, by decide⟩
    · simp at h
  · rename_i h1
    exact ⟨h1, tz_D h, fun _ => tz_head l⟩
/-- lexical order is the order of numbers, where the lengths are the same -/
theorem nv_lex {b c : UInt8} {l r : List UInt8} (hb : isD b) (hc : isD c) (hl : AllD l) (hr : AllD r) (hn : l.length = r.length) (h : b.toNat < c.toNat) : nv (b :: l) < nv (c :: r) := by
  have h1 := nv_lt hl
  have h2 : dg b + 1 ≤ dg c := by unfold dg; have := hb.1; omega
  simp only [nv]
  rw [hn] at h1 ⊢
  have := Nat.mul_le_mul_right (10 ^ r.length) h2
  rw [Nat.add_mul] at this
  omega
/-! Lists of numbers, the lowest first, at a base -/
def bv (B : Nat) : List Nat → Nat
  | [] => 0
  | x :: r => x + B * bv B r
theorem bv_app (B : Nat) (l r : List Nat) : bv B (l ++ r) = bv B l + B ^ l.length * bv B r := by
  induction l with
  | nil => simp [bv]
  | cons x l ih =>
    simp only [List.cons_append, bv, ih, List.length_cons, Nat.pow_succ]
    rw [Nat.mul_add, ← Nat.mul_assoc, Nat.mul_comm B (B ^ l.length)]; omega
/-- the digits of a text, four by four -/
def d4 (f : Nat) (l : List UInt8) : List Nat :=
  match f with
  | 0 => []
  | f + 1 => if l = [] then [] else nv (l.drop (l.length - 4)) :: d4 f (l.take (l.length - 4))
theorem d4_bv (f : Nat) : ∀ l : List UInt8, l.length ≤ 4 * f → bv 10000 (d4 f l) = nv l := by
  induction f with
  | zero =>
    intro l h
    have : l = [] := List.length_eq_zero_iff.1 (by omega)
    subst this; rfl
  | succ f ih =>
    intro l h
    unfold d4
    split
    · rename_i h0; subst h0; rfl
    · rename_i h0
      simp only [bv]
      have hp : 0 < l.length := List.length_pos_iff.2 h0
      rw [ih _ (by rw [List.length_take]; omega)]
      have e : nv l = nv (l.take (l.length - 4) ++ l.drop (l.length - 4)) := by rw [List.take_append_drop]
      rw [e, nv_app]
      by_cases h4 : 4 ≤ l.length
      · have : (l.drop (l.length - 4)).length = 4 := by rw [List.length_drop]; omega
        rw [this]; omega
      · have : l.length - 4 = 0 := by omega
        rw [this]; simp [nv]
theorem d4_lt (f : Nat) : ∀ l : List UInt8, AllD l → ∀ x ∈ d4 f l, x < 10000 := by
  induction f with
  | zero => intro l _ x hx; cases hx
  | succ f ih =>
    intro l hl x hx
    unfold d4 at hx
    split at hx
    · cases hx
    · rcases List.mem_cons.1 hx with rfl | hx
      · have := nv_lt (l := l.drop (l.length - 4)) (fun b hb => hl b (List.mem_of_mem_drop hb))
        have h4 : (l.drop (l.length - 4)).length ≤ 4 := by rw [List.length_drop]; omega
        have := Nat.pow_le_pow_right (show 0 < 10 by omega) h4
        omega
      · exact ih _ (fun b hb => hl b (List.mem_of_mem_take hb)) x hx
theorem d4_len (f : Nat) : ∀ l : List UInt8, l.length ≤ 4 * f → (d4 f l).length ≤ f := by
  induction f with
  | zero => intro l _; exact Nat.zero_le _
  | succ f ih =>
    intro l h
    unfold d4
    split
    · exact Nat.zero_le _
    · have := ih (l.take (l.length - 4)) (by rw [List.length_take]; omega)
      simp only [List.length_cons]; omega
/-- what Atoi tells of digits -/
theorem decFrom_nv (l : List UInt8) (h : AllD l) (acc : Nat) : Lib.decFrom acc l = some (acc * 10 ^ l.length + nv l) := by
  induction l generalizing acc with
  | nil => simp [Lib.decFrom, nv]
  | cons b r ih =>
    have hb := h b (List.mem_cons_self ..)
    have e : Lib.digitVal b = some (dg b) := by
      unfold Lib.digitVal
      rw [if_pos ⟨hb.1, hb.2⟩]; rfl
    simp only [Lib.decFrom, e]
    rw [ih (fun x hx => h x (List.mem_cons_of_mem _ hx))]
    simp only [nv, List.length_cons, Nat.pow_succ]
    rw [Nat.add_mul, Nat.mul_assoc, Nat.mul_comm 10, Nat.add_assoc]
theorem atoi_nv (l : List UInt8) (h : AllD l) (h0 : l ≠ []) : Lib.atoi l = some (nv l : Int) := by
  cases l with
  | nil => exact absurd rfl h0
  | cons b r =>
    have hb := h b (List.mem_cons_self ..)
    have n45 : (b == 45) = false := by
      rw [beq_eq_false_iff_ne]; rintro rfl; exact absurd hb.1 (by decide)
    have n43 : (b == 43) = false := by
      rw [beq_eq_false_iff_ne]; rintro rfl; exact absurd hb.1 (by decide)
    simp only [Lib.atoi, n45, n43]
    unfold Lib.decNat
    rw [show (b :: r).isEmpty = false from rfl]
    rw [if_neg (by simp), decFrom_nv _ h]
    simp
/-- a digit as a byte -/
def db (n : Nat) : UInt8 := UInt8.ofNat (48 + n)
theorem db_nat {n : Nat} (h : n < 10) : (db n).toNat = 48 + n := by
  unfold db
  rw [UInt8.toNat_ofNat']
  omega
theorem db_D {n : Nat} (h : n < 10) : isD (db n) := by
  unfold isD; rw [db_nat h]; omega
theorem dg_db {n : Nat} (h : n < 10) : dg (db n) = n := by
  unfold dg; rw [db_nat h]; omega
/-- four digits -/
def p4 (x : Nat) : List UInt8 := [db (x / 1000), db (x / 100 % 10), db (x / 10 % 10), db (x % 10)]
theorem p4_nv {x : Nat} (h : x < 10000) : nv (p4 x) = x := by
  unfold p4
  simp only [nv, List.length_cons, List.length_nil]
  rw [dg_db (by omega), dg_db (by omega), dg_db (by omega), dg_db (by omega)]
  omega
theorem p4_D {x : Nat} (h : x < 10000) : AllD (p4 x) := by
  intro b hb
  unfold p4 at hb
  simp only [List.mem_cons, List.not_mem_nil, or_false] at hb
  rcases hb with rfl | rfl | rfl | rfl <;> exact db_D (by omega)
theorem dec_p4 {x : Nat} (h : x < 10000) : Lib.decDigits (x + 10000) = 49 :: p4 x := by
  rw [Lib.decDigits, dif_neg (by omega), Lib.decDigits, dif_neg (by omega), Lib.decDigits, dif_neg (by omega), Lib.decDigits, dif_neg (by omega), Lib.decDigits, dif_pos (by omega)]
  unfold p4 db
  rw [show (x + 10000) / 10 / 10 / 10 / 10 = 1 by omega, show (x + 10000) / 10 / 10 / 10 % 10 = x / 1000 by omega, show (x + 10000) / 10 / 10 % 10 = x / 100 % 10 by omega, show (x + 10000) / 10 % 10 = x / 10 % 10 by omega, show (x + 10000) % 10 = x % 10 by omega]
  rfl
theorem itoa_p4 {x : Nat} (h : x < 10000) : Lib.itoa ((x : Int) + 10000) = 49 :: p4 x := by
  unfold Lib.itoa
  rw [if_neg (by omega), show ((x : Int) + 10000).toNat = x + 10000 by omega, dec_p4 h]
/-- the carries at a base: f k stands at the place k -/
def cr (B : Nat) (f : Nat → Nat) : Nat → Nat
  | 0 => 0
  | k + 1 => (cr B f k + f k) / B
/-- what stays at the place k -/
def chk1 (B : Nat) (f : Nat → Nat) (k : Nat) : Nat := (cr B f k + f k) % B
theorem chk1_lt {B : Nat} (h : 0 < B) (f : Nat → Nat) (k : Nat) : chk1 B f k < B := Nat.mod_lt _ h
/-- the sum of the first k numbers at their places -/
def sv (B : Nat) (f : Nat → Nat) : Nat → Nat
  | 0 => 0
  | k + 1 => sv B f k + B ^ k * f k
theorem sv_add (B : Nat) (f g : Nat → Nat) (k : Nat) : sv B (fun j => f j + g j) k = sv B f k + sv B g k := by
  induction k with
  | zero => rfl
  | succ k ih => simp only [sv, ih]; rw [Nat.mul_add]; omega
theorem sv_congr (B : Nat) (f g : Nat → Nat) (k : Nat) (h : ∀ j, j < k → f j = g j) : sv B f k = sv B g k := by
  induction k with
  | zero => rfl
  | succ k ih => simp only [sv]; rw [ih (fun j hj => h j (by omega)), h k (by omega)]
theorem sv_zero (B : Nat) (f : Nat → Nat) (n k : Nat) (h : ∀ j, n ≤ j → f j = 0) : sv B f (n + k) = sv B f n := by
  induction k with
  | zero => rfl
  | succ k ih => rw [← Nat.add_assoc, sv, ih, h _ (by omega)]; simp
/-- one step: what stays and what is carried -/
theorem cr_step (B : Nat) (f : Nat → Nat) (k X : Nat) (h : X + B ^ k * cr B f k = sv B f k) : X + B ^ k * chk1 B f k + B ^ (k + 1) * cr B f (k + 1) = sv B f (k + 1) := by
  simp only [cr, sv, ← h]
  unfold chk1
  have h := Nat.div_add_mod (cr B f k + f k) B
  generalize (cr B f k + f k) / B = q at *
  generalize (cr B f k + f k) % B = r at *
  have h2 : B ^ k * cr B f k + B ^ k * f k = B ^ (k + 1) * q + B ^ k * r := by
    rw [← Nat.mul_add, ← h, Nat.mul_add, Nat.pow_succ, Nat.mul_assoc]
  omega
/-- chunks, the last ahead, as one row of digits -/
def tx (f : Nat → Nat) : Nat → List UInt8
  | 0 => []
  | k + 1 => p4 (chk1 10000 f k) ++ tx f k
theorem tx_len (f : Nat → Nat) (k : Nat) : (tx f k).length = 4 * k := by
  induction k with
  | zero => rfl
  | succ k ih => simp only [tx, List.length_append, ih]; unfold p4; simp; omega
theorem tx_D (f : Nat → Nat) (k : Nat) : AllD (tx f k) := by
  induction k with
  | zero => intro b hb; cases hb
  | succ k ih =>
    intro b hb
    rcases List.mem_append.1 hb with h | h
    · exact p4_D (chk1_lt (by omega) f k) b h
    · exact ih b h
theorem tx_nv (f : Nat → Nat) (k : Nat) : nv (tx f k) + 10000 ^ k * cr 10000 f k = sv 10000 f k := by
  induction k with
  | zero => simp [tx, nv, cr, sv]
  | succ k ih =>
    rw [← cr_step 10000 f k _ ih]
    simp only [tx, nv_app, tx_len]
    rw [p4_nv (chk1_lt (by omega) f k)]
    have e : (10 : Nat) ^ (4 * k) = 10000 ^ k := by rw [Nat.pow_mul]
    rw [e, Nat.mul_comm (chk1 10000 f k)]
    omega
/-- single digits, the last ahead -/
def tx1 (f : Nat → Nat) : Nat → List UInt8
  | 0 => []
  | k + 1 => db (chk1 10 f k) :: tx1 f k
theorem tx1_len (f : Nat → Nat) (k : Nat) : (tx1 f k).length = k := by
  induction k with
  | zero => rfl
  | succ k ih => simp only [tx1, List.length_cons, ih]
theorem tx1_D (f : Nat → Nat) (k : Nat) : AllD (tx1 f k) := by
  induction k with
  | zero => intro b hb; cases hb
  | succ k ih =>
    intro b hb
    rcases List.mem_cons.1 hb with rfl | h
    · exact db_D (chk1_lt (by omega) f k)
    · exact ih b h
theorem tx1_nv (f : Nat → Nat) (k : Nat) : nv (tx1 f k) + 10 ^ k * cr 10 f k = sv 10 f k := by
  induction k with
  | zero => simp [tx1, nv, cr, sv]
  | succ k ih =>
    rw [← cr_step 10 f k _ ih]
    simp only [tx1, nv, tx1_len]
    rw [dg_db (chk1_lt (by omega) f k), Nat.mul_comm (chk1 10 f k)]
    omega
/-- a list's numbers by their places -/
def at0 (l : List Nat) (k : Nat) : Nat := l.getD k 0
theorem at0_lt {l : List Nat} {k : Nat} (h : k < l.length) : at0 l k = l[k] := by unfold at0; rw [List.getD, List.getElem?_eq_getElem h]; rfl
theorem at0_out {l : List Nat} {k : Nat} (h : l.length ≤ k) : at0 l k = 0 := by unfold at0; rw [List.getD, List.getElem?_eq_none h]; rfl
theorem sv_bv (B : Nat) (l : List Nat) (k : Nat) (h : l.length ≤ k) : sv B (at0 l) k = bv B l := by
  rw [show k = l.length + (k - l.length) by omega, sv_zero _ _ _ _ (fun j hj => at0_out hj)]
  suffices H : ∀ n, n ≤ l.length → sv B (at0 l) n = bv B (l.take n) by
    rw [H _ (Nat.le_refl _), List.take_length]
  intro n
  induction n with
  | zero => intro _; simp [sv, bv]
  | succ n ih =>
    intro hn
    rw [List.take_succ_eq_append_getElem hn, bv_app, sv, ih (by omega)]
    simp only [bv, List.length_take, Nat.min_eq_left (Nat.le_of_lt hn)]
    rw [at0_lt hn]; simp
theorem tx_done (l : List Nat) (n : Nat) (h : l.length ≤ n) (h0 : cr 10000 (at0 l) n = 0) : nv (tx (at0 l) n) = bv 10000 l := by
  have h1 := tx_nv (at0 l) n
  rw [h0, sv_bv 10000 l n h] at h1
  simpa using h1
/-- how great a carry is -/
theorem cr_le (B : Nat) (hB : 2 ≤ B) (f : Nat → Nat) (M : Nat) (h : ∀ k, f k ≤ M) : ∀ k, (B - 1) * cr B f k ≤ M
  | 0 => by simp [cr]
  | k + 1 => by
    have ih := cr_le B hB f M h k
    have hx := h k
    simp only [cr]
    have h1 := Nat.div_mul_le_self (cr B f k + f k) B
    have h2 : (B - 1) * cr B f k = B * cr B f k - cr B f k := by rw [Nat.sub_mul, Nat.one_mul]
    have h3 : (B - 1) * ((cr B f k + f k) / B) = B * ((cr B f k + f k) / B) - (cr B f k + f k) / B := by rw [Nat.sub_mul, Nat.one_mul]
    rw [Nat.mul_comm] at h1
    generalize B * ((cr B f k + f k) / B) = u at *
    generalize (cr B f k + f k) / B = q at *
    have h4 : (B - 1) * q ≤ u := by omega
    have h5 : q ≤ M ∨ M < q := by omega
    rcases Nat.lt_or_ge M ((B - 1) * q) with h6 | h6
    · exfalso
      have h7 : M < u - q := by omega
      have h8 : u ≤ cr B f k + M := by omega
      have h9 : q < cr B f k := by omega
      have h10 := Nat.mul_le_mul_left (B - 1) (show q + 1 ≤ cr B f k from h9)
      rw [Nat.mul_add] at h10
      omega
    · exact h6
theorem cr_end (f : Nat → Nat) (n : Nat) (h : ∀ x, f x ≤ 9223372036854775807) (h0 : ∀ x, n ≤ x → f x = 0) : cr 10000 f (n + 4) = 0 := by
  have hc := cr_le 10000 (by omega) f _ h n
  have e1 : cr 10000 f (n + 1) = cr 10000 f n / 10000 := by rw [cr, h0 _ (by omega)]; rfl
  have e2 : cr 10000 f (n + 2) = cr 10000 f (n + 1) / 10000 := by rw [cr, h0 _ (by omega)]; rfl
  have e3 : cr 10000 f (n + 3) = cr 10000 f (n + 2) / 10000 := by rw [cr, h0 _ (by omega)]; rfl
  have e4 : cr 10000 f (n + 4) = cr 10000 f (n + 3) / 10000 := by rw [cr, h0 _ (by omega)]; rfl
  omega
/-- a text's digits, the lowest first -/
def da (a : List UInt8) (k : Nat) : Nat := if k < a.length then dg (a.getD (a.length - 1 - k) 0) else 0
theorem da_lt {a : List UInt8} (h : AllD a) (k : Nat) : da a k < 10 := by
  unfold da
  split
  · rename_i hk
    rw [List.getD, List.getElem?_eq_getElem (by omega)]
    exact dg_lt (h _ (List.getElem_mem _))
  · omega
theorem sv_da (a : List UInt8) (k : Nat) (h : a.length ≤ k) : sv 10 (da a) k = nv a := by
  rw [show k = a.length + (k - a.length) by omega, sv_zero _ _ _ _ (fun j hj => by unfold da; rw [if_neg (by omega)])]
  clear h
  induction a with
  | nil => rfl
  | cons b r ih =>
    simp only [List.length_cons, sv, nv]
    have e1 : sv 10 (da (b :: r)) r.length = sv 10 (da r) r.length := sv_congr _ _ _ _ (fun j hj => by
      unfold da
      rw [if_pos (by simp only [List.length_cons]; omega), if_pos hj]
      congr 1
      rw [show (b :: r).length - 1 - j = (r.length - 1 - j) + 1 by simp only [List.length_cons]; omega]
      rfl)
    have e2 : da (b :: r) r.length = dg b := by
      unfold da
      rw [if_pos (by simp), show (b :: r).length - 1 - r.length = 0 by simp only [List.length_cons]; omega]
      rfl
    rw [e1, e2, ih, Nat.mul_comm (10 ^ r.length)]; omega
/-- the sum of two texts, as at school -/
def fs (a b : List UInt8) (k : Nat) : Nat := da a k + da b k
theorem fs_le {a b : List UInt8} (ha : AllD a) (hb : AllD b) (k : Nat) : fs a b k ≤ 18 := by
  have := da_lt ha k; have := da_lt hb k; unfold fs; omega
theorem fs_cr {a b : List UInt8} (ha : AllD a) (hb : AllD b) (k : Nat) : cr 10 (fs a b) k ≤ 2 := by
  have := cr_le 10 (by omega) (fs a b) 18 (fs_le ha hb) k
  omega
theorem fs_end {a b : List UInt8} (ha : AllD a) (hb : AllD b) (n : Nat) (h1 : a.length ≤ n) (h2 : b.length ≤ n) : cr 10 (fs a b) (n + 1) = 0 := by
  have h := fs_cr ha hb n
  have e : fs a b n = 0 := by unfold fs da; rw [if_neg (by omega), if_neg (by omega)]
  rw [cr, e]; omega
theorem sum_nv {a b : List UInt8} (n : Nat) (h1 : a.length ≤ n) (h2 : b.length ≤ n) (h0 : cr 10 (fs a b) n = 0) : nv (tx1 (fs a b) n) = nv a + nv b := by
  have h := tx1_nv (fs a b) n
  rw [h0] at h
  have e : sv 10 (fs a b) n = nv a + nv b := by
    rw [← sv_da a n h1, ← sv_da b n h2]; exact sv_add 10 (da a) (da b) n
  rw [e] at h
  simpa using h
theorem sum_Cn {a b : List UInt8} (ha : Cn a) (hb : Cn b) (n : Nat) (h1 : a.length ≤ n) (h2 : b.length ≤ n) (h0 : cr 10 (fs a b) n = 0) (hm : n = a.length ∨ n = b.length ∨ (∃ m, n = m + 1 ∧ a.length ≤ m ∧ b.length ≤ m ∧ cr 10 (fs a b) m ≠ 0)) : Cn (tx1 (fs a b) n) := by
  have ha1 : 1 ≤ a.length := List.length_pos_iff.2 ha.1
  refine Cn.of_ge (fun e => ?_) (tx1_D _ _) (fun h => ?_)
  · have := tx1_len (fs a b) n
    rw [e] at this
    simp at this; omega
  · rw [tx1_len] at h ⊢
    rw [sum_nv n h1 h2 h0]
    rcases hm with rfl | rfl | ⟨m, rfl, hm1, hm2, hm⟩
    · have := ha.ge h; omega
    · have := hb.ge h; omega
    · have h3 := tx1_nv (fs a b) m
      have e : sv 10 (fs a b) m = nv a + nv b := by
        rw [← sv_da a m hm1, ← sv_da b m hm2]; exact sv_add 10 (da a) (da b) m
      rw [e] at h3
      have : 10 ^ m * 1 ≤ 10 ^ m * cr 10 (fs a b) m := Nat.mul_le_mul_left _ (by omega)
      simp only [Nat.add_sub_cancel]
      omega
/-- a list of numbers, the highest first, at the base ten -/
def hv : List Nat → Nat
  | [] => 0
  | x :: r => x * 10 ^ r.length + hv r
theorem hv_set (l : List Nat) (p x : Nat) (h : p < l.length) : hv (l.set p x) + at0 l p * 10 ^ (l.length - 1 - p) = hv l + x * 10 ^ (l.length - 1 - p) := by
  induction l generalizing p with
  | nil => cases h
  | cons y r ih =>
    cases p with
    | zero => simp only [List.set, hv, List.length_cons, at0, List.getD_cons_zero]; simp only [Nat.add_sub_cancel, Nat.sub_zero]; omega
    | succ p =>
      have h' : p < r.length := by simpa using h
      have := ih p h'
      simp only [List.set_cons_succ, hv, List.length_cons, List.length_set, at0, List.getD_cons_succ] at this ⊢
      rw [show r.length + 1 - 1 - (p + 1) = r.length - 1 - p by omega]
      omega
theorem hv_add (l : List Nat) (p x : Nat) (h : p < l.length) : hv (l.set p (at0 l p + x)) = hv l + x * 10 ^ (l.length - 1 - p) := by
  have := hv_set l p (at0 l p + x) h
  rw [Nat.add_mul] at this
  omega
theorem at0_set (l : List Nat) (p x k : Nat) (h : p < l.length) : at0 (l.set p x) k = if k = p then x else at0 l k := by
  unfold at0
  rw [List.getD, List.getD, List.getElem?_set]
  by_cases e : p = k
  · subst e; rw [if_pos rfl, if_pos rfl, if_pos h]; rfl
  · rw [if_neg e, if_neg (fun h => e h.symm)]
/-- one carry -/
def car (l : List Nat) (k : Nat) : List Nat := (l.set (k - 1) (at0 l (k - 1) + at0 l k / 10)).set k (at0 l k % 10)
theorem car_hv (l : List Nat) (k : Nat) (h0 : 0 < k) (h : k < l.length) : hv (car l k) = hv l := by
  unfold car
  have h1 := hv_add l (k - 1) (at0 l k / 10) (by omega)
  have h2 := hv_set (l.set (k - 1) (at0 l (k - 1) + at0 l k / 10)) k (at0 l k % 10) (by rw [List.length_set]; exact h)
  rw [h1, at0_set _ _ _ _ (by omega), if_neg (by omega), List.length_set] at h2
  have e : l.length - 1 - (k - 1) = (l.length - 1 - k) + 1 := by omega
  rw [e, Nat.pow_succ] at h2
  have h3 := Nat.div_add_mod (at0 l k) 10
  generalize 10 ^ (l.length - 1 - k) = T at *
  have h4 : at0 l k * T = at0 l k / 10 * (T * 10) + at0 l k % 10 * T := by
    rw [← Nat.mul_assoc, Nat.mul_right_comm, ← Nat.add_mul, Nat.mul_comm (at0 l k / 10), h3]
  omega
theorem nv_hv (l : List Nat) (h : ∀ x ∈ l, x < 10) : nv (l.map db) = hv l := by
  induction l with
  | nil => rfl
  | cons x r ih =>
    simp only [List.map_cons, nv, hv, List.length_map]
    rw [ih (fun y hy => h y (List.mem_cons_of_mem _ hy)), dg_db (h x (List.mem_cons_self ..))]
theorem map_db_D (l : List Nat) (h : ∀ x ∈ l, x < 10) : AllD (l.map db) := by
  intro b hb
  obtain ⟨x, hx, rfl⟩ := List.mem_map.1 hb
  exact db_D (h x hx)
theorem hv_rep (n : Nat) : hv (List.replicate n 0) = 0 := by
  induction n with
  | zero => rfl
  | succ n ih => rw [List.replicate_succ, hv, ih]; simp
/-- what a text tells so far -/
theorem nv_take (a : List UInt8) (i : Nat) (h : i < a.length) : nv (a.take (i + 1)) = nv (a.take i) * 10 + dg (a.getD i 0) := by
  rw [List.take_succ_eq_append_getElem h, nv_app, List.getD, List.getElem?_eq_getElem h]
  simp [nv]
theorem Cn.len_le {l : List UInt8} (h : Cn l) {k : Nat} (hk : 1 ≤ k) (hn : nv l < 10 ^ k) : l.length ≤ k := by
  apply Classical.byContradiction
  intro hc
  have h1 := h.ge (by omega)
  have := Nat.pow_le_pow_right (show 0 < 10 by omega) (show k ≤ l.length - 1 by omega)
  omega
theorem trim_tz (l : List UInt8) : Lib.trimLeftB l 48 = tzr l := by
  unfold Lib.trimLeftB
  induction l with
  | nil => rfl
  | cons b r ih =>
    rw [List.dropWhile_cons]
    simp only [tzr]
    by_cases h : b = 48
    · subst h; simpa using ih
    · rw [if_neg h, if_neg (by simpa using h)]
/-- strings.Compare where the lengths are the same -/
theorem cmp_nv (l r : List UInt8) (hl : AllD l) (hr : AllD r) (hn : l.length = r.length) : Lib.compareBytes l r = if nv l < nv r then -1 else if nv l = nv r then 0 else 1 := by
  induction l generalizing r with
  | nil => cases r with
    | nil => rfl
    | cons => cases hn
  | cons b l ih => cases r with
    | nil => cases hn
    | cons c r =>
      have hn' : l.length = r.length := by simpa using hn
      have hl' : AllD l := fun x hx => hl x (List.mem_cons_of_mem _ hx)
      have hr' : AllD r := fun x hx => hr x (List.mem_cons_of_mem _ hx)
      have hb := hl b (List.mem_cons_self ..)
      have hc := hr c (List.mem_cons_self ..)
      simp only [Lib.compareBytes]
      by_cases h1 : b < c
      · rw [if_pos h1, if_pos (nv_lex hb hc hl' hr' hn' (UInt8.lt_iff_toNat_lt.1 h1))]
      · rw [if_neg h1]
        by_cases h2 : c < b
        · have := nv_lex hc hb hr' hl' hn'.symm (UInt8.lt_iff_toNat_lt.1 h2)
          rw [if_pos h2, if_neg (by omega), if_neg (by omega)]
        · have e : b = c := by
            apply UInt8.toNat.inj
            have q1 : ¬ b.toNat < c.toNat := fun h => h1 (UInt8.lt_iff_toNat_lt.2 h)
            have q2 : ¬ c.toNat < b.toNat := fun h => h2 (UInt8.lt_iff_toNat_lt.2 h)
            omega
          subst e
          rw [if_neg h2, ih r hl' hr' hn']
          simp only [nv, hn']
          generalize dg b * 10 ^ r.length = g
          by_cases a1 : nv l < nv r
          · rw [if_pos a1, if_pos (show g + nv l < g + nv r by omega)]
          · rw [if_neg a1, if_neg (show ¬ g + nv l < g + nv r by omega)]
            by_cases a2 : nv l = nv r
            · rw [if_pos a2, if_pos (show g + nv l = g + nv r by omega)]
            · rw [if_neg a2, if_neg (show ¬ g + nv l = g + nv r by omega)]
end Go.Proofs.YtdhmmllpldjkbaaGreatDoor.Gm
