/- strconv.Itoa of every int; the texts of tasks and phases. -/
import Derived.Test.YtdhmmllpldjkbaaGreatDoorBt
import Derived.Test.YtdhmmllpldjkbaaGreatDoorGee
import Derived.Lib.AppendIntMem
import Derived.Lib.ItoaLen
namespace Go.Proofs.YtdhmmllpldjkbaaGreatDoor.Gm
open Go.RowKit
set_option linter.unusedVariables false
@[irreducible] def dI (x : Int) : ByteArray := ⟨(Lib.itoa x).toArray⟩
theorem itoa_all (x : Int) (w : World) (h0 : -9223372036854775808 ≤ x) (h1 : x ≤ 9223372036854775807) (hT : Tp w) :
    Calls Tryz.prog 59 #[.int .i64 x] w fun e w' => e = .returned (.string (dI x)) ∧ Below w.heap.size w w' := by
  unfold dI
  refine (Tryz.strconv_Itoa x h0 h1 w hT).mono ?_
  rintro e w' ⟨rfl, k, os, rfl⟩
  exact ⟨rfl, Lib.below_grow _ w (Nat.le_refl _) k os⟩
theorem dI_size (x : Int) (h0 : -9223372036854775808 ≤ x) (h1 : x ≤ 9223372036854775807) : (dI x).size ≤ 21 := by
  unfold dI
  show (Lib.itoa x).toArray.size ≤ 21
  rw [List.size_toArray]
  exact Lib.itoa_length_le x h0 h1
/-- a task's text -/
@[irreducible] def tI (t : T3) : ByteArray := dI t.1 ++ ⟨#[58]⟩ ++ dI t.2.1 ++ ⟨#[45]⟩ ++ dI t.2.2
theorem tI_eq (t : T3) : dI t.1 ++ ⟨#[58]⟩ ++ dI t.2.1 ++ ⟨#[45]⟩ ++ dI t.2.2 = tI t := by unfold tI; rfl
def I3 (t : T3) : Prop := (-9223372036854775808 ≤ t.1 ∧ t.1 ≤ 9223372036854775807) ∧ (-9223372036854775808 ≤ t.2.1 ∧ t.2.1 ≤ 9223372036854775807) ∧ (-9223372036854775808 ≤ t.2.2 ∧ t.2.2 ≤ 9223372036854775807)
theorem tI_size {t : T3} (h : I3 t) : (tI t).size ≤ 65 := by
  unfold tI
  have h1 := dI_size t.1 h.1.1 h.1.2
  have h2 := dI_size t.2.1 h.2.1.1 h.2.1.2
  have h3 := dI_size t.2.2 h.2.2.1 h.2.2.2
  simp only [ByteArray.size_append]
  have e1 : (⟨#[58]⟩ : ByteArray).size = 1 := rfl
  have e2 : (⟨#[45]⟩ : ByteArray).size = 1 := rfl
  omega
theorem join_one (x sep : List UInt8) : Lib.join [x] sep = x := by simp [Lib.join]
theorem join_snoc (l : List (List UInt8)) (x sep : List UInt8) (h : l ≠ []) : Lib.join (l ++ [x]) sep = Lib.join l sep ++ sep ++ x := by
  induction l with
  | nil => exact absurd rfl h
  | cons a r ih =>
    cases r with
    | nil => simp [Lib.join]
    | cons b r =>
      have := ih (by simp)
      show Lib.join (a :: b :: (r ++ [x])) sep = _
      rw [show Lib.join (a :: b :: (r ++ [x])) sep = a ++ sep ++ Lib.join (b :: (r ++ [x])) sep by simp [Lib.join], show b :: (r ++ [x]) = (b :: r) ++ [x] from rfl, this, show Lib.join (a :: b :: r) sep = a ++ sep ++ Lib.join (b :: r) sep by simp [Lib.join]]
      simp [List.append_assoc]
theorem ba_app (a b : List UInt8) : (⟨(a ++ b).toArray⟩ : ByteArray) = ⟨a.toArray⟩ ++ ⟨b.toArray⟩ := by
  apply ByteArray.ext
  simp
theorem ba_empty (a : ByteArray) : a ++ ⟨#[]⟩ = a := by apply ByteArray.ext; simp
theorem jB_nil : jB [] = ⟨#[]⟩ := by unfold jB; rfl
theorem jB_one (x : ByteArray) : jB [x] = x := by
  unfold jB
  rw [List.map_cons, List.map_nil, join_one]
theorem jB_snoc (l : List ByteArray) (x : ByteArray) (h : l ≠ []) : jB (l ++ [x]) = jB l ++ ⟨#[32]⟩ ++ x := by
  unfold jB
  rw [List.map_append, List.map_cons, List.map_nil, join_snoc _ _ _ (by simpa using h), ba_app, ba_app]
theorem jB_le (l : List ByteArray) (h : ∀ x ∈ l, x.size ≤ 65) : (jB l).size ≤ 66 * l.length := by
  suffices H : ∀ n, ∀ l : List ByteArray, l.length = n → (∀ x ∈ l, x.size ≤ 65) → (jB l).size ≤ 66 * n from H _ l rfl h
  intro n
  induction n with
  | zero =>
    intro l hl _
    rw [List.length_eq_zero_iff.1 hl, jB_nil]
    exact Nat.le_refl _
  | succ n ih =>
    intro l hl hx
    rcases List.eq_nil_or_concat l with rfl | ⟨r, x, rfl⟩
    · cases hl
    · rw [List.length_concat] at hl
      rw [List.concat_eq_append] at hx ⊢
      have h1 := ih r (by omega) (fun y hy => hx y (by simp [hy]))
      have h2 := hx x (by simp)
      by_cases hr : r = []
      · subst hr
        rw [List.nil_append, jB_one]; omega
      · rw [jB_snoc r x hr]
        simp only [ByteArray.size_append]
        have e1 : (⟨#[32]⟩ : ByteArray).size = 1 := rfl
        omega
/-- the text of the first m phases -/
def pIR (ll : List (List T3)) : Nat → ByteArray
  | 0 => ⟨#[]⟩
  | m + 1 => pIR ll m ++ (jB ((pg ll m).map tI) ++ ⟨#[10]⟩)
@[irreducible] def pI (ll : List (List T3)) (m : Nat) : ByteArray := pIR ll m
theorem pI_zero (ll : List (List T3)) : pI ll 0 = ⟨#[]⟩ := by unfold pI; rfl
theorem pI_succ (ll : List (List T3)) (m : Nat) : pI ll (m + 1) = pI ll m ++ (jB ((pg ll m).map tI) ++ ⟨#[10]⟩) := by unfold pI; rfl
theorem pI_le (ll : List (List T3)) (K : Nat) (h : ∀ i, i < ll.length → (∀ j, j < (pg ll i).length → I3 (tg (pg ll i) j)) ∧ (pg ll i).length ≤ K) : ∀ m, m ≤ ll.length → (pI ll m).size ≤ m * (66 * K + 1)
  | 0, _ => by rw [pI_zero]; exact Nat.zero_le _
  | m + 1, hm => by
    have ih := pI_le ll K h m (by omega)
    obtain ⟨h1, h2⟩ := h m (by omega)
    have h3 := jB_le ((pg ll m).map tI) (fun x hx => by
      obtain ⟨t, ht, rfl⟩ := List.mem_map.1 hx
      obtain ⟨j, hj, rfl⟩ := List.getElem_of_mem ht
      rw [← tg_lt hj]
      exact tI_size (h1 j hj))
    rw [List.length_map] at h3
    rw [pI_succ]
    simp only [ByteArray.size_append]
    have e1 : (⟨#[10]⟩ : ByteArray).size = 1 := rfl
    rw [Nat.add_mul, Nat.one_mul]
    omega
theorem jI_take (l : List T3) {j : Nat} (h : j < l.length) : jB ((l.take (j + 1)).map tI) = if j = 0 then tI (tg l j) else jB ((l.take j).map tI) ++ ⟨#[32]⟩ ++ tI (tg l j) := by
  rw [List.take_succ_eq_append_getElem h, List.map_append, tg_lt h]
  by_cases h0 : j = 0
  · subst h0
    rw [if_pos rfl, List.take_zero]
    exact jB_one _
  · rw [if_neg h0]
    exact jB_snoc _ _ (by
      intro e
      have := congrArg List.length e
      rw [List.length_map, List.length_take, List.length_nil] at this
      omega)
theorem take_snoc_I (l : List T3) {j : Nat} (h : j < l.length) : (l.take (j + 1)).map tI = (l.take j).map tI ++ [tI (tg l j)] := by
  rw [List.take_succ_eq_append_getElem h, List.map_append, tg_lt h]; rfl
theorem st_app_str2 {o : Oper} {a : Act} {K : Act → World → Prop} {Q : Exit → Act → World → Prop} (w : World) (hgd : o.guard = none) (s x : Operand)
    (ho : o.op = .call { callee := .builtin .append, args := #[s, x], argTypes := #[24, 24] })
    (B : Nat) (v : Value) (l : List ByteArray) (y : ByteArray) (W : World) (g0 : Nat) (hs : a.eval s = v) (hx : a.eval x = .slice (some ⟨g0, 0, none⟩) 1 1)
    (hown : Ost B w v l) (hnew : w.heap[g0]? = some (.cells #[.string y] 9)) (hbel : Below B W w) (hB : B ≤ w.heap.size) (hl : l.length ≤ 1000000)
    (h : ∀ v' w', Ost B w' v' (l ++ [y]) → Below B W w' → w.grownBy w' v.ownBlock → K (a.put o.dst v') w') :
    Oper.wp Tryz.prog o a w K Q := by
  have h0 := st_app_str (ops := #[]) (E := False) (Q := Q) w hgd s x ho B v l y W g0 hs hx hown hnew hbel hB hl h
  rwa [if_pos (by unfold Region.wanted; rw [hgd])] at h0
end Go.Proofs.YtdhmmllpldjkbaaGreatDoor.Gm
