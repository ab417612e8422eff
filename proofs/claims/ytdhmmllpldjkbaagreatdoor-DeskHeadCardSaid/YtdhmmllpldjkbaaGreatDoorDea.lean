/- Laid together by wip/merge.py: Dkp Dkn Dk1 Dk2 Dk3. -/
import Derived.Lib.Split
import Derived.Lib.IndexBytes
import Derived.Lib.SplitLaws
import Derived.Test.YtdhmmllpldjkbaaGreatDoorBg
import Derived.Test.YtdhmmllpldjkbaaGreatDoorBt
import Derived.StillTailTactics
/- (Dkp) -/
namespace Go.Proofs.YtdhmmllpldjkbaaGreatDoor.Gm
open Go
set_option linter.unusedVariables false
def consHead (x : UInt8) : List (List UInt8) → List (List UInt8)
  | [] => [[x]]
  | p :: ps => (x :: p) :: ps
/-- pieces between the bytes c; sv: each but the last keeps its c -/
def pcs (c : UInt8) (sv : Bool) : List UInt8 → List (List UInt8)
  | [] => [[]]
  | x :: r => if x = c then (if sv then [c] else []) :: pcs c sv r else consHead x (pcs c sv r)
theorem pcs_ne (c : UInt8) (sv : Bool) (s : List UInt8) : pcs c sv s ≠ [] := by
  cases s with
  | nil => simp [pcs]
  | cons x r =>
    simp only [pcs]
    split
    · simp
    · cases pcs c sv r <;> simp [consHead]
theorem ix_cons (x c : UInt8) (r : List UInt8) : Lib.index (x :: r) [c] = if x = c then 0 else if Lib.index r [c] = -1 then -1 else Lib.index r [c] + 1 := by
  rw [Lib.index_one, Lib.index_one, Lib.indexByte]
  by_cases h : x = c
  · simp [h]
  · simp [h]
theorem split_pcs (c : UInt8) (sv : Bool) (s : List UInt8) : Lib.splitK [c] (if sv then 1 else 0) (Lib.count s [c]) s = pcs c sv s := by
  induction s with
  | nil => rw [Lib.count_one]; simp [Lib.splitK, pcs]
  | cons x r ih =>
    by_cases h : x = c
    · subst h
      have e : Lib.count (x :: r) [x] = Lib.count r [x] + 1 := by rw [Lib.count_one, Lib.count_one]; simp
      have hix : Lib.index (x :: r) [x] = 0 := by rw [ix_cons, if_pos rfl]
      rw [e, Lib.splitK, hix]
      simp only [pcs, if_true]
      rw [if_neg (by decide)]
      simp only [Int.toNat_zero, Nat.zero_add, List.length_cons, List.length_nil, List.drop_succ_cons, List.drop_zero]
      rw [ih]
      congr 1
      cases sv <;> rfl
    · have e : Lib.count (x :: r) [c] = Lib.count r [c] := by rw [Lib.count_one, Lib.count_one, List.count_cons_of_ne (by simpa using h)]
      simp only [pcs, if_neg h]
      rw [← ih, e]
      by_cases hm : Lib.index r [c] = -1
      · have e0 : Lib.count r [c] = 0 := Lib.count_miss hm
        rw [e0]
        rfl
      · have hge := Lib.index_ge r [c]
        obtain ⟨j, hj⟩ : ∃ j : Nat, Lib.index r [c] = j := ⟨(Lib.index r [c]).toNat, by omega⟩
        have hk : Lib.count r [c] ≠ 0 := by
          rw [Lib.count_one]
          intro h0
          rw [Lib.index_one] at hj
          have := (Lib.indexByte_some hj).1
          exact List.count_eq_zero.1 h0 (List.mem_of_getElem? this)
        obtain ⟨k, hk⟩ : ∃ k, Lib.count r [c] = k + 1 := ⟨Lib.count r [c] - 1, by omega⟩
        have hix : Lib.index (x :: r) [c] = ((j + 1 : Nat) : Int) := by rw [ix_cons, if_neg h, if_neg hm, hj]; omega
        have q1 : ¬ (((j + 1 : Nat) : Int) == -1) = true := by rw [beq_iff_eq]; omega
        have q2 : ¬ ((j : Int) == -1) = true := by rw [beq_iff_eq]; omega
        generalize (if sv = true then 1 else 0) = v at *
        rw [hk, Lib.splitK, Lib.splitK, hix, hj, if_neg q1, if_neg q2]
        simp only [consHead, Int.toNat_natCast]
        rw [show j + 1 + v = (j + v) + 1 by omega, List.take_succ_cons, show j + 1 + [c].length = (j + [c].length) + 1 by omega, List.drop_succ_cons]
/-- a byte 10 at the end taken off -/
def trim1 (c : UInt8) : List UInt8 → List UInt8
  | [] => []
  | x :: r => if r = [] then (if x = c then [] else [x]) else x :: trim1 c r
theorem trim1_cons {c x : UInt8} (h : x ≠ c) (p : List UInt8) : trim1 c (x :: p) = x :: trim1 c p := by
  by_cases h0 : p = []
  · subst h0; simp [trim1, h]
  · rw [trim1, if_neg h0]
theorem pcs_trim (c : UInt8) (s : List UInt8) : (pcs c true s).map (trim1 c) = pcs c false s := by
  induction s with
  | nil => rfl
  | cons x r ih =>
    simp only [pcs]
    by_cases h : x = c
    · rw [if_pos h, if_pos h, List.map_cons, ih]
      simp [trim1]
    · rw [if_neg h, if_neg h, ← ih]
      cases hp : pcs c true r with
      | nil => exact absurd hp (pcs_ne c true r)
      | cons p ps => simp only [consHead, List.map_cons, trim1_cons h]
theorem pcs_last (c : UInt8) (sv : Bool) (s : List UInt8) : ∀ p, (pcs c sv s).getLast? = some p → c ∉ p := by
  induction s with
  | nil => intro p hp; simp [pcs] at hp; subst hp; simp
  | cons x r ih =>
    intro p hp
    simp only [pcs] at hp
    by_cases h : x = c
    · rw [if_pos h] at hp
      rw [List.getLast?_cons] at hp
      cases hq : (pcs c sv r).getLast? with
      | none => exact absurd (List.getLast?_eq_none_iff.1 hq) (pcs_ne c sv r)
      | some q =>
        rw [hq] at hp
        simp at hp
        subst hp
        exact ih q hq
    · rw [if_neg h] at hp
      cases hq : pcs c sv r with
      | nil => exact absurd hq (pcs_ne c sv r)
      | cons q qs =>
        rw [hq] at hp ih
        simp only [consHead] at hp
        cases qs with
        | nil =>
          simp at hp
          subst hp
          have := ih q (by simp)
          simp only [List.mem_cons, not_or]
          exact ⟨fun e => h e.symm, this⟩
        | cons q2 qs =>
          rw [List.getLast?_cons_cons] at hp
          exact ih p (by rw [List.getLast?_cons_cons]; exact hp)
/-- one byte more at the end of the pieces -/
def stpc (c : UInt8) (ps : List (List UInt8)) (x : UInt8) : List (List UInt8) := if x = c then ps ++ [[]] else ps.dropLast ++ [ps.getLastD [] ++ [x]]
def glue (p : List UInt8) : List (List UInt8) → List (List UInt8)
  | [] => [p]
  | q :: qs => (p ++ q) :: qs
theorem glue_nil {l : List (List UInt8)} (h : l ≠ []) : glue [] l = l := by
  cases l with
  | nil => exact absurd rfl h
  | cons q qs => simp [glue]
theorem glue_fold (c : UInt8) (s : List UInt8) : ∀ (ps : List (List UInt8)) (p : List UInt8), s.foldl (stpc c) (ps ++ [p]) = ps ++ glue p (pcs c false s) := by
  induction s with
  | nil => intro ps p; simp [pcs, glue]
  | cons x r ih =>
    intro ps p
    simp only [List.foldl_cons, pcs]
    by_cases h : x = c
    · rw [if_pos h]
      have e : stpc c (ps ++ [p]) x = (ps ++ [p]) ++ [[]] := by unfold stpc; rw [if_pos h]
      rw [e, ih, glue_nil (pcs_ne c false r)]
      simp [glue]
    · rw [if_neg h]
      have e : stpc c (ps ++ [p]) x = ps ++ [p ++ [x]] := by
        unfold stpc
        rw [if_neg h, List.getLastD_eq_getLast?, List.getLast?_concat, List.dropLast_concat]
        rfl
      rw [e, ih]
      cases hq : pcs c false r with
      | nil => exact absurd hq (pcs_ne c false r)
      | cons q qs => simp [glue, consHead]
theorem fold_pcs (c : UInt8) (s : List UInt8) : s.foldl (stpc c) [[]] = pcs c false s := by
  have := glue_fold c s [] []
  simp only [List.nil_append] at this
  rw [this]
  cases hq : pcs c false s with
  | nil => exact absurd hq (pcs_ne c false s)
  | cons q qs => simp [glue]
/-- the lines of a text -/
def dropE (l : List (List UInt8)) : List (List UInt8) := if l.getLast? = some [] then l.dropLast else l
def lnsOf (s : List UInt8) : List (List UInt8) := dropE (pcs 10 false s)
/-- the words of a line -/
def wordsOf (s : List UInt8) : List (List UInt8) := (pcs 32 false s).filter fun p => !p.isEmpty
theorem trim1_nil {c : UInt8} {p : List UInt8} (h : c ∉ p) (h0 : trim1 c p = []) : p = [] := by
  cases p with
  | nil => rfl
  | cons x r =>
    exfalso
    have hx : x ≠ c := fun e => h (by rw [e]; simp)
    rw [trim1_cons hx] at h0
    cases h0
/-- the lines that are cut with their ends, the ends taken off -/
theorem lines_trim (s : List UInt8) : (dropE (pcs 10 true s)).map (trim1 10) = lnsOf s := by
  unfold lnsOf dropE
  have hm := pcs_trim 10 s
  rw [← hm, List.getLast?_map]
  cases hq : (pcs 10 true s).getLast? with
  | none => exact absurd (List.getLast?_eq_none_iff.1 hq) (pcs_ne 10 true s)
  | some q =>
    have hn := pcs_last 10 true s q hq
    simp only [Option.map_some, Option.some.injEq]
    by_cases h0 : q = []
    · subst h0
      rw [if_pos rfl, if_pos (by rfl), List.map_dropLast]
    · rw [if_neg h0, if_neg (fun e => h0 (trim1_nil hn e))]
end Go.Proofs.YtdhmmllpldjkbaaGreatDoor.Gm
/- (Dkn) -/
namespace Go.Proofs.YtdhmmllpldjkbaaGreatDoor.Gm
open Go
set_option linter.unusedVariables false
/-- Go's own digits are digits of the number -/
theorem dec_D (u : Nat) : AllD (Lib.decDigits u) := by
  induction u using Nat.strongRecOn with
  | _ u ih =>
    rw [Lib.decDigits]
    split
    · rename_i h
      intro b hb
      rcases List.mem_cons.1 hb with rfl | hb
      · exact db_D h
      · cases hb
    · rename_i h
      intro b hb
      rcases List.mem_append.1 hb with hb | hb
      · exact ih (u / 10) (by omega) b hb
      · rcases List.mem_cons.1 hb with rfl | hb
        · exact db_D (Nat.mod_lt _ (by omega))
        · cases hb
theorem dec_nv (u : Nat) : nv (Lib.decDigits u) = u := by
  induction u using Nat.strongRecOn with
  | _ u ih =>
    rw [Lib.decDigits]
    split
    · rename_i h
      show dg (db u) * 10 ^ 0 + 0 = u
      rw [dg_db h]; simp
    · rename_i h
      rw [nv_app, ih (u / 10) (by omega)]
      have hm : u % 10 < 10 := Nat.mod_lt _ (by omega)
      show u / 10 * 10 ^ 1 + (dg (db (u % 10)) * 10 ^ 0 + 0) = u
      rw [dg_db hm]; omega
theorem dec_ne (u : Nat) : Lib.decDigits u ≠ [] := by
  rw [Lib.decDigits]; split <;> simp
theorem dec_head (u : Nat) (h : 0 < u) : (Lib.decDigits u).head? ≠ some 48 := by
  induction u using Nat.strongRecOn with
  | _ u ih =>
    rw [Lib.decDigits]
    split
    · rename_i h10
      intro e
      have e : db u = 48 := Option.some.inj e
      have := db_nat h10
      rw [e] at this
      have : (48 : UInt8).toNat = 48 := rfl
      omega
    · rename_i h10
      have := ih (u / 10) (by omega) (by omega)
      cases hh : Lib.decDigits (u / 10) with
      | nil => exact absurd hh (dec_ne _)
      | cons x r =>
        rw [hh] at this
        exact this
theorem dec_Cn (u : Nat) : Cn (Lib.decDigits u) := by
  refine ⟨dec_ne u, dec_D u, fun h => ?_⟩
  rcases Nat.eq_zero_or_pos u with h0 | h0
  · subst h0
    rw [Lib.decDigits, dif_pos (by omega)] at h
    simp at h
  · exact dec_head u h0
/-- a word that is a number below 2^64 -/
def NumW (l : List UInt8) (n : Nat) : Prop := Cn l ∧ nv l = n ∧ n < 18446744073709551616
theorem numw_iff (l : List UInt8) (n : Nat) (hn : n < 18446744073709551616) : Lib.decDigits n = l ↔ NumW l n := by
  constructor
  · rintro rfl; exact ⟨dec_Cn n, dec_nv n, hn⟩
  · rintro ⟨h1, h2, _⟩
    exact Cn.inj (dec_Cn n) h1 (by rw [dec_nv, h2])
theorem numw_len {l : List UInt8} {n : Nat} (h : NumW l n) : l.length ≤ 20 := by
  apply Classical.byContradiction
  intro hc
  have h1 := h.1.ge (by omega)
  have h2 := Nat.pow_le_pow_right (show 0 < 10 by omega) (show 20 ≤ l.length - 1 by omega)
  have h3 : (10 : Nat) ^ 20 = 10 ^ 10 * 10 ^ 10 := by rw [← Nat.pow_add]
  have h4 : (10 : Nat) ^ 10 = 10000000000 := by decide
  rw [h4] at h3
  have := h.2.1
  have := h.2.2
  generalize (10 : Nat) ^ 20 = T at *
  generalize (10 : Nat) ^ (l.length - 1) = U at *
  omega
@[irreducible] def M64 : Nat := 18446744073709551616
theorem M64_eq : M64 = 18446744073709551616 := by unfold M64; rfl
/-- the reference's step over a byte, whatever it is -/
@[irreducible] def stN (n : Nat) (b : Nat) : Nat := (n * 10 + b + (M64 - 48)) % M64
theorem stN_eq (n b : Nat) : stN n b = (n * 10 + b + (M64 - 48)) % M64 := by unfold stN; rfl
theorem stN_dig {n b : Nat} (h1 : 48 ≤ b) (h : n * 10 + (b - 48) < M64) : stN n b = n * 10 + (b - 48) := by
  have hM : 48 ≤ M64 := by rw [M64_eq]; omega
  have e3 : n * 10 + b + (M64 - 48) = (n * 10 + (b - 48)) + M64 := by omega
  rw [stN_eq, e3, Nat.add_mod_right, Nat.mod_eq_of_lt h]
theorem stN_lt (n b : Nat) : stN n b < M64 := by
  rw [stN_eq]; exact Nat.mod_lt _ (by rw [M64_eq]; omega)
def rdN (l : List UInt8) (n : Nat) : Nat := l.foldl (fun n b => stN n b.toNat) n
theorem rdN_nv (l : List UInt8) (h : AllD l) : ∀ n, (n * 10 ^ l.length + nv l < M64) → rdN l n = n * 10 ^ l.length + nv l := by
  induction l with
  | nil => intro n h; show n = n * 10 ^ 0 + 0; rw [Nat.pow_zero, Nat.mul_one, Nat.add_zero]
  | cons b r ih =>
    intro n hb
    have hbd := h b (List.mem_cons_self ..)
    have hr : AllD r := fun x hx => h x (List.mem_cons_of_mem _ hx)
    have e0 : n * 10 ^ (b :: r).length + nv (b :: r) = (n * 10 + dg b) * 10 ^ r.length + nv r := by
      rw [List.length_cons, Nat.pow_succ, nv, Nat.add_mul, Nat.mul_assoc, Nat.mul_comm 10, Nat.add_assoc]
    rw [e0] at hb ⊢
    have hle : n * 10 + dg b < M64 := by
      have hp : 1 ≤ 10 ^ r.length := Nat.pow_pos (by omega)
      have := Nat.mul_le_mul_left (n * 10 + dg b) hp
      omega
    have e5 : rdN (b :: r) n = rdN r (stN n b.toNat) := by unfold rdN; rw [List.foldl_cons]
    have hd : b.toNat - 48 = dg b := by unfold dg; rfl
    have h6 := stN_dig (n := n) hbd.1 (by rw [hd]; exact hle)
    rw [hd] at h6
    rw [e5, h6]
    exact ih hr _ hb
end Go.Proofs.YtdhmmllpldjkbaaGreatDoor.Gm
/- (Dk1) -/
namespace Go.Proofs.YtdhmmllpldjkbaaGreatDoor.Gm
open Go.RowKit
set_option linter.unusedVariables false
theorem wl_app_txt2 {ops : Array Oper} {rest : List Oper} {o : Oper} {a : Act} {Q : Exit → Act → World → Prop} (w : World) (hgd : o.guard = none) (s x : Operand)
    (ho : o.op = .call { callee := .builtin .append, args := #[s, x], argTypes := #[24, 24] })
    (B : Nat) (v : Value) (l : List ByteArray) (y : ByteArray) (W : World) (hs : a.eval s = v) (hx : a.eval x = .slice (some ⟨w.heap.size, 0, none⟩) 1 1)
    (hown : Ots B w v l) (hbel : Below B W w) (hB : B ≤ w.heap.size) (hl : l.length ≤ 100000000)
    (h : ∀ v' w', Ots B w' v' (l ++ [y]) → Below B W w' → wpList Tryz.prog ops Q rest (a.put o.dst v') w') :
    wpList Tryz.prog ops Q (o :: rest) a (w.alloc (.cells #[.string y] 9)) := by
  obtain ⟨i0, hi, hz0, hz1, hz2⟩ := info_parts info_strT
  have hmx : l.length + 1 ≤ maxLen := by unfold maxLen; omega
  have hown' : w.ownsRow B 9 1 v l.length (l.map Value.string) := hown
  refine wpList_append_own _ hgd s x 24 ho B 9 i0 (.string ⟨#[]⟩) 1 16 Tryz.underlying24 hi hz0 hz1 hz2 rfl (by decide) v l.length (l.map Value.string) hs (World.ownsRow.alloc hown' _) ⟨w.heap.size, 0, none⟩ 1 1 [.string y] hx rfl ?_ (by intro u hu; simp at hu; subst hu; rfl) hmx (by omega) (by simp; omega) ?_
  · intro j u hj
    have e : (Addr.add ⟨w.heap.size, 0, none⟩ j : Addr) = ⟨w.heap.size, j, none⟩ := by unfold Addr.add; by_cases h0 : j = 0 <;> simp [h0]
    rw [e, World.cell?_alloc_at _ _ _ _ rfl]
    simpa using hj
  · intro v' w' hown2 hgrow _
    refine h v' w' ?_ ?_
    · unfold Ots
      rw [List.map_append, List.length_append, List.length_singleton]
      exact hown2
    · have h1 : Below B W (w.alloc (.cells #[.string y] 9)) := hbel.alloc hB _
      refine h1.grown hgrow (by simp; omega) (fun k hk => ?_)
      exact (World.ownsRow.lt hown' k hk).1
theorem wl_store_txt {ops : Array Oper} {rest : List Oper} {o : Oper} {a : Act} {Q : Exit → Act → World → Prop} (w : World) (hgd : o.guard = none) (p x : Operand)
    (ho : o.op = .store 9 p x) (B g i n cap : Nat) (l : List ByteArray) (y : ByteArray) (W : World) (hp : a.eval p = .pointer (some ⟨g, i, none⟩)) (hx : a.eval x = .string y)
    (hown : Ots B w (.slice (some ⟨g, 0, none⟩) n cap) l) (hn : l.length = n) (hi : i < n) (hbel : Below B W w)
    (h : ∀ w', Ots B w' (.slice (some ⟨g, 0, none⟩) n cap) (l.set i y) → Below B W w' → w'.heap.size = w.heap.size → wpList Tryz.prog ops Q rest (a.put o.dst undef) w') :
    wpList Tryz.prog ops Q (o :: rest) a w := by
  subst hn
  have hown' : w.ownsRow B 9 1 (.slice (some ⟨g, 0, none⟩) l.length cap) l.length (l.map Value.string) := hown
  have hc : w.cell? ⟨g, i, none⟩ = some (.string l[i]) := by
    rw [World.ownsRow.cellAt hown' i (by omega), List.getElem?_map, List.getElem?_eq_getElem hi]; rfl
  have hf : w.frozen? ⟨g, i, none⟩ = false := World.ownsRow.frozenAt hown' i
  have hz : ∀ w : World, Sem.run Tryz.prog (Go.sizeOf 9) w = .ok 1 w := Tryz.sizeOf9
  refine wpList_plain hgd fun K hK' => ?_
  have hset : Ots B (w.setCell ⟨g, i, none⟩ (.string y)) (.slice (some ⟨g, 0, none⟩) l.length cap) (l.set i y) := by
    have := (World.ownsRow.stored hown' i (.string y)).1
    unfold Ots
    rw [List.map_set, List.length_set]
    exact this
  have hk := hK' _ _ (h (w.setCell ⟨g, i, none⟩ (.string y)) hset (hbel.setCell ((World.ownsRow.lt hown' g rfl).1) _) (by simp [World.setCell]))
  unfold Oper.wp
  simp [execOp, ho, hp, hx, Result.andThen]
  go_simp
  exact hk
theorem Ots.lit (w : World) (y : ByteArray) : Ots w.heap.size (w.alloc (.cells #[.string y] 9)) (.slice (some ⟨w.heap.size, 0, none⟩) 1 1) [y] :=
  World.ownsRow_lit (e := 9) (size := 1) w #[.string y] 1 (Nat.le_refl _) (by decide) rfl
theorem bl_nil : bl ⟨#[]⟩ = [] := bl_mk []
theorem bl_one (s : ByteArray) {i : Nat} (h : i < s.size) : bl (s.extract i (i + 1)) = [(bl s).getD i 0] := by
  have hl : i < (bl s).length := by rw [bl_len]; exact h
  rw [bl_cut, show i + 1 - i = 1 by omega, List.getD, List.getElem?_eq_getElem hl, List.drop_eq_getElem_cons hl]
  rfl
theorem set_last {α : Type} {l : List α} {m : Nat} (h : l.length = m + 1) (y : α) : l.set m y = l.dropLast ++ [y] := by
  rcases List.eq_nil_or_concat l with rfl | ⟨r, a, rfl⟩
  · cases h
  · rw [List.concat_eq_append] at h ⊢
    rw [List.length_append, List.length_singleton] at h
    obtain rfl : r.length = m := by omega
    rw [List.set_append_right _ _ (Nat.le_refl _), Nat.sub_self, List.dropLast_concat]
    rfl
theorem lastD_at {l : List (List UInt8)} {m : Nat} {q : List UInt8} (h : l.length = m + 1) (hq : l[m]? = some q) : l.getLastD [] = q := by
  rw [List.getLastD_eq_getLast?, List.getLast?_eq_getElem?, h, Nat.add_sub_cancel, hq]
  rfl
def PiR (s : ByteArray) (c : UInt8) (w : World) (v5 v6 : Value) (wr : World) : Prop :=
  ∃ (i : Nat) (ps : List ByteArray), i ≤ s.size ∧ v6 = .int .i64 i ∧ ps.length ≤ i + 1 ∧ 0 < ps.length ∧ (∀ p ∈ ps, p.size ≤ i) ∧ ps.map bl = ((bl s).take i).foldl (stpc c) [[]] ∧ Ots w.heap.size wr v5 ps ∧ Below w.heap.size w wr
set_option maxHeartbeats 4000000 in
set_option maxRecDepth 100000 in
theorem pieces_any (s : ByteArray) (c : UInt8) (w : World) (hl : s.size ≤ 10000000) :
    Calls Tryz.prog 19 #[.string s, .int .u8 (c.toNat : Int)] w fun e w' => ∃ v ps, e = .returned v ∧ Ots w.heap.size w' v ps ∧ ps.map bl = pcs c false (bl s) ∧ Below w.heap.size w w' := by
  have E1 := Lib.hid (bl_len s)
  have OL := Lib.hid (Ots.lit w ⟨#[]⟩)
  have BL := Lib.hid ((Below.refl w.heap.size w).alloc (Nat.le_refl _) (.cells #[.string ⟨#[]⟩] 9))
  go_enter Tryz.func19, Tryz.ntmps19
  go_wp2
  go_loopw [5, 6] (fun v5 v6 wr => PiR s c w v5 v6 wr) (fun _ i _ => s.size - (intOf i).toNat)
  case atStart => exact ⟨0, [⟨#[]⟩], by omega, rfl, by simp, by simp, fun p hp => by rw [List.mem_singleton.1 hp]; exact Nat.le_refl _, by rw [List.map_cons, List.map_nil, bl_nil]; rfl, OL.out, BL.out⟩
  case round =>
    obtain ⟨i, ps, hi, rfl, hpl, hp0, hpz, hpm, ho, hb⟩ := hrel
    have PZ := Lib.hid hpz
    have PM := Lib.hid hpm
    have O1 := Lib.hid ho
    have B1 := Lib.hid hb
    have hs1 := hb.size
    clear hpm ho hb hpz
    by_cases hil : i < s.size
    · have g1 : decide ((i : Int) < (s.size : Int)) = true := decide_eq_true (by omega)
      have g2 : decide (i < s.size) = true := decide_eq_true hil
      have IX := ix_str hil
      have TK : ((bl s).take (i + 1)).foldl (stpc c) [[]] = stpc c (ps.map bl) ((bl s).getD i 0) := by
        have hlx : i < (bl s).length := by rw [E1.out]; exact hil
        rw [List.take_succ_eq_append_getElem hlx, List.foldl_append, ← PM.out, List.getD, List.getElem?_eq_getElem hlx]
        rfl
      obtain ⟨bx, hbx⟩ : ∃ bx, bx = bn s i := ⟨_, rfl⟩
      have hbc : bx = ((bl s).getD i 0).toNat := by rw [hbx, bn_eq]
      rw [← hbx] at IX
      by_cases hxc : (bl s).getD i 0 = c
      · have g3 : ((bx : Int) == (c.toNat : Int)) = true := by rw [beq_iff_eq, hbc, hxc]
        have NM := Lib.hid (show (ps ++ [(⟨#[]⟩ : ByteArray)]).map bl = ((bl s).take (i + 1)).foldl (stpc c) [[]] from by
          rw [TK, List.map_append, List.map_cons, List.map_nil, bl_nil]
          unfold stpc
          rw [if_pos hxc])
        have hll : ps.length ≤ 100000000 := by omega
        clear TK hbx hbc
        go_wp2_with (at_builtin; refine wl_app_txt2 _ rfl (.tmp 19) (.tmp 20) rfl w.heap.size _ ps ⟨#[]⟩ w rfl rfl O1.out B1.out hs1 hll ?_)
        intro v3 w3 h1 h2
        have O3 := Lib.hid h1
        have B3 := Lib.hid h2
        clear h1 h2 O1 B1
        go_wp2
        go_roundw
        case rel => exact ⟨i + 1, _, by omega, by go_num, by rw [List.length_append, List.length_singleton]; omega, by simp, fun p hp => (List.mem_append.1 hp).elim (fun h => by have := PZ.out p h; omega) (fun h => by rw [List.mem_singleton.1 h]; exact Nat.zero_le _), NM.out, O3.out, B3.out⟩
        case measure => simp [intOf] <;> omega
      · have g3 : ((bx : Int) == (c.toNat : Int)) = false := by
          rw [beq_eq_false_iff_ne]
          intro e
          exact hxc (UInt8.toNat.inj (by omega))
        obtain ⟨a5, c5, rfl, hc5, hm5, hg5⟩ := ownShape O1.out
        obtain ⟨g, rfl⟩ := hg5 hp0
        obtain ⟨n, hn⟩ : ∃ n, n = ps.length := ⟨_, rfl⟩
        have HN := Lib.hid hn
        rw [← hn] at hpl hp0 hc5 ⊢
        rw [← hn] at O1
        obtain ⟨m, hm⟩ : ∃ m, m = n - 1 := ⟨_, rfl⟩
        have hmn : m < n := by omega
        have em : IntKind.i64.wrap ((n : Int) - 1) = (m : Int) := by rw [IntWalk.i64_in _ (by omega)]; omega
        obtain ⟨q, hq⟩ : ∃ q, q = ps[m]'(by rw [← hn]; exact hmn) := ⟨_, rfl⟩
        have hqm : ps[m]? = some q := by rw [hq]; exact List.getElem?_eq_getElem _
        have c0 : wr.cell? ⟨g, m, none⟩ = some (.string q) := Ots.at O1.out hn hqm
        have SL : ∀ W : World, (Instr.slice 9 (.string s) (some (.int .i64 (i : Int))) (some (.int .i64 ((i : Int) + 1))) none).run Tryz.prog W = .ok (.string (s.extract i (i + 1))) W := fun W => by
          rw [run_slice_string_if _ _ _ _ _ _ _ Tryz.underlying9, if_pos ⟨by omega, by omega⟩, if_pos ⟨by omega, by omega⟩]
          rfl
        have ei : IntKind.i64.wrap ((i : Int) + 1) = (i : Int) + 1 := IntWalk.i64_in _ (by omega)
        obtain ⟨one, hone⟩ : ∃ one, one = s.extract i (i + 1) := ⟨_, rfl⟩
        have hb1 : bl one = [(bl s).getD i 0] := by rw [hone]; exact bl_one s hil
        rw [← hone] at SL
        have hpm2 := PM.out
        have hqs : q.size ≤ i := PZ.out q (List.mem_of_getElem? hqm)
        have ho1 : one.size = 1 := by rw [← bl_len, hb1]; rfl
        have hov : ¬ 9223372036854775807 < q.size + one.size := by omega
        have AD : ∀ W : World, (Op.stringOp .add q one).run Tryz.prog W = .ok (.string (q ++ one)) W := fun W => run_string_add_sum (P := Tryz.prog) (w := W) q one (by omega)
        have NM := Lib.hid (show (ps.set m (q ++ one)).map bl = ((bl s).take (i + 1)).foldl (stpc c) [[]] from by
          rw [TK]
          unfold stpc
          have hl : (ps.map bl).length = m + 1 := by rw [List.length_map, ← hn]; omega
          have hg : (ps.map bl)[m]? = some (bl q) := by rw [List.getElem?_map, hqm]; rfl
          rw [if_neg hxc, List.map_set, bl_app, hb1, set_last hl, lastD_at hl hg])
        have hln : (ps.set m (q ++ one)).length = n := by rw [List.length_set, hn]
        clear TK hbx hbc hone hb1 hq hqm hm hn
        go_wp2_with fail
        go_still_tail 13, (by kernel_rfl)
        repeat still_step
        change wpList _ _ _ _ _ wr.drew
        go_wp2_with (refine wl_store_txt _ rfl (.tmp 34) (.tmp 33) rfl w.heap.size g m n c5 ps (q ++ one) w rfl rfl (O1.below (below_drewN (Below.refl _ _) 1)) HN.out.symm hmn (below_drewN B1.out 1) ?_)
        intro w3 h1 h2 _
        have O3 := Lib.hid h1
        have B3 := Lib.hid h2
        have hzz : (q ++ one).size ≤ i + 1 := by rw [ByteArray.size_append]; omega
        clear h1 h2 O1 B1
        go_wp2
        go_roundw
        case rel => exact ⟨i + 1, _, by omega, by go_num, by rw [hln]; omega, by rw [hln]; omega, fun p hp => (List.mem_or_eq_of_mem_set hp).elim (fun h => by have := PZ.out p h; omega) (fun h => by rw [h]; exact hzz), NM.out, O3.out, B3.out⟩
        case measure => simp [intOf] <;> omega
    · obtain rfl : s.size = i := by omega
      have g1 : decide ((s.size : Int) < (s.size : Int)) = false := decide_eq_false (by omega)
      have PE := Lib.hid (show ps.map bl = pcs c false (bl s) from by
        rw [PM.out, ← E1.out, List.take_length, fold_pcs])
      go_wp2
      go_ret
      exact ⟨_, ps, rfl, O1.out, PE.out, B1.out⟩
end Go.Proofs.YtdhmmllpldjkbaaGreatDoor.Gm
/- (Dk2) -/
namespace Go.Proofs.YtdhmmllpldjkbaaGreatDoor.Gm
open Go.RowKit
set_option linter.unusedVariables false
/-- a slice of texts reads as a list -/
def Rs (w : World) (v : Value) (l : List ByteArray) : Prop :=
  ∃ a cap b off, v = .slice a l.length cap ∧ l.length ≤ cap ∧ cap ≤ 9223372036854775807 ∧ (l.length = 0 ∨ a = some ⟨b, off, none⟩) ∧ ∀ i x, l[i]? = some x → w.cell? ⟨b, off + i, none⟩ = some (.string x)
theorem Rs.below {w w' : World} {v : Value} {l : List ByteArray} (h : Rs w v l) (hb : Below w.heap.size w w') : Rs w' v l := by
  obtain ⟨a, cap, b, off, e, h1, h2, h3, hx⟩ := h
  exact ⟨a, cap, b, off, e, h1, h2, h3, fun i x hi => (hb.cell (p := ⟨b, off + i, none⟩) (World.block_lt_of_cell? w _ (hx i x hi))).trans (hx i x hi)⟩
theorem Ots.rs {B : Nat} {w : World} {v : Value} {l : List ByteArray} (h : Ots B w v l) : Rs w v l := by
  obtain ⟨a, cap, rfl, h1, h2, hg⟩ := ownShape h
  rcases Nat.eq_zero_or_pos l.length with h0 | h0
  · exact ⟨a, cap, 0, 0, rfl, h1, h2, .inl h0, fun i x hi => by have := (List.getElem?_eq_some_iff.1 hi).1; omega⟩
  · obtain ⟨g, rfl⟩ := hg h0
    exact ⟨_, cap, g, 0, rfl, h1, h2, .inr rfl, fun i x hi => by rw [Nat.zero_add]; exact Ots.at h rfl hi⟩
/-- what is left of a slice -/
theorem Rs.take {w : World} {v : Value} {l : List ByteArray} (h : Rs w v l) (m : Nat) (hm : m ≤ l.length) : ∃ a cap, v = .slice a l.length cap ∧ Rs w (.slice a m cap) (l.take m) := by
  obtain ⟨a, cap, b, off, rfl, h1, h2, h3, hx⟩ := h
  have hl : (l.take m).length = m := by rw [List.length_take]; omega
  refine ⟨a, cap, rfl, a, cap, b, off, by rw [hl], by omega, h2, ?_, fun i x hi => ?_⟩
  · rcases h3 with h3 | h3
    · exact .inl (by omega)
    · exact .inr h3
  · have hil := (List.getElem?_eq_some_iff.1 hi).1
    rw [hl] at hil
    rw [List.getElem?_take_of_lt hil] at hi
    exact hx i x hi
theorem ownMono {B B' : Nat} {e : TypeId} {size n : Nat} {w : World} {v : Value} {xs : List Value} (h : w.ownsRow B e size v n xs) (hB : B' ≤ B) : w.ownsRow B' e size v n xs := by
  refine ⟨h.1, ?_⟩
  rcases h.2 with h0 | ⟨g, cap, cur, h1, h2, h3⟩
  · exact .inl h0
  · exact .inr ⟨g, cap, cur, h1, Nat.le_trans hB h2, h3⟩
@[irreducible] def fw (p : ByteArray) : Bool := !(bl p).isEmpty
theorem fw_emp {p : ByteArray} (h : p.toList.isEmpty = true) : fw p = false := by
  unfold fw bl; rw [Lib.toList_data] at h; rw [h]; rfl
theorem fw_ne {p : ByteArray} (h : p.toList.isEmpty = false) : fw p = true := by
  unfold fw bl; rw [Lib.toList_data] at h; rw [h]; rfl
theorem words_fw (ps : List ByteArray) (s : List UInt8) (h : ps.map bl = pcs 32 false s) : (ps.filter fw).map bl = wordsOf s := by
  unfold wordsOf
  rw [← h, List.filter_map]
  congr 1
  refine List.filter_congr (fun p _ => ?_)
  unfold fw
  rfl
def WoR (ps : List ByteArray) (w1 : World) (v3 v5 : Value) (wr : World) : Prop :=
  ∃ i : Nat, i ≤ ps.length ∧ v5 = .int .i64 i ∧ Ots w1.heap.size wr v3 ((ps.take i).filter fw) ∧ Below w1.heap.size w1 wr
set_option maxHeartbeats 4000000 in
set_option maxRecDepth 100000 in
theorem words_any (s : ByteArray) (w : World) (hl : s.size ≤ 10000000) :
    Calls Tryz.prog 9 #[.string s] w fun e w' => ∃ v ws, e = .returned v ∧ Ots w.heap.size w' v ws ∧ ws.map bl = wordsOf (bl s) ∧ Below w.heap.size w w' := by
  have PI := Lib.hid (pieces_any s 32 w hl)
  rw [show ((32 : UInt8).toNat : Int) = 32 from rfl] at PI
  have hpc : (pcs 32 false (bl s)).length ≤ s.size + 1 := by
    rw [← bl_len]
    generalize bl s = l
    induction l with
    | nil => simp [pcs]
    | cons x r ih =>
      simp only [pcs]
      split
      · simp; omega
      · cases hq : pcs 32 false r with
        | nil => simp [consHead]
        | cons q qs => rw [hq] at ih; simp [consHead] at ih ⊢; omega
  go_enter Tryz.func9, Tryz.ntmps9
  go_wp2_with fail
  refine PI.out.mono ?_
  rintro e w1 ⟨v, ps, rfl, ho, hpm, hb⟩
  have B1 := Lib.hid hb
  have hs1 := hb.size
  have PM := Lib.hid hpm
  obtain ⟨a, cap, b, off, rfl, hk, hm, hx, hc⟩ := ho.rs
  have HC := Lib.hid hc
  have HA := Lib.hid hx
  obtain ⟨n, hn⟩ : ∃ n, n = ps.length := ⟨_, rfl⟩
  have HN := Lib.hid hn
  have hnl : n ≤ 10000001 := by
    have := congrArg List.length hpm
    rw [List.length_map] at this
    omega
  rw [← hn] at hk HA ⊢
  clear hb hpm hc hx PI hn ho hpc
  go_wp2
  go_loopw [3, 5] (fun v3 v5 wr => WoR ps w1 v3 v5 wr) (fun _ i _ => n - (intOf i).toNat)
  case atStart => exact ⟨0, by omega, rfl, by rw [List.take_zero]; exact Ots.nil _ _, Below.refl _ _⟩
  case round =>
    obtain ⟨i, hi, rfl, ho, hb⟩ := hrel
    rw [← HN.out] at hi
    have O2 := Lib.hid ho
    have B2 := Lib.hid hb
    have hs2 := hb.size
    clear ho hb
    by_cases hil : i < n
    · obtain rfl := HA.out.resolve_left (by omega)
      have g1 : decide ((i : Int) < (n : Int)) = true := decide_eq_true (by omega)
      have g2 : decide (i < n) = true := decide_eq_true hil
      have hip : i < ps.length := by rw [← HN.out]; exact hil
      obtain ⟨x, hx⟩ : ∃ x, x = ps[i] := ⟨_, rfl⟩
      have hxi : ps[i]? = some x := by rw [hx]; exact List.getElem?_eq_getElem hip
      have c0 := HC.out i x hxi
      have c0 := (B2.out.cell (p := ⟨b, off + i, none⟩) (World.block_lt_of_cell? w1 _ c0)).trans c0
      have TK : ps.take (i + 1) = ps.take i ++ [x] := by rw [List.take_succ_eq_append_getElem hip, hx]
      by_cases he : x.toList.isEmpty = true
      · have NX := Lib.hid (show (ps.take (i + 1)).filter fw = (ps.take i).filter fw from by
          rw [TK, List.filter_append, List.filter_cons_of_neg (by rw [fw_emp he]; decide), List.filter_nil, List.append_nil])
        clear hx hxi TK
        go_wp2
        go_roundw
        case rel => exact ⟨i + 1, by rw [← HN.out]; omega, by go_num, by rw [NX.out]; exact O2.out, B2.out⟩
        case measure => simp [intOf] <;> omega
      · have he : x.toList.isEmpty = false := by simpa using he
        have NX := Lib.hid (show (ps.take i).filter fw ++ [x] = (ps.take (i + 1)).filter fw from by
          rw [TK, List.filter_append, List.filter_cons_of_pos (fw_ne he), List.filter_nil])
        have hll : ((ps.take i).filter fw).length ≤ 100000000 := by
          have h1 := List.length_filter_le fw (ps.take i)
          rw [List.length_take] at h1
          omega
        clear hx hxi TK
        go_wp2_with (at_builtin; refine wl_app_txt2 _ rfl (.tmp 19) (.tmp 24) rfl w1.heap.size _ ((ps.take i).filter fw) x w1 rfl rfl O2.out B2.out hs2 hll ?_)
        intro v3 w3 h1 h2
        rw [NX.out] at h1
        have O3 := Lib.hid h1
        have B3 := Lib.hid h2
        clear h1 h2 O2 B2 c0
        go_wp2
        go_roundw
        case rel => exact ⟨i + 1, by rw [← HN.out]; omega, by go_num, O3.out, B3.out⟩
        case measure => simp [intOf] <;> omega
    · obtain rfl : n = i := by omega
      have g1 : decide ((n : Int) < (n : Int)) = false := decide_eq_false (by omega)
      have W := Lib.hid (words_fw ps (bl s) PM.out)
      have ET : ps.take n = ps := List.take_of_length_le (by rw [HN.out]; exact Nat.le_refl _)
      rw [ET] at O2
      have OF := Lib.hid (ownMono O2.out hs1)
      clear ET
      go_wp2
      go_ret
      exact ⟨_, ps.filter fw, rfl, OF.out, W.out, B1.out.trans (B2.out.mono hs1)⟩
end Go.Proofs.YtdhmmllpldjkbaaGreatDoor.Gm
/- (Dk3) -/
namespace Go.Proofs.YtdhmmllpldjkbaaGreatDoor.Gm
open Go.RowKit
set_option linter.unusedVariables false
set_option maxHeartbeats 4000000 in
set_option maxRecDepth 100000 in
theorem tlines_any (s : ByteArray) (w : World) (hl : s.size ≤ 10000000) :
    Calls Tryz.prog 8 #[.string s] w fun e w' => ∃ v ls, e = .returned v ∧ Rs w' v ls ∧ ls.map bl = lnsOf (bl s) ∧ Below w.heap.size w w' := by
  have PI := Lib.hid (pieces_any s 10 w hl)
  rw [show ((10 : UInt8).toNat : Int) = 10 from rfl] at PI
  go_enter Tryz.func8, Tryz.ntmps8
  go_wp2_with fail
  refine PI.out.mono ?_
  rintro e w1 ⟨v, ps, rfl, ho, hpm, hb⟩
  have B1 := Lib.hid hb
  have PM := Lib.hid hpm
  have hne : ps ≠ [] := fun e => by
    rw [e] at hpm
    exact pcs_ne 10 false (bl s) hpm.symm
  have h0 : 0 < ps.length := List.length_pos_iff.2 hne
  have RS := Lib.hid ho.rs
  obtain ⟨a, cap, rfl, hk, hm, hg⟩ := ownShape ho
  obtain ⟨g, rfl⟩ := hg h0
  obtain ⟨m, hmn⟩ : ∃ m, m = ps.length - 1 := ⟨_, rfl⟩
  have hml : m < ps.length := by omega
  obtain ⟨x, hx⟩ : ∃ x, x = ps[m] := ⟨_, rfl⟩
  have hxm : ps[m]? = some x := by rw [hx]; exact List.getElem?_eq_getElem hml
  have c0 : w1.cell? ⟨g, m, none⟩ = some (.string x) := Ots.at ho rfl hxm
  have LST := Lib.hid (show (pcs 10 false (bl s)).getLast? = some (bl x) from by
    rw [← PM.out, List.getLast?_map, List.getLast?_eq_getElem?, ← hmn, hxm]; rfl)
  have RT := Lib.hid (Rs.take RS.out m (by omega))
  have DL := Lib.hid (show (ps.take m).map bl = (pcs 10 false (bl s)).dropLast from by
    rw [← PM.out, List.dropLast_eq_take, List.length_map, ← hmn, List.map_take])
  obtain ⟨n, hn⟩ : ∃ n, n = ps.length := ⟨_, rfl⟩
  have HN := Lib.hid hn
  have em : (n : Int) - 1 = (m : Int) := by omega
  have hmn2 : m < n := by omega
  have hkn : n ≤ cap := by omega
  rw [← hn]
  rw [← hn] at RS
  clear hb hpm PI ho hg hne hk hmn hx hxm hn hml h0
  by_cases he : x.toList.isEmpty = true
  · have hbx : bl x = [] := by
      rw [Lib.toList_data] at he
      unfold bl
      exact List.isEmpty_iff.1 he
    have FIN := Lib.hid (show (ps.take m).map bl = lnsOf (bl s) from by
      unfold lnsOf dropE
      rw [LST.out, hbx, if_pos rfl, DL.out])
    go_wp2
    go_ret
    obtain ⟨a', cap', e1, hr⟩ := RT.out
    injection e1 with e1 _ e3
    subst e1; subst e3
    exact ⟨_, ps.take m, rfl, hr, FIN.out, B1.out⟩
  · have he : x.toList.isEmpty = false := by simpa using he
    have hbx : bl x ≠ [] := fun e => by
      unfold bl at e
      rw [Lib.toList_data, e] at he
      cases he
    have FIN := Lib.hid (show ps.map bl = lnsOf (bl s) from by
      unfold lnsOf dropE
      rw [LST.out, if_neg (fun e => hbx (Option.some.inj e)), PM.out])
    go_wp2
    go_ret
    exact ⟨_, ps, rfl, RS.out, FIN.out, B1.out⟩
/-- what is told of a word -/
def NuR (s : ByteArray) (w : World) (v4 v26 : Value) (wr : World) : Prop :=
  ∃ i : Nat, i ≤ s.size ∧ v26 = .int .i64 i ∧ v4 = .int .u64 (nv ((bl s).take i) : Int) ∧ nv ((bl s).take i) < 18446744073709551616 ∧ (∀ k, k < i → dB (bn s k)) ∧ wr = w
def NumE (s : ByteArray) (w : World) (e : Ending) (w' : World) : Prop :=
  w = w' ∧ ((∃ n : Nat, NumW (bl s) n ∧ e = .returned (.tuple #[.int .u64 (n : Int), .bool true])) ∨ ((∀ n, ¬ NumW (bl s) n) ∧ e = .returned (.tuple #[.int .u64 0, .bool false])))
theorem nv_take_le (l : List UInt8) (i : Nat) : nv (l.take i) ≤ nv l := by
  have h : nv l = nv (l.take i ++ l.drop i) := by rw [List.take_append_drop]
  rw [h, nv_app]
  have hp : 1 ≤ 10 ^ (l.drop i).length := Nat.pow_pos (by omega)
  have := Nat.mul_le_mul_left (nv (l.take i)) hp
  omega
theorem no_num {s : ByteArray} (h : ¬ Cn (bl s)) : ∀ n, ¬ NumW (bl s) n := fun n hn => h hn.1
theorem dg_of_bn {s : ByteArray} {k c : Nat} (h : c = bn s k) : dg ((bl s).getD k 0) = c - 48 := by
  rw [h, bn_eq]; rfl
set_option maxHeartbeats 4000000 in
set_option maxRecDepth 100000 in
theorem dnum_any (s : ByteArray) (w : World) : Calls Tryz.prog 58 #[.string s] w (NumE s w) := by
  have HL := Lib.hid (bl_len s)
  by_cases h0 : s.size = 0
  · have NN := Lib.hid (no_num (ncn_nil h0))
    have hs : s = ⟨#[]⟩ := by
      apply bl_inj
      rw [List.length_eq_zero_iff.1 (show (bl s).length = 0 by rw [HL.out]; exact h0)]
      unfold bl; rfl
    subst hs
    go_enter Tryz.func58, Tryz.ntmps58
    go_wp2
    go_ret2
    exact ⟨rfl, .inr ⟨NN.out, rfl⟩⟩
  have hp : 0 < s.size := by omega
  have e1 : s.toList.isEmpty = false := by
    rw [Lib.toList_data]
    cases hh : s.data.toList with
    | nil => exact absurd (by rw [Lib.size_eq, hh]; rfl) h0
    | cons _ _ => rfl
  have IX0 := ix_str hp
  rw [show ((0 : Nat) : Int) = 0 from rfl] at IX0
  obtain ⟨c0, hc0⟩ : ∃ c, c = bn s 0 := ⟨_, rfl⟩
  have HC0 := Lib.hid hc0
  rw [← hc0] at IX0
  have hc0' := bn_lt s 0
  rw [← hc0] at hc0'
  clear hc0
  by_cases h1 : c0 = 48 ∧ 1 < s.size
  · obtain ⟨h1, h2⟩ := h1
    have NN := Lib.hid (no_num (ncn_head hp (by rw [← HC0.out]; exact h1) h2))
    have q1 : ((c0 : Int) == 48) = true := by rw [beq_iff_eq]; omega
    have q3 : decide ((1 : Int) < (s.size : Int)) = true := decide_eq_true (by omega)
    have q4 : decide (1 < s.size) = true := decide_eq_true h2
    clear h1
    go_enter Tryz.func58, Tryz.ntmps58
    go_wp2
    go_ret2
    exact ⟨rfl, .inr ⟨NN.out, rfl⟩⟩
  by_cases h2 : 20 < s.size
  · have NN := Lib.hid (show ∀ n, ¬ NumW (bl s) n from fun n hn => by have := numw_len hn; rw [HL.out] at this; omega)
    have q3 : decide ((20 : Int) < (s.size : Int)) = true := decide_eq_true (by omega)
    have q4 : decide (20 < s.size) = true := decide_eq_true h2
    have q5 : decide ((1 : Int) < (s.size : Int)) = true := decide_eq_true (by omega)
    have q6 : decide (1 < s.size) = true := decide_eq_true (by omega)
    have h48 : ¬ c0 = 48 := fun e => h1 ⟨e, by omega⟩
    have q1 : ((c0 : Int) == 48) = false := by rw [beq_eq_false_iff_ne]; omega
    clear h1
    go_enter Tryz.func58, Tryz.ntmps58
    go_wp2
    go_ret2
    exact ⟨rfl, .inr ⟨NN.out, rfl⟩⟩
  have q7 : decide ((20 : Int) < (s.size : Int)) = false := decide_eq_false (by omega)
  have q8 : decide (20 < s.size) = false := decide_eq_false h2
  have key : Hid (∀ k, k < s.size → dB (bn s k)) → Hid (Cn (bl s)) := fun h => Lib.hid (cn_bn h.out hp (by rw [← HC0.out]; exact h1))
  have GO : ∀ b : Bool, ((c0 : Int) == 48) = b → (b = true → ¬ 1 < s.size) → Calls Tryz.prog 58 #[.string s] w (NumE s w) := by
    intro b q1 hb1
    have q9 : b = true → decide ((1 : Int) < (s.size : Int)) = false := fun h => decide_eq_false (by have := hb1 h; omega)
    have q10 : b = true → decide (1 < s.size) = false := fun h => decide_eq_false (hb1 h)
    clear h1 hb1
    cases b
    all_goals
      first
        | (have q9' := q9 rfl; have q10' := q10 rfl)
        | skip
      clear q9 q10
      go_enter Tryz.func58, Tryz.ntmps58
      go_wp2
      go_loopw [4, 26] (fun v4 v26 wr => NuR s w v4 v26 wr) (fun _ i _ => s.size - (intOf i).toNat)
      case atStart => exact ⟨0, by omega, rfl, rfl, by rw [List.take_zero]; exact (by decide : (0 : Nat) < 18446744073709551616), fun k hk => by omega, rfl⟩
      case round =>
        obtain ⟨i, hi, rfl, rfl, hnv, hdd, rfl⟩ := hrel
        have DD := Lib.hid hdd
        clear hdd
        by_cases hil : i < s.size
        · have g1 : decide ((i : Int) < (s.size : Int)) = true := decide_eq_true (by omega)
          have g2 : decide (i < s.size) = true := decide_eq_true hil
          have IX := ix_str hil
          have hlx : i < (bl s).length := by rw [HL.out]; exact hil
          obtain ⟨c, hc⟩ : ∃ c, c = bn s i := ⟨_, rfl⟩
          have HC := Lib.hid hc
          have hc256 := bn_lt s i
          rw [← hc] at IX hc256
          have NT := Lib.hid (show nv ((bl s).take (i + 1)) = nv ((bl s).take i) * 10 + (c - 48) from by rw [nv_take _ _ hlx, dg_of_bn hc])
          have NF := Lib.hid (fun h : ¬ dB c => no_num (ncn_dig hil (by rw [← HC.out]; exact h)))
          clear hc
          by_cases k1 : c < 48
          · have r1 : decide ((c : Int) < 48) = true := decide_eq_true (by omega)
            have r2 : decide (c < 48) = true := decide_eq_true k1
            generalize nv ((bl s).take i) = n at *
            go_wp2
            go_ret2
            exact ⟨rfl, .inr ⟨NF.out (by unfold dB; omega), rfl⟩⟩
          have r1 : decide ((c : Int) < 48) = false := decide_eq_false (by omega)
          have r2 : decide (c < 48) = false := decide_eq_false k1
          by_cases k2 : 57 < c
          · have r3 : decide ((57 : Int) < (c : Int)) = true := decide_eq_true (by omega)
            have r4 : decide (57 < c) = true := decide_eq_true k2
            generalize nv ((bl s).take i) = n at *
            go_wp2
            go_ret2
            exact ⟨rfl, .inr ⟨NF.out (by unfold dB; omega), rfl⟩⟩
          have r3 : decide ((57 : Int) < (c : Int)) = false := decide_eq_false (by omega)
          have r4 : decide (57 < c) = false := decide_eq_false k2
          obtain ⟨d, hd⟩ : ∃ d, d = c - 48 := ⟨_, rfl⟩
          have NG := Lib.hid (show ∀ k, k < i + 1 → dB (bn s k) from fun k hk => by
            rcases Nat.lt_or_ge k i with h | h
            · exact DD.out k h
            · have : k = i := by omega
              subst this; rw [← HC.out]; unfold dB; omega)
          rw [← hd] at NT
          have e8 : IntKind.u8.wrap ((c : Int) - 48) = (d : Int) := by rw [IntWalk.u8_in _ (by omega)]; omega
          have hd9 : d < 10 := by omega
          have NL := Lib.hid (nv_take_le (bl s) (i + 1))
          rw [NT.out] at NL
          generalize nv ((bl s).take i) = n at *
          clear hd NF
          obtain ⟨q, hq⟩ : ∃ q, q = (18446744073709551615 - d) / 10 := ⟨_, rfl⟩
          have e9 : (18446744073709551615 - (d : Int)) / 10 = (q : Int) := by omega
          by_cases k3 : q < n
          · have r5 : decide ((q : Int) < (n : Int)) = true := decide_eq_true (by omega)
            have r6 : decide (q < n) = true := decide_eq_true k3
            have NN := Lib.hid (show ∀ m, ¬ NumW (bl s) m from fun m hm => by
              have h1 := NL.out
              have h2 := hm.2.1
              have h3 := hm.2.2
              omega)
            clear hq
            go_wp2
            go_ret2
            exact ⟨rfl, .inr ⟨NN.out, rfl⟩⟩
          · have r5 : decide ((q : Int) < (n : Int)) = false := decide_eq_false (by omega)
            have r6 : decide (q < n) = false := decide_eq_false k3
            have hnn : n * 10 + d < 18446744073709551616 := by omega
            have e10 : IntKind.u64.wrap (10 * (n : Int)) = 10 * (n : Int) := IntWalk.u64_in _ (by omega)
            have e11 : 10 * (n : Int) + (d : Int) = ((n * 10 + d : Nat) : Int) := by omega
            clear hq
            go_wp2
            go_roundw
            case rel => exact ⟨i + 1, by omega, by go_num, by rw [NT.out]; first | rfl | (congr 1; omega), by rw [NT.out]; exact hnn, NG.out, rfl⟩
            case measure => simp [intOf] <;> omega
        · obtain rfl : s.size = i := by omega
          have g1 : decide ((s.size : Int) < (s.size : Int)) = false := decide_eq_false (by omega)
          have CN := key DD
          have ET : (bl s).take s.size = bl s := List.take_of_length_le (by rw [HL.out]; exact Nat.le_refl _)
          rw [ET] at hnv ⊢
          have HV := Lib.hid hnv
          go_wp2
          go_ret2
          exact ⟨rfl, .inl ⟨nv (bl s), ⟨CN.out, rfl, HV.out⟩, rfl⟩⟩
  by_cases h48 : c0 = 48
  · exact GO true (by rw [beq_iff_eq]; omega) (fun _ h => h1 ⟨h48, h⟩)
  · exact GO false (by rw [beq_eq_false_iff_ne]; omega) (fun h => by cases h)
end Go.Proofs.YtdhmmllpldjkbaaGreatDoor.Gm
