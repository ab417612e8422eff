/- Laid together by wip/merge.py: Dkm Dkq Dkr Dks. -/
import Derived.Test.YtdhmmllpldjkbaaGreatDoorDeb
import Derived.Test.YtdhmmllpldjkbaaGreatDoorSte
import Derived.Test.YtdhmmllpldjkbaaGreatDoorRh
/- (Dkm) -/
namespace Go.Proofs.YtdhmmllpldjkbaaGreatDoor.Gm
open Go.RowKit
set_option linter.unusedVariables false
theorem trim1_suf (c : UInt8) (l : List UInt8) : trim1 c l = if [c].isSuffixOf l then l.take (l.length - 1) else l := by
  induction l with
  | nil => simp [trim1]
  | cons x r ih =>
    unfold trim1
    by_cases h0 : r = []
    · subst h0
      by_cases hx : x = c
      · subst hx; simp [List.isSuffixOf, List.isPrefixOf]
      · have hx2 : ¬ c = x := fun e => hx e.symm
        simp [List.isSuffixOf, List.isPrefixOf, hx, hx2]
    · rw [if_neg h0, ih]
      have e : [c].isSuffixOf (x :: r) = [c].isSuffixOf r := by
        rw [Bool.eq_iff_iff, List.isSuffixOf_iff_suffix, List.isSuffixOf_iff_suffix, List.suffix_cons_iff]
        constructor
        · rintro (h | h)
          · injection h with _ h; exact absurd h.symm h0
          · exact h
        · exact .inr
      rw [e]
      split
      · have : 0 < r.length := List.length_pos_iff.2 h0
        rw [List.length_cons, show r.length + 1 - 1 = (r.length - 1) + 1 by omega, List.take_succ_cons]
      · rfl
theorem pcs_len (c : UInt8) (sv : Bool) (s : List UInt8) : (pcs c sv s).length = s.count c + 1 := by
  induction s with
  | nil => rfl
  | cons x r ih =>
    simp only [pcs]
    by_cases h : x = c
    · rw [if_pos h, List.length_cons, ih, List.count_cons, if_pos (beq_iff_eq.2 h)]
    · rw [if_neg h, List.count_cons, if_neg (fun e => h (beq_iff_eq.1 e)), ← ih]
      cases hq : pcs c sv r with
      | nil => exact absurd hq (pcs_ne c sv r)
      | cons p ps => rfl
/-- the bound of short texts stands -/
def Mx (w : World) : Prop := ∃ m : Int, w.cell? ⟨0, 0, none⟩ = some (.int .i64 m)
theorem Mx.below {w w' : World} (h : Mx w) (hb : Below w.heap.size w w') : Mx w' := by
  obtain ⟨m, hm⟩ := h
  exact ⟨m, (hb.cell (p := ⟨0, 0, none⟩) (World.block_lt_of_cell? w _ hm)).trans hm⟩
theorem bl_fun : bl = fun s : ByteArray => s.data.toList := by funext s; unfold bl; rfl
theorem sp_bl (s : ByteArray) (c : UInt8) (sv : Bool) : (Lib.splitB ⟨#[c]⟩ (if sv then 1 else 0) (Lib.countB s ⟨#[c]⟩) s).map bl = pcs c sv (bl s) := by
  rw [bl_fun, Lib.splitB_data, ← split_pcs]
theorem count_le (s : ByteArray) (c : UInt8) : Lib.countB s ⟨#[c]⟩ ≤ s.size := by
  have h := Lib.countB_mul_le ⟨#[c]⟩ (Nat.le_refl 1) s.size s (Nat.le_refl _)
  have e : (⟨#[c]⟩ : ByteArray).size = 1 := rfl
  rw [e, Nat.mul_one] at h
  exact h
theorem Rs.laid (w : World) (l : List ByteArray) (arr : Array Value) (t : TypeId) (cap : Nat) (h : ∀ (i : Nat) (x : ByteArray), l[i]? = some x → arr[i]? = some (Value.string x)) (hc : l.length ≤ cap) (hc2 : cap ≤ 9223372036854775807) :
    Rs (w.alloc (.cells arr t)) (.slice (some ⟨w.heap.size, 0, none⟩) l.length cap) l := by
  refine ⟨_, _, w.heap.size, 0, rfl, hc, hc2, .inr rfl, fun i x hi => ?_⟩
  rw [World.cell?_alloc_at _ _ _ _ rfl, Nat.zero_add]
  exact h i x hi
theorem splita_any (s : ByteArray) (c : UInt8) (w : World) (hl : s.size ≤ 4294967000) (hm : Mx w) :
    Calls Tryz.prog 12 #[.string s, .string ⟨#[c]⟩] w fun e w' => ∃ v ls, e = .returned v ∧ Rs w' v ls ∧ ls.map bl = pcs c true (bl s) ∧ Below w.heap.size w w' := by
  obtain ⟨m, hm⟩ := hm
  have hN : ((Lib.countB s ⟨#[c]⟩ + 1 : Nat) : Int) = min (if (-1 : Int) < 0 then (Lib.countB s ⟨#[c]⟩ : Int) + 1 else -1) ((s.size : Int) + 1) := by
    have := count_le s c
    rw [if_pos (by omega)]
    omega
  have hc := count_le s c
  have C := Lib.hid (Tryz.strings_genSplit s ⟨#[c]⟩ 1 (-1) (Lib.countB s ⟨#[c]⟩ + 1) m w (by omega) hm (Nat.le_refl 1) (Nat.le_refl 1) (by omega) (by omega) hN)
  have E := Lib.hid (sp_bl s c true)
  rw [if_pos rfl] at E
  have hL := Lib.splitB_length_le ⟨#[c]⟩ 1 (Lib.countB s ⟨#[c]⟩) s
  rw [Nat.add_sub_cancel] at C
  have hN2 : Lib.countB s ⟨#[c]⟩ + 1 ≤ 9223372036854775807 := by omega
  generalize Lib.splitB ⟨#[c]⟩ 1 (Lib.countB s ⟨#[c]⟩) s = ls at *
  generalize Lib.countB s ⟨#[c]⟩ + 1 = N at *
  clear hN hm
  go_enter Tryz.func12, Tryz.ntmps12
  go_wp2_with fail
  refine C.out.mono ?_
  rintro e w' ⟨rfl, rfl⟩
  have R := Lib.hid (Rs.laid w ls (Lib.cellsOf ls N) 9 N (fun i x hi => by
    unfold Lib.cellsOf
    have h2 := (List.getElem?_eq_some_iff.1 hi).1
    rw [List.getElem?_toArray, List.getElem?_append_left (by rw [List.length_map]; exact h2), List.getElem?_map, hi]
    rfl) hL hN2)
  have B := Lib.hid ((Below.refl w.heap.size w).alloc (Nat.le_refl _) (.cells (Lib.cellsOf ls N) 9))
  go_wp2
  go_ret
  exact ⟨_, ls, rfl, R.out, E.out, B.out⟩
theorem split_any (s : ByteArray) (c : UInt8) (w : World) (hl : s.size ≤ 4294967000) (hm : Mx w) :
    Calls Tryz.prog 13 #[.string s, .string ⟨#[c]⟩] w fun e w' => ∃ v ls, e = .returned v ∧ Rs w' v ls ∧ ls.map bl = pcs c false (bl s) ∧ Below w.heap.size w w' := by
  obtain ⟨m, hm⟩ := hm
  refine (Tryz.strings_Split s ⟨#[c]⟩ m w (by omega) hm (Nat.le_refl 1)).mono ?_
  have hc := count_le s c
  have E := sp_bl s c false
  rw [if_neg (by simp)] at E
  have hL : (Lib.splitB ⟨#[c]⟩ 0 (Lib.countB s ⟨#[c]⟩) s).length = Lib.countB s ⟨#[c]⟩ + 1 := by
    have h1 := congrArg List.length E
    rw [List.length_map] at h1
    rw [h1]
    have h2 := pcs_len c false (bl s)
    rw [h2]
    show _ = Lib.count s.data.toList [c] + 1
    rw [Lib.count_one]
    unfold bl
    rfl
  rintro e w' ⟨rfl, rfl⟩
  rw [← hL]
  exact ⟨_, _, rfl, Rs.laid w _ _ 9 _ (fun i x hi => by rw [List.getElem?_toArray, List.getElem?_map, hi]; rfl) (Nat.le_refl _) (by omega), E, (Below.refl w.heap.size w).alloc (Nat.le_refl _) _⟩
theorem trim_bl (s : ByteArray) (c : UInt8) (w : World) (hs : s.size ≤ 9223372036854775807) :
    Calls Tryz.prog 14 #[.string s, .string ⟨#[c]⟩] w fun e w' => ∃ t : ByteArray, e = .returned (.string t) ∧ bl t = trim1 c (bl s) ∧ w = w' := by
  refine (Tryz.strings_TrimSuffix s ⟨#[c]⟩ w hs).mono ?_
  rintro e w' ⟨rfl, rfl⟩
  refine ⟨_, rfl, ?_, rfl⟩
  rw [bl_mk]
  show Lib.trimSuffix s.data.toList [c] = _
  rw [show s.data.toList = bl s by unfold bl; rfl]
  rw [trim1_suf]
  rfl
end Go.Proofs.YtdhmmllpldjkbaaGreatDoor.Gm
/- (Dkq) -/
namespace Go.Proofs.YtdhmmllpldjkbaaGreatDoor.Gm
open Go.RowKit
set_option linter.unusedVariables false
/-- words that are not too long -/
def SmW (ws : List ByteArray) : Prop := ws.length ≤ 100000 ∧ ∀ x ∈ ws, x.size ≤ 10000000
def DoA (vb : ByteArray) (ws : List ByteArray) (r : ByteArray) : Prop := ∀ v w, Rs w v ws → Tp w → Tb w → Calls Tryz.prog 16 #[.string vb, v] w (RetV w (.string r))
def LnA (vb : ByteArray) (ws : List ByteArray) (r : ByteArray) : Prop := ∀ v w, Rs w v ws → Tp w → Tb w → Calls Tryz.prog 18 #[.string vb, v] w (RetV w (.string r))
def Ans (vb : ByteArray) (ws : List ByteArray) (r : ByteArray) : Prop := r.size ≤ 1000000000 ∧ DoA vb ws r ∧ LnA vb ws r
theorem pcs_mem (c : UInt8) (sv : Bool) (s : List UInt8) : ∀ p ∈ pcs c sv s, p.length ≤ s.length := by
  induction s with
  | nil => intro p hp; simp [pcs] at hp; subst hp; simp
  | cons x r ih =>
    intro p hp
    simp only [pcs] at hp
    by_cases h : x = c
    · rw [if_pos h] at hp
      rcases List.mem_cons.1 hp with rfl | hp
      · cases sv <;> simp
      · have := ih p hp; rw [List.length_cons]; omega
    · rw [if_neg h] at hp
      cases hq : pcs c sv r with
      | nil => exact absurd hq (pcs_ne c sv r)
      | cons q qs =>
        rw [hq] at hp ih
        simp only [consHead] at hp
        rcases List.mem_cons.1 hp with rfl | hp
        · have := ih q (by simp); rw [List.length_cons, List.length_cons]; omega
        · have := ih p (List.mem_cons_of_mem _ hp); rw [List.length_cons]; omega
theorem dropE_mem {l : List (List UInt8)} {x : List UInt8} (h : x ∈ dropE l) : x ∈ l := by
  unfold dropE at h
  split at h
  · exact List.dropLast_subset _ h
  · exact h
theorem lines_sm {s x : List UInt8} (h : x ∈ lnsOf s) : x.length ≤ s.length := pcs_mem 10 false s x (dropE_mem h)
theorem words_sm {s p : List UInt8} (h : p ∈ wordsOf s) : p.length ≤ s.length := pcs_mem 32 false s p (List.mem_filter.1 h).1
theorem words_ne {s p : List UInt8} (h : p ∈ wordsOf s) : p ≠ [] := by
  have h1 := (List.mem_filter.1 h).2
  intro e
  rw [e] at h1
  cases h1
theorem words_len (s : List UInt8) : (wordsOf s).length ≤ s.length + 1 := by
  have h1 := List.length_filter_le (fun p : List UInt8 => !p.isEmpty) (pcs 32 false s)
  have h2 := pcs_len 32 false s
  have h3 : s.count 32 ≤ s.length := List.count_le_length
  unfold wordsOf
  omega
theorem trim1_len (c : UInt8) (l : List UInt8) : (trim1 c l).length ≤ l.length := by
  rw [trim1_suf]
  split
  · rw [List.length_take]; omega
  · exact Nat.le_refl _
/-- does a line ask for an answer? -/
def actL (x : List UInt8) : Bool := match wordsOf x with
  | [] => false
  | p :: _ => !(p.head? == some 35)
theorem act_nil {x : List UInt8} (h : wordsOf x = []) : actL x = false := by unfold actL; rw [h]
theorem act_yes {x p : List UInt8} {ps : List (List UInt8)} (h : wordsOf x = p :: ps) (hp : p.head? ≠ some 35) : actL x = true := by
  unfold actL; rw [h]
  show (!(p.head? == some 35)) = true
  rw [beq_eq_false_iff_ne.2 hp]; rfl
theorem act_no {x p : List UInt8} {ps : List (List UInt8)} (h : wordsOf x = p :: ps) (hp : p.head? = some 35) : actL x = false := by
  unfold actL; rw [h]
  show (!(p.head? == some 35)) = false
  rw [hp]; rfl
/-- what a line adds -/
def pcO (O : List UInt8 → ByteArray) (x : List UInt8) : List UInt8 := if actL x then bl (O x) ++ [10] else []
theorem pcO_yes {O : List UInt8 → ByteArray} {x : List UInt8} (h : actL x = true) : pcO O x = bl (O x) ++ [10] := by unfold pcO; rw [if_pos h]
theorem pcO_no {O : List UInt8 → ByteArray} {x : List UInt8} (h : actL x = false) : pcO O x = [] := by unfold pcO; rw [h]; rfl
/-- what the first k lines add -/
@[irreducible] def ouL (O : List UInt8 → ByteArray) (ls : List (List UInt8)) (k : Nat) : List UInt8 := ((ls.take k).map (pcO O)).flatten
theorem ouL_zero (O : List UInt8 → ByteArray) (ls : List (List UInt8)) : ouL O ls 0 = [] := by unfold ouL; rfl
theorem ouL_succ (O : List UInt8 → ByteArray) (ls : List (List UInt8)) {k : Nat} {x : List UInt8} (h : ls[k]? = some x) : ouL O ls (k + 1) = ouL O ls k ++ pcO O x := by
  unfold ouL
  obtain ⟨h1, h2⟩ := List.getElem?_eq_some_iff.1 h
  rw [List.take_succ_eq_append_getElem h1, h2, List.map_append, List.flatten_append, List.map_cons, List.map_nil, List.flatten_cons, List.flatten_nil, List.append_nil]
def SzO (O : List UInt8 → ByteArray) (ls : List (List UInt8)) : Prop := ∀ x ∈ ls, actL x = true → (O x).size ≤ 1000000000
theorem ouL_len (O : List UInt8 → ByteArray) (ls : List (List UInt8)) (h : SzO O ls) : ∀ k, k ≤ ls.length → (ouL O ls k).length ≤ k * 1000000001
  | 0, _ => by rw [ouL_zero]; exact Nat.zero_le _
  | k + 1, hk => by
    have ih := ouL_len O ls h k (by omega)
    have hx : ls[k]? = some ls[k] := List.getElem?_eq_getElem (by omega)
    rw [ouL_succ O ls hx, List.length_append]
    rw [Nat.add_mul, Nat.one_mul]
    refine Nat.add_le_add ih ?_
    by_cases ha : actL ls[k] = true
    · have h1 := h _ (List.getElem_mem _) ha
      rw [pcO_yes ha, List.length_append, bl_len]
      exact Nat.add_le_add h1 (Nat.le_refl 1)
    · rw [pcO_no (by simpa using ha)]
      exact Nat.zero_le _
def OkD (O : List UInt8 → ByteArray) (ls : List (List UInt8)) : Prop := ∀ x ∈ ls, ∀ p rest, (p :: rest).map bl = wordsOf x → actL x = true → DoA p rest (O x)
def OkR (O : List UInt8 → ByteArray) (ls : List (List UInt8)) : Prop := ∀ x ∈ ls, ∀ p rest, (p :: rest).map bl = wordsOf x → actL x = true → LnA p rest (O x)
theorem head35 {s : ByteArray} (h : 0 < s.size) : (bl s).head? = some 35 ↔ bn s 0 = 35 := by
  rw [bn_eq]
  cases hl : bl s with
  | nil => have := bl_len s; rw [hl, List.length_nil] at this; omega
  | cons a r =>
    rw [List.head?_cons, List.getD_cons_zero, Option.some.injEq]
    constructor
    · intro e; rw [e]; rfl
    · intro e; exact UInt8.toNat.inj (e.trans rfl)
end Go.Proofs.YtdhmmllpldjkbaaGreatDoor.Gm
/- (Dkr) -/
namespace Go.Proofs.YtdhmmllpldjkbaaGreatDoor.Gm
open Go.RowKit
set_option linter.unusedVariables false
theorem isB_below {T e : TypeId} {B b : Nat} {p : Value} {bs : List Value} {W W' : World} (h : Lib.BuilderAt T e B b p bs W) (hb : Below W.heap.size W W') : Lib.BuilderAt T e B b p bs W' := by
  have hlt := h.lt
  obtain ⟨hB, v, hv, hown, hne⟩ := h
  exact ⟨hB, v, (hb.block b hlt).trans hv, hown.kept (row := none) ⟨hb.os, hb.tape, hb.output, hb.size, fun k hk _ => hb.block k hk⟩ (Classical.em _), hne⟩
theorem isBld_below {T e : TypeId} {B b : Nat} {bs : List Value} {W W' : World} (h : Lib.IsBuilder T e B b bs W) (hb : Below W.heap.size W W') : Lib.IsBuilder T e B b bs W' :=
  h.elim (fun x => .inl (isB_below x hb)) (fun x => .inr (isB_below x hb))
theorem dropE_trim (t : ByteArray) (ls : List ByteArray) (h : ls.map bl = dropE (pcs 10 true (bl t))) : (ls.map bl).map (trim1 10) = lnsOf (bl t) := by rw [h, lines_trim]
theorem byte_app (l : List UInt8) (s : ByteArray) : Lib.byteCells l ++ Lib.strCells s = Lib.byteCells (l ++ bl s) := by
  rw [Lib.strCells_eq, Lib.byteCells_append]
  unfold bl
  rfl
def RuR (O : List UInt8 → ByteArray) (lns : List (List UInt8)) (n bb : Nat) (wb : World) (vi : Value) (wr : World) : Prop :=
  ∃ k : Nat, k ≤ n ∧ vi = .int .i64 k ∧ Lib.IsBuilder 32 5 bb bb (Lib.byteCells (ouL O lns k)) wr ∧ Below bb wb wr
set_option maxHeartbeats 4000000 in
set_option maxRecDepth 100000 in
theorem run_bad (t : ByteArray) (hl : t.size ≤ 4000000000) (hbad : 65536 < t.size ∨ 200 < (lnsOf (bl t)).length) (w : World) (hM : Mx w) :
    Calls Tryz.prog 6 #[.string t] w (RetV w (.string ⟨#[101, 114, 114, 111, 114, 32, 50, 10]⟩)) := by
  have SA := Lib.hid (splita_any t 10 w (by omega) hM)
  have HB := Lib.hid hbad
  clear hM hbad
  go_enter Tryz.func6, Tryz.ntmps6
  go_wp2_with fail
  refine SA.out.mono ?_
  rintro e w1 ⟨v, ps, rfl, hrs, hpm, hb⟩
  have B1 := Lib.hid hb
  have hs1 := hb.size
  have PM := Lib.hid hpm
  have hne : ps ≠ [] := fun e => by
    rw [e] at hpm
    exact pcs_ne 10 true (bl t) hpm.symm
  have h0 : 0 < ps.length := List.length_pos_iff.2 hne
  have RS := Lib.hid hrs
  obtain ⟨cap, b, off, rfl, hk, hm, hx⟩ := hrs.cells h0
  have HC := Lib.hid hx
  obtain ⟨m, hmn⟩ : ∃ m, m = ps.length - 1 := ⟨_, rfl⟩
  have hml : m < ps.length := by omega
  obtain ⟨x, hx⟩ : ∃ x, x = ps[m] := ⟨_, rfl⟩
  have hxm : ps[m]? = some x := by rw [hx]; exact List.getElem?_eq_getElem hml
  have c0 : w1.cell? ⟨b, off + m, none⟩ = some (.string x) := HC.out m x hxm
  have LST := Lib.hid (show (pcs 10 true (bl t)).getLast? = some (bl x) from by
    rw [← PM.out, List.getLast?_map, List.getLast?_eq_getElem?, ← hmn, hxm]; rfl)
  have DL := Lib.hid (show (ps.take m).map bl = (pcs 10 true (bl t)).dropLast from by
    rw [← PM.out, List.dropLast_eq_take, List.length_map, ← hmn, List.map_take])
  obtain ⟨n, hn⟩ : ∃ n, n = ps.length := ⟨_, rfl⟩
  have HN := Lib.hid hn
  have em : (n : Int) - 1 = (m : Int) := by omega
  have emw : IntKind.i64.wrap ((n : Int) - 1) = (m : Int) := by rw [em]; exact IntWalk.i64_in _ (by omega)
  have hmn2 : m < n := by omega
  have hkn : n ≤ cap := by omega
  have RT := Lib.hid (show Rs w1 (.slice (some ⟨b, off, none⟩) m cap) (ps.take m) from by
    obtain ⟨a', cap', e1, hr⟩ := RS.out.take m (by omega)
    injection e1 with e1 _ e3
    subst e1; subst e3
    exact hr)
  rw [← hn]
  rw [← hn] at RS
  clear hb hpm SA hne hk hmn hx hxm hn hml h0 hrs HC
  by_cases he : x.toList.isEmpty = true
  · have hbx : bl x = [] := by
      rw [Lib.toList_data] at he
      unfold bl
      exact List.isEmpty_iff.1 he
    have FIN := Lib.hid (show (ps.take m).map bl = dropE (pcs 10 true (bl t)) from by
      unfold dropE
      rw [LST.out, hbx, if_pos rfl, DL.out])
    have LN := Lib.hid (show (ps.take m).length = m from by rw [List.length_take, ← HN.out]; omega)
    have hq : 65536 < t.size ∨ 200 < m := by
      rcases HB.out with h | h
      · exact .inl h
      · right
        rw [← dropE_trim t _ FIN.out, List.length_map, List.length_map, LN.out] at h
        exact h
    by_cases h6 : 65536 < t.size
    · have g1 : decide ((65536 : Int) < (t.size : Int)) = true := decide_eq_true (by omega)
      have g2 : decide (65536 < t.size) = true := decide_eq_true h6
      go_wp2
      go_ret
      exact ⟨rfl, B1.out⟩
    · have h7 : 200 < m := hq.resolve_left h6
      have g1 : decide ((65536 : Int) < (t.size : Int)) = false := decide_eq_false (by omega)
      have g2 : decide (65536 < t.size) = false := decide_eq_false h6
      have g3 : decide ((200 : Int) < (m : Int)) = true := decide_eq_true (by omega)
      have g4 : decide (200 < m) = true := decide_eq_true h7
      go_wp2
      go_ret
      exact ⟨rfl, B1.out⟩
  · have he : x.toList.isEmpty = false := by simpa using he
    have hbx : bl x ≠ [] := fun e => by
      unfold bl at e
      rw [Lib.toList_data, e] at he
      cases he
    have FIN := Lib.hid (show ps.map bl = dropE (pcs 10 true (bl t)) from by
      unfold dropE
      rw [LST.out, if_neg (fun e => hbx (Option.some.inj e)), PM.out])
    have LN := Lib.hid (show ps.length = n from HN.out.symm)
    have hq : 65536 < t.size ∨ 200 < n := by
      rcases HB.out with h | h
      · exact .inl h
      · right
        rw [← dropE_trim t _ FIN.out, List.length_map, List.length_map, LN.out] at h
        exact h
    by_cases h6 : 65536 < t.size
    · have g1 : decide ((65536 : Int) < (t.size : Int)) = true := decide_eq_true (by omega)
      have g2 : decide (65536 < t.size) = true := decide_eq_true h6
      go_wp2
      go_ret
      exact ⟨rfl, B1.out⟩
    · have h7 : 200 < n := hq.resolve_left h6
      have g1 : decide ((65536 : Int) < (t.size : Int)) = false := decide_eq_false (by omega)
      have g2 : decide (65536 < t.size) = false := decide_eq_false h6
      have g3 : decide ((200 : Int) < (n : Int)) = true := decide_eq_true (by omega)
      have g4 : decide (200 < n) = true := decide_eq_true h7
      go_wp2
      go_ret
      exact ⟨rfl, B1.out⟩
theorem words_Sm {ln : List UInt8} {p : ByteArray} {ps : List ByteArray} (h : (p :: ps).map bl = wordsOf ln) (hl : ln.length ≤ 65536) : SmW ps := by
  refine ⟨?_, fun x hx => ?_⟩
  · have h1 := congrArg List.length h
    have h2 := words_len ln
    rw [List.length_map, List.length_cons] at h1
    omega
  · have h1 : bl x ∈ wordsOf ln := by rw [← h]; exact List.mem_map_of_mem (List.mem_cons_of_mem _ hx)
    have h2 := words_sm h1
    rw [bl_len] at h2
    omega
set_option maxHeartbeats 8000000 in
set_option maxRecDepth 100000 in
theorem run_any (t : ByteArray) (O : List UInt8 → ByteArray) (hO : OkD O (lnsOf (bl t))) (hZ : SzO O (lnsOf (bl t))) (ht : t.size ≤ 65536) (hn2 : (lnsOf (bl t)).length ≤ 200) (w : World) (hT : Tp w) (hTb : Tb w) (hM : Mx w) :
    Calls Tryz.prog 6 #[.string t] w (RetV w (.string ⟨(ouL O (lnsOf (bl t)) (lnsOf (bl t)).length).toArray⟩)) := by
  have SA := Lib.hid (splita_any t 10 w (by omega) hM)
  have OD := Lib.hid hO
  have OZ := Lib.hid hZ
  have TP := Lib.hid hT
  have TB := Lib.hid hTb
  have MX := Lib.hid hM
  have LS := Lib.hid (show ∀ x ∈ lnsOf (bl t), x.length ≤ 65536 from fun x hx => by have := lines_sm hx; rw [bl_len] at this; omega)
  clear hM hO hZ hT hTb
  go_enter Tryz.func6, Tryz.ntmps6
  go_wp2_with fail
  refine SA.out.mono ?_
  rintro e w1 ⟨v, ps, rfl, hrs, hpm, hb⟩
  have B1 := Lib.hid hb
  have hs1 := hb.size
  have PM := Lib.hid hpm
  have hne : ps ≠ [] := fun e => by
    rw [e] at hpm
    exact pcs_ne 10 true (bl t) hpm.symm
  have h0 : 0 < ps.length := List.length_pos_iff.2 hne
  have RS := Lib.hid hrs
  obtain ⟨cap, b, off, rfl, hk, hm, hx⟩ := hrs.cells h0
  have HC := Lib.hid hx
  obtain ⟨m, hmn⟩ : ∃ m, m = ps.length - 1 := ⟨_, rfl⟩
  have hml : m < ps.length := by omega
  obtain ⟨x, hx⟩ : ∃ x, x = ps[m] := ⟨_, rfl⟩
  have hxm : ps[m]? = some x := by rw [hx]; exact List.getElem?_eq_getElem hml
  have c0 : w1.cell? ⟨b, off + m, none⟩ = some (.string x) := HC.out m x hxm
  have LST := Lib.hid (show (pcs 10 true (bl t)).getLast? = some (bl x) from by
    rw [← PM.out, List.getLast?_map, List.getLast?_eq_getElem?, ← hmn, hxm]; rfl)
  have DL := Lib.hid (show (ps.take m).map bl = (pcs 10 true (bl t)).dropLast from by
    rw [← PM.out, List.dropLast_eq_take, List.length_map, ← hmn, List.map_take])
  obtain ⟨n, hn⟩ : ∃ n, n = ps.length := ⟨_, rfl⟩
  have HN := Lib.hid hn
  have em : (n : Int) - 1 = (m : Int) := by omega
  have emw : IntKind.i64.wrap ((n : Int) - 1) = (m : Int) := by rw [em]; exact IntWalk.i64_in _ (by omega)
  have hmn2 : m < n := by omega
  have hkn : n ≤ cap := by omega
  have RT := Lib.hid (show Rs w1 (.slice (some ⟨b, off, none⟩) m cap) (ps.take m) from by
    obtain ⟨a', cap', e1, hr⟩ := RS.out.take m (by omega)
    injection e1 with e1 _ e3
    subst e1; subst e3
    exact hr)
  rw [← hn]
  rw [← hn] at RS
  have XP := Lib.hid (show ∀ y ∈ ps, y.size ≤ 65536 from fun y hy => by
    have h1 := pcs_mem 10 true (bl t) (bl y) (by rw [← PM.out]; exact List.mem_map_of_mem hy)
    rw [bl_len, bl_len] at h1
    omega)
  clear hb hpm SA hne hk hmn hx hxm hn hml h0 hrs HC
  by_cases he : x.toList.isEmpty = true
  · have hbx : bl x = [] := by
      rw [Lib.toList_data] at he
      unfold bl
      exact List.isEmpty_iff.1 he
    have FIN := Lib.hid (show (ps.take m).map bl = dropE (pcs 10 true (bl t)) from by
      unfold dropE
      rw [LST.out, hbx, if_pos rfl, DL.out])
    have LN := Lib.hid (show (ps.take m).length = m from by rw [List.length_take, ← HN.out]; omega)
    have XL := Lib.hid (show ∀ i y, (ps.take m)[i]? = some y → y.size ≤ 65536 from fun i y hy => XP.out y (List.mem_of_mem_take (List.mem_of_getElem? hy)))
    have hnl : m ≤ 200 := by
      have := hn2
      rw [← dropE_trim t _ FIN.out, List.length_map, List.length_map, LN.out] at this
      exact this
    have LT := Lib.hid (dropE_trim t _ FIN.out)
    have RL := Lib.hid (show Rs w1 (.slice (some ⟨b, off, none⟩) m cap) (ps.take m) from RT.out)
    have LNO := Lib.hid LN.out
    obtain ⟨ls, hls⟩ : ∃ ls, ls = (ps.take m) := ⟨_, rfl⟩
    rw [← hls] at LT RL LNO XL
    have g1 : decide ((65536 : Int) < (t.size : Int)) = false := decide_eq_false (by omega)
    have g2 : decide (65536 < t.size) = false := decide_eq_false (by omega)
    have g3 : decide ((200 : Int) < (m : Int)) = false := decide_eq_false (by omega)
    have g4 : decide (200 < m) = false := decide_eq_false (by omega)
    obtain ⟨_, capq, bq, offq, eq1, hq1, hq2, hq3, hq4⟩ := RL.out
    have CL := Lib.hid (show ∀ i x, ls[i]? = some x → w1.cell? ⟨b, off + i, none⟩ = some (.string x) from fun i x hi => by
      injection eq1 with eq1 _ eq3
      have h5 := hq4 i x hi
      rcases hq3 with hq3 | hq3
      · have := (List.getElem?_eq_some_iff.1 hi).1; omega
      · rw [hq3] at eq1
        injection eq1 with eq1
        injection eq1 with eqb eqo
        subst eqb; subst eqo
        exact h5)
    clear eq1 hq1 hq2 hq3 hq4 RL hls RT RS FIN LN PM LST DL hbx
    have IB := Lib.fresh_isBuilder 32 5 w1
    have hal : Below w1.heap.size w1 (w1.alloc (.cells #[.pointer none, .slice none 0 0] 32)) := (Below.refl w1.heap.size w1).alloc (Nat.le_refl _) _
    have hsz : (w1.alloc (.cells #[.pointer none, .slice none 0 0] 32)).heap.size = w1.heap.size + 1 := World.size_alloc _ _
    go_wp2
    obtain ⟨wb, hwb⟩ : ∃ wb, wb = w1.alloc (.cells #[.pointer none, .slice none 0 0] 32) := ⟨_, rfl⟩
    obtain ⟨bb, hbb⟩ : ∃ bb, bb = w1.heap.size := ⟨_, rfl⟩
    rw [← hwb, ← hbb] at hal IB hsz
    rw [← hwb, ← hbb]
    have BA := Lib.hid (show Below w.heap.size w wb from B1.out.trans ((hbb ▸ hal).mono hs1))
    have IB0 := Lib.hid IB
    have hsb : w.heap.size ≤ bb := by rw [hbb]; exact hs1
    have hbw : bb ≤ wb.heap.size := by omega
    have CB := Lib.hid (show ∀ i x, ls[i]? = some x → b < bb ∧ wb.cell? ⟨b, off + i, none⟩ = some (.string x) from fun i x hi => by
      have h5 := CL.out i x hi
      have h6 := World.block_lt_of_cell? w1 _ h5
      exact ⟨by rw [hbb]; exact h6, (hal.cell (p := ⟨b, off + i, none⟩) (by rw [hbb]; exact h6)).trans h5⟩)
    clear hwb hal IB hbb CL hsz
    obtain ⟨lns, hln⟩ : ∃ lns, lns = lnsOf (bl t) := ⟨_, rfl⟩
    rw [← hln] at LT OD OZ LS hn2
    rw [← hln]
    have LL : lns.length = m := by rw [← LT.out, List.length_map, List.length_map, LNO.out]
    have LLh := Lib.hid LL
    have HLN := Lib.hid hln
    have U0 := Lib.hid (ouL_zero O lns)
    have US := Lib.hid (fun k x h => ouL_succ O lns (k := k) (x := x) h)
    have UL := Lib.hid (ouL_len O lns OZ.out)
    clear hln LL em emw hmn2 hkn g1 g2 g3 g4 HN
    rw [LLh.out]
    rw [LLh.out] at hn2
    go_loopw [6, 7, 9, 34] (fun _ _ _ vi wr => RuR O lns m bb wb vi wr) (fun _ _ _ i _ => m - (intOf i).toNat)
    case atStart => exact ⟨0, by omega, rfl, by rw [U0.out]; exact IB0.out, Below.refl _ _⟩
    case round =>
      obtain ⟨k, hk, rfl, hib, hb⟩ := hrel
      have I1 := Lib.hid hib
      have B2 := Lib.hid hb
      have hs2 := hb.size
      clear hib hb
      have BW0 := Lib.hid (BA.out.trans (B2.out.mono hsb))
      have hsw := BW0.out.size
      by_cases hkn : k < m
      · have g1 : decide ((k : Int) < (m : Int)) = true := decide_eq_true (by omega)
        have g2 : decide (k < m) = true := decide_eq_true hkn
        have hkl : k < ls.length := by rw [LNO.out]; exact hkn
        obtain ⟨x0, hx0⟩ : ∃ x0, x0 = ls[k] := ⟨_, rfl⟩
        have hxk : ls[k]? = some x0 := by rw [hx0]; exact List.getElem?_eq_getElem hkl
        obtain ⟨hbbb, c0⟩ := CB.out k x0 hxk
        have c0 := (B2.out.cell (p := ⟨b, off + k, none⟩) hbbb).trans c0
        obtain ⟨ln, hln⟩ : ∃ ln, ln = trim1 10 (bl x0) := ⟨_, rfl⟩
        have hlk : lns[k]? = some ln := by rw [← LT.out, List.getElem?_map, List.getElem?_map, hxk, hln]; rfl
        have hmem : ln ∈ lns := List.mem_of_getElem? hlk
        have hlen := LS.out ln hmem
        have ODk := Lib.hid (OD.out ln hmem)
        have OZk := Lib.hid (OZ.out ln hmem)
        have USk := Lib.hid (US.out k ln hlk)
        have ULk := UL.out k (by rw [LLh.out]; omega)
        have hle : x0.size ≤ 65536 := by
          have h7 := XL.out k x0 hxk
          exact h7
        have TM := Lib.hid (fun w => trim_bl x0 10 w (by omega))
        rw [← hln] at TM
        clear hx0 hxk hln hlk hmem
        go_wp2_with fail
        refine (TM.out _).mono ?_
        rintro e w' ⟨tt, rfl, htt, rfl⟩
        have TT := Lib.hid htt
        have htl : tt.size ≤ 65536 := by rw [← bl_len, htt]; exact hlen
        have SP := Lib.hid (split_any tt 32 wr (by omega) (MX.out.below BW0.out))
        clear htt TM c0
        go_wp2_with fail
        refine SP.out.mono ?_
        rintro e w3 ⟨v3, qs, rfl, hrs, hqm, hb⟩
        have B3 := Lib.hid (B2.out.trans (hb.mono (Nat.le_trans hbw hs2)))
        have I3 := Lib.hid (isBld_below I1.out hb)
        have hs3 := hb.size
        have WF := Lib.hid (words_fw qs (bl tt) hqm)
        rw [TT.out] at WF
        have hql : qs.length ≤ 65537 := by
          have h1 := congrArg List.length hqm
          rw [List.length_map, pcs_len] at h1
          have h3 : (bl tt).count 32 ≤ (bl tt).length := List.count_le_length
          rw [bl_len] at h3
          omega
        obtain ⟨a3, c3, b3, o3, rfl, hk3, hm3, hx3, hc3⟩ := hrs
        have HC3 := Lib.hid hc3
        have HA3 := Lib.hid hx3
        obtain ⟨q, hq⟩ : ∃ q, q = qs.length := ⟨_, rfl⟩
        have HQ := Lib.hid hq
        rw [← hq] at hk3 HA3 hql ⊢
        clear hb hqm hc3 hx3 SP hq I1 TT
        go_wp2
        go_loopw [7, 9, 42] (fun v7 _ v42 wr2 => WoR qs w3 v7 v42 wr2) (fun _ _ i _ => q - (intOf i).toNat)
        case atStart => exact ⟨0, by omega, rfl, by rw [List.take_zero]; exact Ots.nil _ _, Below.refl _ _⟩
        case round =>
          obtain ⟨i, hi, rfl, ho, hb⟩ := hrel
          rw [← HQ.out] at hi
          have O2 := Lib.hid ho
          have B4 := Lib.hid hb
          have hs4 := hb.size
          clear ho hb
          by_cases hil : i < q
          · obtain rfl := HA3.out.resolve_left (by omega)
            have g3 : decide ((i : Int) < (q : Int)) = true := decide_eq_true (by omega)
            have g4 : decide (i < q) = true := decide_eq_true hil
            have hip : i < qs.length := by rw [← HQ.out]; exact hil
            obtain ⟨x, hx⟩ : ∃ x, x = qs[i] := ⟨_, rfl⟩
            have hxi : qs[i]? = some x := by rw [hx]; exact List.getElem?_eq_getElem hip
            have c5 := HC3.out i x hxi
            have c5 := (B4.out.cell (p := ⟨b3, o3 + i, none⟩) (World.block_lt_of_cell? w3 _ c5)).trans c5
            have TK : qs.take (i + 1) = qs.take i ++ [x] := by rw [List.take_succ_eq_append_getElem hip, hx]
            by_cases he : x.toList.isEmpty = true
            · have NX := Lib.hid (show (qs.take (i + 1)).filter fw = (qs.take i).filter fw from by
                rw [TK, List.filter_append, List.filter_cons_of_neg (by rw [fw_emp he]; decide), List.filter_nil, List.append_nil])
              clear hx hxi TK
              go_wp2
              go_roundw
              case rel => exact ⟨i + 1, by rw [← HQ.out]; omega, by go_num, by rw [NX.out]; exact O2.out, B4.out⟩
              case measure => simp [intOf] <;> omega
            · have he : x.toList.isEmpty = false := by simpa using he
              have NX := Lib.hid (show (qs.take i).filter fw ++ [x] = (qs.take (i + 1)).filter fw from by
                rw [TK, List.filter_append, List.filter_cons_of_pos (fw_ne he), List.filter_nil])
              have hll : ((qs.take i).filter fw).length ≤ 100000000 := by
                have h1 := List.length_filter_le fw (qs.take i)
                rw [List.length_take] at h1
                omega
              clear hx hxi TK
              go_wp2_with (at_builtin; refine wl_app_txt2 _ rfl (.tmp 48) (.tmp 50) rfl w3.heap.size _ ((qs.take i).filter fw) x w3 rfl rfl O2.out B4.out hs4 hll ?_)
              intro v7 w7 h1 h2
              rw [NX.out] at h1
              have O3 := Lib.hid h1
              have B5 := Lib.hid h2
              clear h1 h2 NX c5 O2 B4
              go_wp2
              go_roundw
              case rel => exact ⟨i + 1, by rw [← HQ.out]; omega, by go_num, O3.out, B5.out⟩
              case measure => simp [intOf] <;> omega
          · obtain rfl : q = i := by omega
            have g3 : decide ((q : Int) < (q : Int)) = false := decide_eq_false (by omega)
            have OF := Lib.hid (show Ots w3.heap.size wr _ (qs.filter fw) from by
              have h1 := O2.out
              rw [List.take_of_length_le (by rw [← HQ.out]; exact Nat.le_refl _)] at h1
              exact h1)
            have I4 := Lib.hid (isBld_below I3.out B4.out)
            have B6 := Lib.hid (B3.out.trans (B4.out.mono (Nat.le_trans hbw (Nat.le_trans hs2 hs3))))
            have BW1 := Lib.hid (BA.out.trans (B6.out.mono hsb))
            have hs6 := BW1.out.size
            have hbw6 : bb ≤ wr.heap.size := by have := B6.out.size; omega
            obtain ⟨ws, hws⟩ : ∃ ws, ws = qs.filter fw := ⟨_, rfl⟩
            rw [← hws] at WF OF
            have WN := Lib.hid (show ∀ p, bl p ∈ ws.map bl → bl p ≠ [] from fun p hp => by rw [WF.out] at hp; exact words_ne hp)
            clear hws O2 I3 B3 B4 HC3 HA3 HQ
            have g3 := Lib.hid g3
            rcases ws with _ | ⟨p, rest⟩
            · have NA := Lib.hid (show ouL O lns (k + 1) = ouL O lns k from by
                rw [USk.out, pcO_no (act_nil WF.out.symm), List.append_nil])
              obtain ⟨a7, c7, rfl, _, _, _⟩ := ownShape OF.out
              have g3 := g3.out
              go_wp2
              go_roundw
              case rel => exact ⟨k + 1, by omega, by go_num, by rw [NA.out]; exact I4.out, B6.out⟩
              case measure => simp [intOf] <;> omega
            · have hp0 : 0 < p.size := by
                have h1 := WN.out p (by simp)
                rw [← bl_len]
                exact List.length_pos_iff.2 h1
              have R7 := Lib.hid OF.out.rs
              obtain ⟨vr, hvs, hvr⟩ := R7.out.from 1 (by simp)
              rw [show ((1 : Nat) : Int) = 1 from rfl] at hvs
              have RR := Lib.hid hvr
              obtain ⟨c7, b7, o7, rfl, hk7, hm7, hx7⟩ := R7.out.cells (by simp)
              have c8 := hx7 0 p rfl
              rw [Nat.add_zero] at c8
              have ixp := ix_str hp0 wr
              rw [show ((0 : Nat) : Int) = 0 from rfl] at ixp
              have ghl : decide ((0 : Int) < ((p :: rest).length : Int)) = true := decide_eq_true (by simp only [List.length_cons]; omega)
              have ghn : decide (0 < (p :: rest).length) = true := decide_eq_true (by simp)
              rw [List.map_cons] at WF
              have WC := Lib.hid WF.out.symm
              have SM := Lib.hid (words_Sm (ln := ln) (by rw [List.map_cons]; exact WF.out) hlen)
              have h35 := head35 hp0
              obtain ⟨nw, hnw⟩ : ∃ nw, nw = (p :: rest).length := ⟨_, rfl⟩
              rw [← hnw] at hvs hk7 ghl ghn ⊢
              have hnwi : 0 < nw := by rw [hnw]; simp
              clear hx7 hvr hnw
              have g3 := g3.out
              by_cases hh : (bl p).head? = some 35
              · have NA := Lib.hid (show ouL O lns (k + 1) = ouL O lns k from by
                  rw [USk.out, pcO_no (act_no WC.out hh), List.append_nil])
                have h36 := h35.1 hh
                rw [h36] at ixp
                go_wp2
                go_roundw
                case rel => exact ⟨k + 1, by omega, by go_num, by rw [NA.out]; exact I4.out, B6.out⟩
                case measure => simp [intOf] <;> omega
              · have AY := act_yes WC.out hh
                have h36 : bn p 0 ≠ 35 := fun e => hh (h35.2 e)
                have g5 : ((bn p 0 : Int) == 35) = false := by rw [beq_eq_false_iff_ne]; omega
                have g6 : (bn p 0 == 35) = false := by rw [beq_eq_false_iff_ne]; exact h36
                have DD := Lib.hid (ODk.out p rest (by rw [List.map_cons]; exact WC.out.symm) AY)
                have hrz := OZk.out AY
                have NY := Lib.hid (show ouL O lns k ++ (bl (O ln) ++ [10]) = ouL O lns (k + 1) from by rw [USk.out, pcO_yes AY])
                obtain ⟨r, hr⟩ : ∃ r, r = O ln := ⟨_, rfl⟩
                rw [← hr] at DD hrz NY
                clear h35 hh AY WN hr WF
                have DDw := Lib.hid (fun v w h hT hTb => DD.out v w h hT hTb)
                have TPw := Lib.hid (TP.out.below BW1.out)
                have TBw := Lib.hid (TB.out.below BW1.out)
                generalize bn p 0 = bp at *
                go_wp2_with fail
                refine wp_region_N [2] [5, 7] (fun w' => w'.cell? ⟨b7, o7, none⟩ = some (.string p)) (by kernel_rfl) ?_
                have hS : wr.drew.cell? ⟨b7, o7, none⟩ = some (.string p) := c8
                refine wpN_pure (i := 0) (v := ?_) rfl (by kernel_rfl) (by kernel_rfl) (by kernel_rfl) (by kernel_rfl) (fun _ _ _ h => h) (Or.inl ⟨by rfl, ?_⟩) (fun _ => hS) ?_
                rotate_left
                · ((intro w' hw'; (try dsimp only at hw'); go_simp) <;> with_reducible rfl)
                simp only [Act.put, List.setIfInBounds_toArray, List.set_cons_zero, List.set_cons_succ]
                refine wpN_pure (i := 1) (v := ?_) rfl (by kernel_rfl) (by kernel_rfl) (by kernel_rfl) (by kernel_rfl) (fun _ _ _ h => h) (Or.inl ⟨by rfl, ?_⟩) (fun _ => hS) ?_
                rotate_left
                · ((intro w' hw'; (try dsimp only at hw'); go_simp) <;> with_reducible rfl)
                simp only [Act.put, List.setIfInBounds_toArray, List.set_cons_zero, List.set_cons_succ]
                refine wpN_read (i := 2) (v := ?_) rfl (by kernel_rfl) (by kernel_rfl) (by kernel_rfl) (by kernel_rfl) (by kernel_rfl) (fun _ _ _ h => h) (Or.inl ⟨by rfl, ?_⟩) hS ?_
                rotate_left
                · ((intro w' hw'; (try dsimp only at hw'); go_simp) <;> with_reducible rfl)
                simp only [Act.put, List.setIfInBounds_toArray, List.set_cons_zero, List.set_cons_succ]
                refine wpN_pure (i := 3) (v := ?_) rfl (by kernel_rfl) (by kernel_rfl) (by kernel_rfl) (by kernel_rfl) (fun _ _ _ h => h) (Or.inl ⟨by rfl, ?_⟩) (fun _ => hS) ?_
                rotate_left
                · ((intro w' hw'; (try dsimp only at hw'); go_simp) <;> with_reducible rfl)
                simp only [Act.put, List.setIfInBounds_toArray, List.set_cons_zero, List.set_cons_succ]
                refine wpN_pure (i := 4) (v := ?_) rfl (by kernel_rfl) (by kernel_rfl) (by kernel_rfl) (by kernel_rfl) (fun _ _ _ h => h) (Or.inl ⟨by rfl, ?_⟩) (fun _ => hS) ?_
                rotate_left
                · ((intro w' hw'; (try dsimp only at hw'); go_simp) <;> with_reducible rfl)
                simp only [Act.put, List.setIfInBounds_toArray, List.set_cons_zero, List.set_cons_succ]
                refine wpN_one (i := 5) rfl rfl (by kernel_rfl) (by kernel_rfl) (fun K hK => ?_)
                go_simp
                refine (DDw.out _ _ (RR.out.below (below_drewN (Below.refl _ _) 1)) (TPw.out.below (below_drewN (Below.refl _ _) 1)) (TBw.out.below (below_drewN (Below.refl _ _) 1))).mono ?_
                rintro e w8 ⟨rfl, hb⟩
                refine hK.out _ _ ?_
                clear hK K hS
                have BD := Lib.hid ((below_drewN (Below.refl wr.heap.size wr) 1).trans hb)
                have I8 := Lib.hid (isBld_below I4.out BD.out)
                have B8 := Lib.hid (B6.out.trans (BD.out.mono hbw6))
                have hs8 := BD.out.size
                clear hb
                have hov : ¬ 9223372036854775807 < r.size + 1 := by omega
                have BWS := Lib.hid (Tryz.Builder_WriteString bb bb (Lib.byteCells (ouL O lns k)) (r ++ ⟨#[10]⟩) w8 I8.out (by
                  rw [Lib.byteCells_length, ByteArray.size_append]
                  have e1 : (⟨#[10]⟩ : ByteArray).size = 1 := rfl
                  have hk2 : k * 1000000001 ≤ 200 * 1000000001 := Nat.mul_le_mul_right _ (by omega)
                  omega) (by omega))
                rw [byte_app, bl_app, show bl ⟨#[10]⟩ = [10] from bl_mk [10], NY.out] at BWS
                refine wpN_pure (i := 6) (v := ?_) rfl (by kernel_rfl) (by kernel_rfl) (by kernel_rfl) (by kernel_rfl) (fun _ _ _ h => h) (Or.inl ⟨by rfl, ?_⟩) (fun h => Bool.noConfusion (h.symm.trans (show _ = false by kernel_rfl))) ?_
                rotate_left
                · ((intro w' hw'; (try dsimp only at hw'); go_simp) <;> with_reducible rfl)
                simp only [Act.put, List.setIfInBounds_toArray, List.set_cons_zero, List.set_cons_succ]
                refine wpN_one (i := 7) rfl rfl (by kernel_rfl) (by kernel_rfl) (fun K hK => ?_)
                go_simp
                refine BWS.out.mono ?_
                rintro e w9 ⟨rfl, hib, hb⟩
                refine hK.out _ _ ?_
                clear hK K
                have I9 := Lib.hid (show Lib.IsBuilder 32 5 bb bb _ w9 from Or.inr hib)
                have B9 := Lib.hid (B8.out.trans hb)
                clear hib hb BWS
                refine wpN_done (by kernel_rfl) ?_
                go_wp2
                go_roundw
                case rel => exact ⟨k + 1, by omega, by go_num, I9.out, B9.out⟩
                case measure => simp [intOf] <;> omega
      · obtain rfl : m = k := by omega
        have g1 : decide ((m : Int) < (m : Int)) = false := decide_eq_false (by omega)
        have BS := Lib.hid (Tryz.Builder_String_any bb bb (ouL O lns m) _ I1.out (by omega))
        go_wp2_with fail
        refine BS.out.mono ?_
        rintro e w5 ⟨rfl, hb⟩
        have B5 := Lib.hid (BA.out.trans ((B2.out.trans hb).mono hsb))
        clear hb BS B2
        go_wp2
        go_ret
        exact ⟨by rw [← HLN.out, LLh.out]; rfl, B5.out⟩
  · have he : x.toList.isEmpty = false := by simpa using he
    have hbx : bl x ≠ [] := fun e => by
      unfold bl at e
      rw [Lib.toList_data, e] at he
      cases he
    have FIN := Lib.hid (show ps.map bl = dropE (pcs 10 true (bl t)) from by
      unfold dropE
      rw [LST.out, if_neg (fun e => hbx (Option.some.inj e)), PM.out])
    have LN := Lib.hid (show ps.length = n from HN.out.symm)
    have XL := Lib.hid (show ∀ i y, ps[i]? = some y → y.size ≤ 65536 from fun i y hy => XP.out y (List.mem_of_getElem? hy))
    have hnl : n ≤ 200 := by
      have := hn2
      rw [← dropE_trim t _ FIN.out, List.length_map, List.length_map, LN.out] at this
      exact this
    have LT := Lib.hid (dropE_trim t _ FIN.out)
    have RL := Lib.hid (show Rs w1 (.slice (some ⟨b, off, none⟩) n cap) ps from RS.out)
    have LNO := Lib.hid LN.out
    obtain ⟨ls, hls⟩ : ∃ ls, ls = ps := ⟨_, rfl⟩
    rw [← hls] at LT RL LNO XL
    have g1 : decide ((65536 : Int) < (t.size : Int)) = false := decide_eq_false (by omega)
    have g2 : decide (65536 < t.size) = false := decide_eq_false (by omega)
    have g3 : decide ((200 : Int) < (n : Int)) = false := decide_eq_false (by omega)
    have g4 : decide (200 < n) = false := decide_eq_false (by omega)
    obtain ⟨_, capq, bq, offq, eq1, hq1, hq2, hq3, hq4⟩ := RL.out
    have CL := Lib.hid (show ∀ i x, ls[i]? = some x → w1.cell? ⟨b, off + i, none⟩ = some (.string x) from fun i x hi => by
      injection eq1 with eq1 _ eq3
      have h5 := hq4 i x hi
      rcases hq3 with hq3 | hq3
      · have := (List.getElem?_eq_some_iff.1 hi).1; omega
      · rw [hq3] at eq1
        injection eq1 with eq1
        injection eq1 with eqb eqo
        subst eqb; subst eqo
        exact h5)
    clear eq1 hq1 hq2 hq3 hq4 RL hls RT RS FIN LN PM LST DL hbx
    have IB := Lib.fresh_isBuilder 32 5 w1
    have hal : Below w1.heap.size w1 (w1.alloc (.cells #[.pointer none, .slice none 0 0] 32)) := (Below.refl w1.heap.size w1).alloc (Nat.le_refl _) _
    have hsz : (w1.alloc (.cells #[.pointer none, .slice none 0 0] 32)).heap.size = w1.heap.size + 1 := World.size_alloc _ _
    go_wp2
    obtain ⟨wb, hwb⟩ : ∃ wb, wb = w1.alloc (.cells #[.pointer none, .slice none 0 0] 32) := ⟨_, rfl⟩
    obtain ⟨bb, hbb⟩ : ∃ bb, bb = w1.heap.size := ⟨_, rfl⟩
    rw [← hwb, ← hbb] at hal IB hsz
    rw [← hwb, ← hbb]
    have BA := Lib.hid (show Below w.heap.size w wb from B1.out.trans ((hbb ▸ hal).mono hs1))
    have IB0 := Lib.hid IB
    have hsb : w.heap.size ≤ bb := by rw [hbb]; exact hs1
    have hbw : bb ≤ wb.heap.size := by omega
    have CB := Lib.hid (show ∀ i x, ls[i]? = some x → b < bb ∧ wb.cell? ⟨b, off + i, none⟩ = some (.string x) from fun i x hi => by
      have h5 := CL.out i x hi
      have h6 := World.block_lt_of_cell? w1 _ h5
      exact ⟨by rw [hbb]; exact h6, (hal.cell (p := ⟨b, off + i, none⟩) (by rw [hbb]; exact h6)).trans h5⟩)
    clear hwb hal IB hbb CL hsz
    obtain ⟨lns, hln⟩ : ∃ lns, lns = lnsOf (bl t) := ⟨_, rfl⟩
    rw [← hln] at LT OD OZ LS hn2
    rw [← hln]
    have LL : lns.length = n := by rw [← LT.out, List.length_map, List.length_map, LNO.out]
    have LLh := Lib.hid LL
    have HLN := Lib.hid hln
    have U0 := Lib.hid (ouL_zero O lns)
    have US := Lib.hid (fun k x h => ouL_succ O lns (k := k) (x := x) h)
    have UL := Lib.hid (ouL_len O lns OZ.out)
    clear hln LL em emw hmn2 hkn g1 g2 g3 g4 HN
    rw [LLh.out]
    rw [LLh.out] at hn2
    go_loopw [6, 7, 9, 34] (fun _ _ _ vi wr => RuR O lns n bb wb vi wr) (fun _ _ _ i _ => n - (intOf i).toNat)
    case atStart => exact ⟨0, by omega, rfl, by rw [U0.out]; exact IB0.out, Below.refl _ _⟩
    case round =>
      obtain ⟨k, hk, rfl, hib, hb⟩ := hrel
      have I1 := Lib.hid hib
      have B2 := Lib.hid hb
      have hs2 := hb.size
      clear hib hb
      have BW0 := Lib.hid (BA.out.trans (B2.out.mono hsb))
      have hsw := BW0.out.size
      by_cases hkn : k < n
      · have g1 : decide ((k : Int) < (n : Int)) = true := decide_eq_true (by omega)
        have g2 : decide (k < n) = true := decide_eq_true hkn
        have hkl : k < ls.length := by rw [LNO.out]; exact hkn
        obtain ⟨x0, hx0⟩ : ∃ x0, x0 = ls[k] := ⟨_, rfl⟩
        have hxk : ls[k]? = some x0 := by rw [hx0]; exact List.getElem?_eq_getElem hkl
        obtain ⟨hbbb, c0⟩ := CB.out k x0 hxk
        have c0 := (B2.out.cell (p := ⟨b, off + k, none⟩) hbbb).trans c0
        obtain ⟨ln, hln⟩ : ∃ ln, ln = trim1 10 (bl x0) := ⟨_, rfl⟩
        have hlk : lns[k]? = some ln := by rw [← LT.out, List.getElem?_map, List.getElem?_map, hxk, hln]; rfl
        have hmem : ln ∈ lns := List.mem_of_getElem? hlk
        have hlen := LS.out ln hmem
        have ODk := Lib.hid (OD.out ln hmem)
        have OZk := Lib.hid (OZ.out ln hmem)
        have USk := Lib.hid (US.out k ln hlk)
        have ULk := UL.out k (by rw [LLh.out]; omega)
        have hle : x0.size ≤ 65536 := by
          have h7 := XL.out k x0 hxk
          exact h7
        have TM := Lib.hid (fun w => trim_bl x0 10 w (by omega))
        rw [← hln] at TM
        clear hx0 hxk hln hlk hmem
        go_wp2_with fail
        refine (TM.out _).mono ?_
        rintro e w' ⟨tt, rfl, htt, rfl⟩
        have TT := Lib.hid htt
        have htl : tt.size ≤ 65536 := by rw [← bl_len, htt]; exact hlen
        have SP := Lib.hid (split_any tt 32 wr (by omega) (MX.out.below BW0.out))
        clear htt TM c0
        go_wp2_with fail
        refine SP.out.mono ?_
        rintro e w3 ⟨v3, qs, rfl, hrs, hqm, hb⟩
        have B3 := Lib.hid (B2.out.trans (hb.mono (Nat.le_trans hbw hs2)))
        have I3 := Lib.hid (isBld_below I1.out hb)
        have hs3 := hb.size
        have WF := Lib.hid (words_fw qs (bl tt) hqm)
        rw [TT.out] at WF
        have hql : qs.length ≤ 65537 := by
          have h1 := congrArg List.length hqm
          rw [List.length_map, pcs_len] at h1
          have h3 : (bl tt).count 32 ≤ (bl tt).length := List.count_le_length
          rw [bl_len] at h3
          omega
        obtain ⟨a3, c3, b3, o3, rfl, hk3, hm3, hx3, hc3⟩ := hrs
        have HC3 := Lib.hid hc3
        have HA3 := Lib.hid hx3
        obtain ⟨q, hq⟩ : ∃ q, q = qs.length := ⟨_, rfl⟩
        have HQ := Lib.hid hq
        rw [← hq] at hk3 HA3 hql ⊢
        clear hb hqm hc3 hx3 SP hq I1 TT
        go_wp2
        go_loopw [7, 9, 42] (fun v7 _ v42 wr2 => WoR qs w3 v7 v42 wr2) (fun _ _ i _ => q - (intOf i).toNat)
        case atStart => exact ⟨0, by omega, rfl, by rw [List.take_zero]; exact Ots.nil _ _, Below.refl _ _⟩
        case round =>
          obtain ⟨i, hi, rfl, ho, hb⟩ := hrel
          rw [← HQ.out] at hi
          have O2 := Lib.hid ho
          have B4 := Lib.hid hb
          have hs4 := hb.size
          clear ho hb
          by_cases hil : i < q
          · obtain rfl := HA3.out.resolve_left (by omega)
            have g3 : decide ((i : Int) < (q : Int)) = true := decide_eq_true (by omega)
            have g4 : decide (i < q) = true := decide_eq_true hil
            have hip : i < qs.length := by rw [← HQ.out]; exact hil
            obtain ⟨x, hx⟩ : ∃ x, x = qs[i] := ⟨_, rfl⟩
            have hxi : qs[i]? = some x := by rw [hx]; exact List.getElem?_eq_getElem hip
            have c5 := HC3.out i x hxi
            have c5 := (B4.out.cell (p := ⟨b3, o3 + i, none⟩) (World.block_lt_of_cell? w3 _ c5)).trans c5
            have TK : qs.take (i + 1) = qs.take i ++ [x] := by rw [List.take_succ_eq_append_getElem hip, hx]
            by_cases he : x.toList.isEmpty = true
            · have NX := Lib.hid (show (qs.take (i + 1)).filter fw = (qs.take i).filter fw from by
                rw [TK, List.filter_append, List.filter_cons_of_neg (by rw [fw_emp he]; decide), List.filter_nil, List.append_nil])
              clear hx hxi TK
              go_wp2
              go_roundw
              case rel => exact ⟨i + 1, by rw [← HQ.out]; omega, by go_num, by rw [NX.out]; exact O2.out, B4.out⟩
              case measure => simp [intOf] <;> omega
            · have he : x.toList.isEmpty = false := by simpa using he
              have NX := Lib.hid (show (qs.take i).filter fw ++ [x] = (qs.take (i + 1)).filter fw from by
                rw [TK, List.filter_append, List.filter_cons_of_pos (fw_ne he), List.filter_nil])
              have hll : ((qs.take i).filter fw).length ≤ 100000000 := by
                have h1 := List.length_filter_le fw (qs.take i)
                rw [List.length_take] at h1
                omega
              clear hx hxi TK
              go_wp2_with (at_builtin; refine wl_app_txt2 _ rfl (.tmp 48) (.tmp 50) rfl w3.heap.size _ ((qs.take i).filter fw) x w3 rfl rfl O2.out B4.out hs4 hll ?_)
              intro v7 w7 h1 h2
              rw [NX.out] at h1
              have O3 := Lib.hid h1
              have B5 := Lib.hid h2
              clear h1 h2 NX c5 O2 B4
              go_wp2
              go_roundw
              case rel => exact ⟨i + 1, by rw [← HQ.out]; omega, by go_num, O3.out, B5.out⟩
              case measure => simp [intOf] <;> omega
          · obtain rfl : q = i := by omega
            have g3 : decide ((q : Int) < (q : Int)) = false := decide_eq_false (by omega)
            have OF := Lib.hid (show Ots w3.heap.size wr _ (qs.filter fw) from by
              have h1 := O2.out
              rw [List.take_of_length_le (by rw [← HQ.out]; exact Nat.le_refl _)] at h1
              exact h1)
            have I4 := Lib.hid (isBld_below I3.out B4.out)
            have B6 := Lib.hid (B3.out.trans (B4.out.mono (Nat.le_trans hbw (Nat.le_trans hs2 hs3))))
            have BW1 := Lib.hid (BA.out.trans (B6.out.mono hsb))
            have hs6 := BW1.out.size
            have hbw6 : bb ≤ wr.heap.size := by have := B6.out.size; omega
            obtain ⟨ws, hws⟩ : ∃ ws, ws = qs.filter fw := ⟨_, rfl⟩
            rw [← hws] at WF OF
            have WN := Lib.hid (show ∀ p, bl p ∈ ws.map bl → bl p ≠ [] from fun p hp => by rw [WF.out] at hp; exact words_ne hp)
            clear hws O2 I3 B3 B4 HC3 HA3 HQ
            have g3 := Lib.hid g3
            rcases ws with _ | ⟨p, rest⟩
            · have NA := Lib.hid (show ouL O lns (k + 1) = ouL O lns k from by
                rw [USk.out, pcO_no (act_nil WF.out.symm), List.append_nil])
              obtain ⟨a7, c7, rfl, _, _, _⟩ := ownShape OF.out
              have g3 := g3.out
              go_wp2
              go_roundw
              case rel => exact ⟨k + 1, by omega, by go_num, by rw [NA.out]; exact I4.out, B6.out⟩
              case measure => simp [intOf] <;> omega
            · have hp0 : 0 < p.size := by
                have h1 := WN.out p (by simp)
                rw [← bl_len]
                exact List.length_pos_iff.2 h1
              have R7 := Lib.hid OF.out.rs
              obtain ⟨vr, hvs, hvr⟩ := R7.out.from 1 (by simp)
              rw [show ((1 : Nat) : Int) = 1 from rfl] at hvs
              have RR := Lib.hid hvr
              obtain ⟨c7, b7, o7, rfl, hk7, hm7, hx7⟩ := R7.out.cells (by simp)
              have c8 := hx7 0 p rfl
              rw [Nat.add_zero] at c8
              have ixp := ix_str hp0 wr
              rw [show ((0 : Nat) : Int) = 0 from rfl] at ixp
              have ghl : decide ((0 : Int) < ((p :: rest).length : Int)) = true := decide_eq_true (by simp only [List.length_cons]; omega)
              have ghn : decide (0 < (p :: rest).length) = true := decide_eq_true (by simp)
              rw [List.map_cons] at WF
              have WC := Lib.hid WF.out.symm
              have SM := Lib.hid (words_Sm (ln := ln) (by rw [List.map_cons]; exact WF.out) hlen)
              have h35 := head35 hp0
              obtain ⟨nw, hnw⟩ : ∃ nw, nw = (p :: rest).length := ⟨_, rfl⟩
              rw [← hnw] at hvs hk7 ghl ghn ⊢
              have hnwi : 0 < nw := by rw [hnw]; simp
              clear hx7 hvr hnw
              have g3 := g3.out
              by_cases hh : (bl p).head? = some 35
              · have NA := Lib.hid (show ouL O lns (k + 1) = ouL O lns k from by
                  rw [USk.out, pcO_no (act_no WC.out hh), List.append_nil])
                have h36 := h35.1 hh
                rw [h36] at ixp
                go_wp2
                go_roundw
                case rel => exact ⟨k + 1, by omega, by go_num, by rw [NA.out]; exact I4.out, B6.out⟩
                case measure => simp [intOf] <;> omega
              · have AY := act_yes WC.out hh
                have h36 : bn p 0 ≠ 35 := fun e => hh (h35.2 e)
                have g5 : ((bn p 0 : Int) == 35) = false := by rw [beq_eq_false_iff_ne]; omega
                have g6 : (bn p 0 == 35) = false := by rw [beq_eq_false_iff_ne]; exact h36
                have DD := Lib.hid (ODk.out p rest (by rw [List.map_cons]; exact WC.out.symm) AY)
                have hrz := OZk.out AY
                have NY := Lib.hid (show ouL O lns k ++ (bl (O ln) ++ [10]) = ouL O lns (k + 1) from by rw [USk.out, pcO_yes AY])
                obtain ⟨r, hr⟩ : ∃ r, r = O ln := ⟨_, rfl⟩
                rw [← hr] at DD hrz NY
                clear h35 hh AY WN hr WF
                have DDw := Lib.hid (fun v w h hT hTb => DD.out v w h hT hTb)
                have TPw := Lib.hid (TP.out.below BW1.out)
                have TBw := Lib.hid (TB.out.below BW1.out)
                generalize bn p 0 = bp at *
                go_wp2_with fail
                refine wp_region_N [2] [5, 7] (fun w' => w'.cell? ⟨b7, o7, none⟩ = some (.string p)) (by kernel_rfl) ?_
                have hS : wr.drew.cell? ⟨b7, o7, none⟩ = some (.string p) := c8
                refine wpN_pure (i := 0) (v := ?_) rfl (by kernel_rfl) (by kernel_rfl) (by kernel_rfl) (by kernel_rfl) (fun _ _ _ h => h) (Or.inl ⟨by rfl, ?_⟩) (fun _ => hS) ?_
                rotate_left
                · ((intro w' hw'; (try dsimp only at hw'); go_simp) <;> with_reducible rfl)
                simp only [Act.put, List.setIfInBounds_toArray, List.set_cons_zero, List.set_cons_succ]
                refine wpN_pure (i := 1) (v := ?_) rfl (by kernel_rfl) (by kernel_rfl) (by kernel_rfl) (by kernel_rfl) (fun _ _ _ h => h) (Or.inl ⟨by rfl, ?_⟩) (fun _ => hS) ?_
                rotate_left
                · ((intro w' hw'; (try dsimp only at hw'); go_simp) <;> with_reducible rfl)
                simp only [Act.put, List.setIfInBounds_toArray, List.set_cons_zero, List.set_cons_succ]
                refine wpN_read (i := 2) (v := ?_) rfl (by kernel_rfl) (by kernel_rfl) (by kernel_rfl) (by kernel_rfl) (by kernel_rfl) (fun _ _ _ h => h) (Or.inl ⟨by rfl, ?_⟩) hS ?_
                rotate_left
                · ((intro w' hw'; (try dsimp only at hw'); go_simp) <;> with_reducible rfl)
                simp only [Act.put, List.setIfInBounds_toArray, List.set_cons_zero, List.set_cons_succ]
                refine wpN_pure (i := 3) (v := ?_) rfl (by kernel_rfl) (by kernel_rfl) (by kernel_rfl) (by kernel_rfl) (fun _ _ _ h => h) (Or.inl ⟨by rfl, ?_⟩) (fun _ => hS) ?_
                rotate_left
                · ((intro w' hw'; (try dsimp only at hw'); go_simp) <;> with_reducible rfl)
                simp only [Act.put, List.setIfInBounds_toArray, List.set_cons_zero, List.set_cons_succ]
                refine wpN_pure (i := 4) (v := ?_) rfl (by kernel_rfl) (by kernel_rfl) (by kernel_rfl) (by kernel_rfl) (fun _ _ _ h => h) (Or.inl ⟨by rfl, ?_⟩) (fun _ => hS) ?_
                rotate_left
                · ((intro w' hw'; (try dsimp only at hw'); go_simp) <;> with_reducible rfl)
                simp only [Act.put, List.setIfInBounds_toArray, List.set_cons_zero, List.set_cons_succ]
                refine wpN_one (i := 5) rfl rfl (by kernel_rfl) (by kernel_rfl) (fun K hK => ?_)
                go_simp
                refine (DDw.out _ _ (RR.out.below (below_drewN (Below.refl _ _) 1)) (TPw.out.below (below_drewN (Below.refl _ _) 1)) (TBw.out.below (below_drewN (Below.refl _ _) 1))).mono ?_
                rintro e w8 ⟨rfl, hb⟩
                refine hK.out _ _ ?_
                clear hK K hS
                have BD := Lib.hid ((below_drewN (Below.refl wr.heap.size wr) 1).trans hb)
                have I8 := Lib.hid (isBld_below I4.out BD.out)
                have B8 := Lib.hid (B6.out.trans (BD.out.mono hbw6))
                have hs8 := BD.out.size
                clear hb
                have hov : ¬ 9223372036854775807 < r.size + 1 := by omega
                have BWS := Lib.hid (Tryz.Builder_WriteString bb bb (Lib.byteCells (ouL O lns k)) (r ++ ⟨#[10]⟩) w8 I8.out (by
                  rw [Lib.byteCells_length, ByteArray.size_append]
                  have e1 : (⟨#[10]⟩ : ByteArray).size = 1 := rfl
                  have hk2 : k * 1000000001 ≤ 200 * 1000000001 := Nat.mul_le_mul_right _ (by omega)
                  omega) (by omega))
                rw [byte_app, bl_app, show bl ⟨#[10]⟩ = [10] from bl_mk [10], NY.out] at BWS
                refine wpN_pure (i := 6) (v := ?_) rfl (by kernel_rfl) (by kernel_rfl) (by kernel_rfl) (by kernel_rfl) (fun _ _ _ h => h) (Or.inl ⟨by rfl, ?_⟩) (fun h => Bool.noConfusion (h.symm.trans (show _ = false by kernel_rfl))) ?_
                rotate_left
                · ((intro w' hw'; (try dsimp only at hw'); go_simp) <;> with_reducible rfl)
                simp only [Act.put, List.setIfInBounds_toArray, List.set_cons_zero, List.set_cons_succ]
                refine wpN_one (i := 7) rfl rfl (by kernel_rfl) (by kernel_rfl) (fun K hK => ?_)
                go_simp
                refine BWS.out.mono ?_
                rintro e w9 ⟨rfl, hib, hb⟩
                refine hK.out _ _ ?_
                clear hK K
                have I9 := Lib.hid (show Lib.IsBuilder 32 5 bb bb _ w9 from Or.inr hib)
                have B9 := Lib.hid (B8.out.trans hb)
                clear hib hb BWS
                refine wpN_done (by kernel_rfl) ?_
                go_wp2
                go_roundw
                case rel => exact ⟨k + 1, by omega, by go_num, I9.out, B9.out⟩
                case measure => simp [intOf] <;> omega
      · obtain rfl : n = k := by omega
        have g1 : decide ((n : Int) < (n : Int)) = false := decide_eq_false (by omega)
        have BS := Lib.hid (Tryz.Builder_String_any bb bb (ouL O lns n) _ I1.out (by omega))
        go_wp2_with fail
        refine BS.out.mono ?_
        rintro e w5 ⟨rfl, hb⟩
        have B5 := Lib.hid (BA.out.trans ((B2.out.trans hb).mono hsb))
        clear hb BS B2
        go_wp2
        go_ret
        exact ⟨by rw [← HLN.out, LLh.out]; rfl, B5.out⟩
end Go.Proofs.YtdhmmllpldjkbaaGreatDoor.Gm
/- (Dks) -/
namespace Go.Proofs.YtdhmmllpldjkbaaGreatDoor.Gm
open Go.RowKit
set_option linter.unusedVariables false
def RdR (O : List UInt8 → ByteArray) (lns : List (List UInt8)) (n : Nat) (w1 : World) (v4 vi : Value) (wr : World) : Prop :=
  ∃ (k : Nat) (y : ByteArray), k ≤ n ∧ vi = .int .i64 k ∧ v4 = .string y ∧ bl y = ouL O lns k ∧ Below w1.heap.size w1 wr
set_option maxHeartbeats 4000000 in
set_option maxRecDepth 100000 in
theorem rdesk_bad (t : ByteArray) (hl : t.size ≤ 10000000) (hbad : 65536 < t.size ∨ 200 < (lnsOf (bl t)).length) (w : World) :
    Calls Tryz.prog 7 #[.string t] w (RetV w (.string ⟨#[101, 114, 114, 111, 114, 32, 50, 10]⟩)) := by
  have TL := Lib.hid (tlines_any t w hl)
  have HB := Lib.hid hbad
  clear hbad
  go_enter Tryz.func7, Tryz.ntmps7
  go_wp2_with fail
  refine TL.out.mono ?_
  rintro e w1 ⟨v, ls, rfl, hrs, hlm, hb⟩
  have B1 := Lib.hid hb
  have hq : 65536 < t.size ∨ 200 < ls.length := by
    rcases HB.out with h | h
    · exact .inl h
    · right
      rw [← hlm, List.length_map] at h
      exact h
  obtain ⟨a, cap, rfl, hk, hm⟩ := hrs.shape
  clear hrs hlm hb TL HB
  generalize ls.length = n at *
  by_cases h6 : 65536 < t.size
  · have g1 : decide ((65536 : Int) < (t.size : Int)) = true := decide_eq_true (by omega)
    have g2 : decide (65536 < t.size) = true := decide_eq_true h6
    go_wp2
    go_ret
    exact ⟨rfl, B1.out⟩
  · have h7 : 200 < n := hq.resolve_left h6
    have g1 : decide ((65536 : Int) < (t.size : Int)) = false := decide_eq_false (by omega)
    have g2 : decide (65536 < t.size) = false := decide_eq_false h6
    have g3 : decide ((200 : Int) < (n : Int)) = true := decide_eq_true (by omega)
    have g4 : decide (200 < n) = true := decide_eq_true h7
    go_wp2
    go_ret
    exact ⟨rfl, B1.out⟩
set_option maxHeartbeats 8000000 in
set_option maxRecDepth 100000 in
theorem rdesk_any (t : ByteArray) (O : List UInt8 → ByteArray) (hO : OkR O (lnsOf (bl t))) (hZ : SzO O (lnsOf (bl t))) (ht : t.size ≤ 65536) (hn2 : (lnsOf (bl t)).length ≤ 200) (w : World) (hT : Tp w) (hTb : Tb w) :
    Calls Tryz.prog 7 #[.string t] w (RetV w (.string ⟨(ouL O (lnsOf (bl t)) (lnsOf (bl t)).length).toArray⟩)) := by
  have TL := Lib.hid (tlines_any t w (by omega))
  have LS := Lib.hid (show ∀ x ∈ lnsOf (bl t), x.length ≤ 65536 from fun x hx => by have := lines_sm hx; rw [bl_len] at this; omega)
  have OD := Lib.hid hO
  have OZ := Lib.hid hZ
  have TP := Lib.hid hT
  have TB := Lib.hid hTb
  obtain ⟨lns, hln⟩ : ∃ lns, lns = lnsOf (bl t) := ⟨_, rfl⟩
  rw [← hln] at OD OZ TL LS hn2 ⊢
  clear hO hZ hT hTb hln
  go_enter Tryz.func7, Tryz.ntmps7
  go_wp2_with fail
  refine TL.out.mono ?_
  rintro e w1 ⟨v, ls, rfl, hrs, hlm, hb⟩
  have B1 := Lib.hid hb
  have hs1 := hb.size
  have LM := Lib.hid hlm
  obtain ⟨a, cap, b, off, rfl, hk, hm, hx, hc⟩ := hrs
  have HC := Lib.hid hc
  have HA := Lib.hid hx
  have ell : lns.length = ls.length := by rw [← hlm, List.length_map]
  obtain ⟨n, hn⟩ : ∃ n, n = ls.length := ⟨_, rfl⟩
  have HN := Lib.hid hn
  have EL := Lib.hid (show lns.length = n from by rw [ell, hn])
  rw [EL.out] at hn2
  have U0 := Lib.hid (ouL_zero O lns)
  have US := Lib.hid (fun k x h => ouL_succ O lns (k := k) (x := x) h)
  have UL := Lib.hid (ouL_len O lns OZ.out)
  rw [← hn] at hk HA ⊢
  rw [EL.out]
  have g1 : decide ((65536 : Int) < (t.size : Int)) = false := decide_eq_false (by omega)
  have g2 : decide (65536 < t.size) = false := decide_eq_false (by omega)
  have g3 : decide ((200 : Int) < (n : Int)) = false := decide_eq_false (by omega)
  have g4 : decide (200 < n) = false := decide_eq_false (by omega)
  clear hb hlm TL hc hx hn ell
  go_wp2
  go_loopw [4, 5, 6] (fun v4 vi _ wr => RdR O lns n w1 v4 vi wr) (fun _ i _ _ => n - (intOf i).toNat)
  case atStart => exact ⟨0, ⟨#[]⟩, by omega, rfl, rfl, by rw [U0.out]; exact bl_mk [], Below.refl _ _⟩
  case round =>
    obtain ⟨k, y, hkn, rfl, rfl, hy, hb⟩ := hrel
    have Y := Lib.hid hy
    have B2 := Lib.hid hb
    have hs2 := hb.size
    have BW := Lib.hid (B1.out.trans (hb.mono hs1))
    clear hy hb g1 g2 g3 g4
    by_cases hkl : k < n
    · obtain rfl := HA.out.resolve_left (by omega)
      have g1 : decide ((k : Int) < (n : Int)) = true := decide_eq_true (by omega)
      have g2 : decide (k < n) = true := decide_eq_true hkl
      have hks : k < ls.length := by rw [← HN.out]; exact hkl
      obtain ⟨x0, hx0⟩ : ∃ x0, x0 = ls[k] := ⟨_, rfl⟩
      have hxk : ls[k]? = some x0 := by rw [hx0]; exact List.getElem?_eq_getElem hks
      have c0 := HC.out k x0 hxk
      have c0 := (B2.out.cell (p := ⟨b, off + k, none⟩) (World.block_lt_of_cell? w1 _ c0)).trans c0
      have hlk : lns[k]? = some (bl x0) := by rw [← LM.out, List.getElem?_map, hxk]; rfl
      obtain ⟨ln, hln⟩ : ∃ ln, ln = bl x0 := ⟨_, rfl⟩
      rw [← hln] at hlk
      have hmem : ln ∈ lns := List.mem_of_getElem? hlk
      have hlen := LS.out ln hmem
      have hx0s : x0.size ≤ 65536 := by rw [← bl_len, ← hln]; exact hlen
      have ODk := Lib.hid (OD.out ln hmem)
      have OZk := Lib.hid (OZ.out ln hmem)
      have USk := Lib.hid (US.out k ln hlk)
      have ULk := UL.out k (by rw [EL.out]; omega)
      have WA := Lib.hid (words_any x0 wr (by omega))
      rw [← hln] at WA
      clear hx0 hxk hlk hmem hln
      go_wp2_with fail
      refine WA.out.mono ?_
      rintro e w3 ⟨v6, ws, rfl, hos, hwm, hb⟩
      have WF := Lib.hid hwm
      have OF := Lib.hid hos
      have B3 := Lib.hid (B2.out.trans (hb.mono hs2))
      have B4 := Lib.hid (B1.out.trans (B3.out.mono hs1))
      have hs3 := B3.out.size
      have WN := Lib.hid (show ∀ p, bl p ∈ ws.map bl → bl p ≠ [] from fun p hp => by rw [WF.out] at hp; exact words_ne hp)
      clear hos hwm hb WA c0
      rcases ws with _ | ⟨p, rest⟩
      · have NA := Lib.hid (show ouL O lns (k + 1) = ouL O lns k from by
          rw [USk.out, pcO_no (act_nil WF.out.symm), List.append_nil])
        obtain ⟨a7, c7, rfl, _, _, _⟩ := ownShape OF.out
        go_wp2
        go_roundw
        case rel => exact ⟨k + 1, y, by omega, by go_num, rfl, by rw [NA.out]; exact Y.out, B3.out⟩
        case measure => simp [intOf] <;> omega
      · have hp0 : 0 < p.size := by
          have h1 := WN.out p (by simp)
          rw [← bl_len]
          exact List.length_pos_iff.2 h1
        have R7 := Lib.hid OF.out.rs
        obtain ⟨vr, hvs, hvr⟩ := R7.out.from 1 (by simp)
        rw [show ((1 : Nat) : Int) = 1 from rfl] at hvs
        have RR := Lib.hid hvr
        obtain ⟨c7, b7, o7, rfl, hk7, hm7, hx7⟩ := R7.out.cells (by simp)
        have c8 := hx7 0 p rfl
        rw [Nat.add_zero] at c8
        have ixp := ix_str hp0 w3
        rw [show ((0 : Nat) : Int) = 0 from rfl] at ixp
        have ghl : decide ((0 : Int) < ((p :: rest).length : Int)) = true := decide_eq_true (by simp only [List.length_cons]; omega)
        have ghn : decide (0 < (p :: rest).length) = true := decide_eq_true (by simp)
        rw [List.map_cons] at WF
        have WC := Lib.hid WF.out.symm
        have h35 := head35 hp0
        obtain ⟨nw, hnw⟩ : ∃ nw, nw = (p :: rest).length := ⟨_, rfl⟩
        rw [← hnw] at hvs hk7 ghl ghn ⊢
        have hnwi : 0 < nw := by rw [hnw]; simp
        clear hx7 hvr hnw
        by_cases hh : (bl p).head? = some 35
        · have NA := Lib.hid (show ouL O lns (k + 1) = ouL O lns k from by
            rw [USk.out, pcO_no (act_no WC.out hh), List.append_nil])
          have h36 := h35.1 hh
          rw [h36] at ixp
          go_wp2
          go_roundw
          case rel => exact ⟨k + 1, y, by omega, by go_num, rfl, by rw [NA.out]; exact Y.out, B3.out⟩
          case measure => simp [intOf] <;> omega
        · have AY := act_yes WC.out hh
          have h36 : bn p 0 ≠ 35 := fun e => hh (h35.2 e)
          have g5 : ((bn p 0 : Int) == 35) = false := by rw [beq_eq_false_iff_ne]; omega
          have g6 : (bn p 0 == 35) = false := by rw [beq_eq_false_iff_ne]; exact h36
          have DD := Lib.hid (ODk.out p rest (by rw [List.map_cons]; exact WC.out.symm) AY)
          have hrz := OZk.out AY
          have NY := Lib.hid (show ouL O lns k ++ (bl (O ln) ++ [10]) = ouL O lns (k + 1) from by rw [USk.out, pcO_yes AY])
          obtain ⟨r, hr⟩ : ∃ r, r = O ln := ⟨_, rfl⟩
          rw [← hr] at DD hrz NY
          have hys : y.size ≤ 200 * 1000000001 := by
            have h1 : k * 1000000001 ≤ 200 * 1000000001 := Nat.mul_le_mul_right _ (by omega)
            rw [← bl_len, Y.out]
            exact Nat.le_trans ULk h1
          have hnl : (⟨#[10]⟩ : ByteArray).size = 1 := rfl
          have hov : ¬ 9223372036854775807 < r.size + 1 := by omega
          have hov2 : ¬ 9223372036854775807 < y.size + (r.size + 1) := by omega
          have hov3 : ¬ 9223372036854775807 < y.size + (r ++ ⟨#[10]⟩ : ByteArray).size := by rw [ByteArray.size_append]; omega
          have Y2 := Lib.hid (show bl (y ++ (r ++ ⟨#[10]⟩)) = ouL O lns (k + 1) from by
            rw [bl_app, bl_app, Y.out, show bl ⟨#[10]⟩ = [10] from bl_mk [10], NY.out])
          clear h35 hh AY WN hr WF hnl NY
          have DDw := Lib.hid (fun v w h hT hTb => DD.out v w h hT hTb)
          have TPw := Lib.hid (TP.out.below B4.out)
          have TBw := Lib.hid (TB.out.below B4.out)
          generalize bn p 0 = bp at *
          go_wp2_with fail
          refine wp_region_N [3] [6] (fun w' => w'.cell? ⟨b7, o7, none⟩ = some (.string p)) (by kernel_rfl) ?_
          have hS : w3.drew.cell? ⟨b7, o7, none⟩ = some (.string p) := c8
          refine wpN_pure (i := 0) (v := ?_) rfl (by kernel_rfl) (by kernel_rfl) (by kernel_rfl) (by kernel_rfl) (fun _ _ _ h => h) (Or.inl ⟨by rfl, ?_⟩) (fun _ => hS) ?_
          rotate_left
          · ((intro w' hw'; (try dsimp only at hw'); go_simp) <;> with_reducible rfl)
          simp only [Act.put, List.setIfInBounds_toArray, List.set_cons_zero, List.set_cons_succ]
          refine wpN_pure (i := 1) (v := ?_) rfl (by kernel_rfl) (by kernel_rfl) (by kernel_rfl) (by kernel_rfl) (fun _ _ _ h => h) (Or.inl ⟨by rfl, ?_⟩) (fun _ => hS) ?_
          rotate_left
          · ((intro w' hw'; (try dsimp only at hw'); go_simp) <;> with_reducible rfl)
          simp only [Act.put, List.setIfInBounds_toArray, List.set_cons_zero, List.set_cons_succ]
          refine wpN_pure (i := 2) (v := ?_) rfl (by kernel_rfl) (by kernel_rfl) (by kernel_rfl) (by kernel_rfl) (fun _ _ _ h => h) (Or.inl ⟨by rfl, ?_⟩) (fun _ => hS) ?_
          rotate_left
          · ((intro w' hw'; (try dsimp only at hw'); go_simp) <;> with_reducible rfl)
          simp only [Act.put, List.setIfInBounds_toArray, List.set_cons_zero, List.set_cons_succ]
          refine wpN_read (i := 3) (v := ?_) rfl (by kernel_rfl) (by kernel_rfl) (by kernel_rfl) (by kernel_rfl) (by kernel_rfl) (fun _ _ _ h => h) (Or.inl ⟨by rfl, ?_⟩) hS ?_
          rotate_left
          · ((intro w' hw'; (try dsimp only at hw'); go_simp) <;> with_reducible rfl)
          simp only [Act.put, List.setIfInBounds_toArray, List.set_cons_zero, List.set_cons_succ]
          refine wpN_pure (i := 4) (v := ?_) rfl (by kernel_rfl) (by kernel_rfl) (by kernel_rfl) (by kernel_rfl) (fun _ _ _ h => h) (Or.inl ⟨by rfl, ?_⟩) (fun _ => hS) ?_
          rotate_left
          · ((intro w' hw'; (try dsimp only at hw'); go_simp) <;> with_reducible rfl)
          simp only [Act.put, List.setIfInBounds_toArray, List.set_cons_zero, List.set_cons_succ]
          refine wpN_pure (i := 5) (v := ?_) rfl (by kernel_rfl) (by kernel_rfl) (by kernel_rfl) (by kernel_rfl) (fun _ _ _ h => h) (Or.inl ⟨by rfl, ?_⟩) (fun _ => hS) ?_
          rotate_left
          · ((intro w' hw'; (try dsimp only at hw'); go_simp) <;> with_reducible rfl)
          simp only [Act.put, List.setIfInBounds_toArray, List.set_cons_zero, List.set_cons_succ]
          refine wpN_one (i := 6) rfl rfl (by kernel_rfl) (by kernel_rfl) (fun K hK => ?_)
          go_simp
          refine (DDw.out _ _ (RR.out.below (below_drewN (Below.refl _ _) 1)) (TPw.out.below (below_drewN (Below.refl _ _) 1)) (TBw.out.below (below_drewN (Below.refl _ _) 1))).mono ?_
          rintro e w8 ⟨rfl, hb⟩
          refine hK.out _ _ ?_
          clear hK K hS
          have B8 := Lib.hid (B3.out.trans (((below_drewN (Below.refl w3.heap.size w3) 1).trans hb).mono hs3))
          clear hb
          refine wpN_pure (i := 7) (v := ?_) rfl (by kernel_rfl) (by kernel_rfl) (by kernel_rfl) (by kernel_rfl) (fun _ _ _ h => h) (Or.inl ⟨by rfl, ?_⟩) (fun h => Bool.noConfusion (h.symm.trans (show _ = false by kernel_rfl))) ?_
          rotate_left
          · ((intro w' hw'; (try dsimp only at hw'); go_simp) <;> with_reducible rfl)
          simp only [Act.put, List.setIfInBounds_toArray, List.set_cons_zero, List.set_cons_succ]
          refine wpN_pure (i := 8) (v := ?_) rfl (by kernel_rfl) (by kernel_rfl) (by kernel_rfl) (by kernel_rfl) (fun _ _ _ h => h) (Or.inl ⟨by rfl, ?_⟩) (fun h => Bool.noConfusion (h.symm.trans (show _ = false by kernel_rfl))) ?_
          rotate_left
          · ((intro w' hw'; (try dsimp only at hw'); go_simp) <;> with_reducible rfl)
          simp only [Act.put, List.setIfInBounds_toArray, List.set_cons_zero, List.set_cons_succ]
          refine wpN_pure (i := 9) (v := ?_) rfl (by kernel_rfl) (by kernel_rfl) (by kernel_rfl) (by kernel_rfl) (fun _ _ _ h => h) (Or.inl ⟨by rfl, ?_⟩) (fun h => Bool.noConfusion (h.symm.trans (show _ = false by kernel_rfl))) ?_
          rotate_left
          · ((intro w' hw'; (try dsimp only at hw'); go_simp) <;> with_reducible rfl)
          simp only [Act.put, List.setIfInBounds_toArray, List.set_cons_zero, List.set_cons_succ]
          refine wpN_done (by kernel_rfl) ?_
          go_wp2
          go_roundw
          case rel => exact ⟨k + 1, _, by omega, by go_num, rfl, Y2.out, B8.out⟩
          case measure => simp [intOf] <;> omega
    · obtain rfl : n = k := by omega
      have g1 : decide ((n : Int) < (n : Int)) = false := decide_eq_false (by omega)
      have E := Lib.hid (show y = ⟨(ouL O lns n).toArray⟩ from bl_inj (by rw [Y.out, bl_mk]))
      go_wp2
      go_ret
      exact ⟨by rw [EL.out, ← E.out]; rfl, BW.out⟩
end Go.Proofs.YtdhmmllpldjkbaaGreatDoor.Gm
