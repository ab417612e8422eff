/- A run's step, whatever is picked; how many tasks are left. -/
import Derived.Test.YtcakeenfkdhedaaDoorEv
namespace Go.Proofs.YtcakeenfkdhedaaDoor.Gm
open Go.RowKit
set_option linter.unusedVariables false
theorem RunTo.same {C M : Nat → Prop} {r : Rn} {s : RS} {w w' : World} (h : RunAt w C M r s) (hb : Below w.heap.size w w') : RunTo C M r s w w' :=
  ⟨M, h.bel hb, Only.of_below (S := M) hb (fun k hk hk' => absurd hk (by omega)), fun k hk => .inl hk⟩
theorem xstep_any (r : Rn) (s : RS) (zs : List Int) (C M : Nat → Prop) (w : World) (p : Int × Int) (h : RunAt w C M r s) (hI : RI r.back r.ks zs r.W r.ll s) (hg : GL r.ks r.ll) (hzl : zs.length = pk r.ks) (hzb : B64 zs) (hw : W64 (zi (szs r.ks))) (hT : Tb w) (hMT : ¬ M 3) (hW1 : 1 ≤ r.W) (hW8 : r.W ≤ 8) :
    Calls Tryd.prog 20 #[.pointer (some ⟨r.R, 0, none⟩), pkv p.1 p.2] w fun e w' => e = .returned (.int .i64 (stXE r.W r.ll s p)) ∧ RunTo C M r (stXP r.back r.ks r.W r.ll s p) w w' := by
  by_cases hx : s.ph = r.ll.length
  · have e1 : stXE r.W r.ll s p = 6 := by unfold stXE; rw [if_pos hx]
    have e2 : stXP r.back r.ks r.W r.ll s p = s := by unfold stXP; rw [if_neg (by rw [hx]; exact fun h => absurd h.1 (Nat.lt_irrefl _))]
    rw [e1, e2]
    exact (xstep_done r s C M w p.1 p.2 h hx).mono fun e w' h' => ⟨h'.1, RunTo.same h h'.2⟩
  · have hx2 : s.ph < r.ll.length := by have := hI.ph; omega
    by_cases hp : 0 ≤ p.1 ∧ p.1 < r.W ∧ 0 ≤ p.2 ∧ p.2 < r.W
    · have e1 : stXE r.W r.ll s p = 0 := by unfold stXE; rw [if_neg hx, if_pos hp]
      have e2 : stXP r.back r.ks r.W r.ll s p = stX r.back r.ks r.W r.ll s p.1.toNat p.2.toNat := by unfold stXP; rw [if_pos ⟨hx2, hp⟩]
      obtain ⟨p1, p2⟩ := p
      obtain ⟨a, rfl⟩ : ∃ a : Nat, p1 = a := ⟨p1.toNat, by have := hp.1; simp only at this; omega⟩
      obtain ⟨v, rfl⟩ : ∃ v : Nat, p2 = v := ⟨p2.toNat, by have := hp.2.2.1; simp only at this; omega⟩
      simp only [Int.toNat_natCast] at e2
      have ha : a < r.W := by have := hp.2.1; simp only at this; omega
      have hv : v < r.W := by have := hp.2.2.2; simp only at this; omega
      rw [e1, e2]
      by_cases hq : 0 < (pg s.qs a).length
      · exact xstep_pop r s zs C M w a v h hI hg hzl hzb hw hT hMT hW1 hW8 hx2 ha hv hq
      · have hq0 : pg s.qs a = [] := List.eq_nil_of_length_eq_zero (by omega)
        by_cases hva : v = a
        · have e3 : stX r.back r.ks r.W r.ll s a v = s := by unfold stX; rw [if_neg hq, if_neg (fun h => h.1 hva)]
          exact xstep_none1 r s zs C M w a v h hI hg hzl hzb hw hT hMT hW1 hW8 hx2 ha hv hq0 hva
        · by_cases hqv : 0 < (pg s.qs v).length
          · exact xstep_steal r s zs C M w a v h hI hg hzl hzb hw hT hMT hW1 hW8 hx2 ha hv hq0 hva hqv
          · exact xstep_none2 r s zs C M w a v h hI hg hzl hzb hw hT hMT hW1 hW8 hx2 ha hv hq0 hva (List.eq_nil_of_length_eq_zero (by omega))
    · have e1 : stXE r.W r.ll s p = 1 := by unfold stXE; rw [if_neg hx, if_neg hp]
      have e2 : stXP r.back r.ks r.W r.ll s p = s := by unfold stXP; rw [if_neg (fun h => hp h.2)]
      rw [e1, e2]
      exact (xstep_bad r s C M w p.1 p.2 h hx2 hp).mono fun e w' h' => ⟨h'.1, RunTo.same h h'.2⟩
/-- so many tasks are left -/
def remS (ll : List (List T3)) (s : RS) : Nat := s.left + (ll.drop (s.ph + 1)).flatten.length
theorem rem_fin {W : Nat} {ll : List (List T3)} {s : RS} {ar : List Int} {t : T3} {qs : List (List T3)} (hx : s.ph < ll.length) (h1 : 1 ≤ s.left) : remS ll (fin1 W ll s ar t qs) + 1 = remS ll s := by
  unfold fin1 remS
  split
  · rename_i h
    show (pg ll (s.ph + 1)).length + (ll.drop (s.ph + 1 + 1)).flatten.length + 1 = s.left + (ll.drop (s.ph + 1)).flatten.length
    rcases Nat.lt_or_ge (s.ph + 1) ll.length with h2 | h2
    · rw [List.drop_eq_getElem_cons h2, List.flatten_cons, List.length_append, ← pg_lt h2]
      omega
    · rw [pg_out h2, List.drop_of_length_le h2, List.drop_of_length_le (by omega)]
      simp; omega
  · show s.left - 1 + (ll.drop (s.ph + 1)).flatten.length + 1 = s.left + (ll.drop (s.ph + 1)).flatten.length
    omega
theorem rem_zero {back : Bool} {ks : List Nat} {zs : List Int} {W : Nat} {ll : List (List T3)} {s : RS} (h : RI back ks zs W ll s) (h0 : remS ll s = 0) : s.ph = ll.length := by
  have := h.ph
  have h1 := h.pos
  unfold remS at h0
  apply Classical.byContradiction
  intro hne
  have := (h1 (by omega)).1
  omega
/-- a task is done, if there is one to be had -/
theorem rem_stX {back : Bool} {ks : List Nat} {zs : List Int} {W : Nat} {ll : List (List T3)} {s : RS} (h : RI back ks zs W ll s) (hx : s.ph < ll.length) (a v : Nat) :
    remS ll (stX back ks W ll s a v) ≤ remS ll s ∧ ((0 < (pg s.qs a).length ∨ (v ≠ a ∧ 0 < (pg s.qs v).length)) → remS ll (stX back ks W ll s a v) + 1 = remS ll s) := by
  have h1 := (h.pos hx).1
  unfold stX
  split
  · have := rem_fin (W := W) (ll := ll) (s := s) (ar := doT back ks s.ar (tg (pg s.qs a) ((pg s.qs a).length - 1))) (t := tg (pg s.qs a) ((pg s.qs a).length - 1)) (qs := s.qs.set a ((pg s.qs a).take ((pg s.qs a).length - 1))) hx h1
    exact ⟨by omega, fun _ => this⟩
  · rename_i hn
    split
    · have := rem_fin (W := W) (ll := ll) (s := s) (ar := doT back ks s.ar (tg (pg s.qs v) 0)) (t := tg (pg s.qs v) 0) (qs := s.qs.set v (pg s.qs v).tail) hx h1
      exact ⟨by omega, fun _ => this⟩
    · rename_i hn2
      exact ⟨Nat.le_refl _, fun h => absurd h (fun h => h.elim hn hn2)⟩
/-- some queue has something -/
theorem some_q {back : Bool} {ks : List Nat} {zs : List Int} {W : Nat} {ll : List (List T3)} {s : RS} (h : RI back ks zs W ll s) (hx : s.ph < ll.length) : ∃ i, i < W ∧ 0 < (pg s.qs i).length := by
  apply Classical.byContradiction
  intro hn
  have h1 := (h.pos hx).1
  rw [← h.lf] at h1
  have : s.qs.flatten = [] := by
    rw [List.flatten_eq_nil_iff]
    intro l hl
    obtain ⟨i, hi, rfl⟩ := List.getElem_of_mem hl
    rw [← pg_lt hi]
    apply Classical.byContradiction
    intro hne
    exact hn ⟨i, by rw [← h.w]; exact hi, by
      rcases he : pg s.qs i with _ | ⟨x, y⟩
      · exact absurd he hne
      · simp⟩
  rw [this] at h1
  simp at h1
/-- picks, one behind the other -/
def runP (back : Bool) (ks : List Nat) (W : Nat) (ll : List (List T3)) (s : RS) : List (Int × Int) → RS
  | [] => s
  | p :: r => runP back ks W ll (stXP back ks W ll s p) r
theorem runP_snoc (back : Bool) (ks : List Nat) (W : Nat) (ll : List (List T3)) (s : RS) (l : List (Int × Int)) (p : Int × Int) : runP back ks W ll s (l ++ [p]) = stXP back ks W ll (runP back ks W ll s l) p := by
  induction l generalizing s with
  | nil => rfl
  | cons q l ih => exact ih _
theorem runP_app (back : Bool) (ks : List Nat) (W : Nat) (ll : List (List T3)) (s : RS) (l m : List (Int × Int)) : runP back ks W ll s (l ++ m) = runP back ks W ll (runP back ks W ll s l) m := by
  induction l generalizing s with
  | nil => rfl
  | cons q l ih => exact ih _
theorem runP_inv {back : Bool} {ks : List Nat} {zs : List Int} {W : Nat} {ll : List (List T3)} (hg : GL ks ll) (hzl : zs.length = pk ks) (hW : 1 ≤ W) (l : List (Int × Int)) : ∀ {s : RS}, RI back ks zs W ll s → RI back ks zs W ll (runP back ks W ll s l) := by
  induction l with
  | nil => exact fun h => h
  | cons p l ih => exact fun h => ih (stXP_inv hg hzl hW h p)
theorem RI.arlen {back : Bool} {ks : List Nat} {zs : List Int} {W : Nat} {ll : List (List T3)} {s : RS} (h : RI back ks zs W ll s) (hzl : zs.length = pk ks) : s.ar.length = pk ks := by
  rw [h.ar, arO]
  split
  · exact pws_len _ _ _ _ _
  · exact alT_len hzl _
end Go.Proofs.YtcakeenfkdhedaaDoor.Gm
