/- ref Phases: line by line. -/
import Derived.Test.YtdhmmllpldjkbaaGreatDoorGee
namespace Go.Proofs.YtdhmmllpldjkbaaGreatDoor.Gm
open Go.RowKit
set_option linter.unusedVariables false
/-- how often each line is covered -/
@[irreducible] def ctL (l : List T3) (n : Nat) : List Int := (List.range n).map fun k => (cntL l (k : Nat) : Int)
theorem ctL_len (l : List T3) (n : Nat) : (ctL l n).length = n := by unfold ctL; simp
theorem gd_ctL (l : List T3) {n k : Nat} (h : k < n) : gd (ctL l n) k = (cntL l (k : Int) : Int) := by
  unfold ctL; rw [gd_eq, List.getElem?_map, List.getElem?_range h]; rfl
theorem ctL_nil (n : Nat) : ctL [] n = List.replicate n 0 := by
  unfold ctL
  rw [List.eq_replicate_iff]
  refine ⟨by simp, fun b hb => ?_⟩
  obtain ⟨k, _, rfl⟩ := List.mem_map.1 hb
  rw [cnt_nil]; rfl
/-- .. in the middle of a task -/
@[irreducible] def ctP (l : List T3) (n f k : Nat) : List Int := (List.range n).map fun (j : Nat) => (cntL l (j : Int) : Int) + if f ≤ j ∧ j < k then 1 else 0
theorem ctP_len (l : List T3) (n f k : Nat) : (ctP l n f k).length = n := by unfold ctP; simp
theorem gd_ctP (l : List T3) {n f k j : Nat} (h : j < n) : gd (ctP l n f k) j = (cntL l (j : Int) : Int) + if f ≤ j ∧ j < k then 1 else 0 := by
  unfold ctP; rw [gd_eq, List.getElem?_map, List.getElem?_range h]; rfl
theorem ctP_start (l : List T3) (n f : Nat) : ctP l n f f = ctL l n := by
  unfold ctP ctL
  refine List.map_congr_left fun j _ => ?_
  rw [if_neg (by omega)]; omega
theorem cnt_snoc (l : List T3) (t : T3) (k : Int) : cntL (l ++ [t]) k = cntL l k + if t.2.1 ≤ k ∧ k < t.2.2 then 1 else 0 := by
  have h1 : cntL (l ++ [t]) k = cntL (t :: l) k := cntL_perm (List.perm_append_comm (l₁ := l) (l₂ := [t])) k
  rw [h1, cnt_cons]; omega
theorem ctP_end (l : List T3) (n f u : Nat) (x : Int) : ctP l n f u = ctL (l ++ [(x, (f : Int), (u : Int))]) n := by
  unfold ctP ctL
  refine List.map_congr_left fun j _ => ?_
  rw [cnt_snoc]
  by_cases h : f ≤ j ∧ j < u
  · rw [if_pos h, if_pos ⟨by show (f : Int) ≤ j; omega, by show (j : Int) < u; omega⟩]; omega
  · rw [if_neg h, if_neg (fun e => h ⟨by have := e.1; simp only at this; omega, by have := e.2; simp only at this; omega⟩)]; omega
theorem ctP_set (l : List T3) {n f k : Nat} (hf : f ≤ k) (hk : k < n) : (ctP l n f k).set k ((cntL l (k : Int) : Int) + 1) = ctP l n f (k + 1) := by
  refine List.ext_getElem (by rw [List.length_set, ctP_len, ctP_len]) fun j h1 h2 => ?_
  rw [List.length_set, ctP_len] at h1
  have e1 : ((ctP l n f k).set k ((cntL l (k : Int) : Int) + 1))[j]'(by rw [List.length_set, ctP_len]; exact h1) = gd ((ctP l n f k).set k ((cntL l (k : Int) : Int) + 1)) j := by rw [gd_eq, List.getElem?_eq_getElem]; rfl
  have e2 : (ctP l n f (k + 1))[j]'(by rw [ctP_len]; exact h1) = gd (ctP l n f (k + 1)) j := by rw [gd_eq, List.getElem?_eq_getElem]; rfl
  rw [e1, e2, gd_set _ _ _ _ (by rw [ctP_len]; exact hk), gd_ctP _ h1, gd_ctP _ h1]
  by_cases e : k = j
  · subst e; rw [if_pos rfl, if_pos ⟨hf, by omega⟩]
  · rw [if_neg e]
    by_cases h : f ≤ j ∧ j < k
    · rw [if_pos h, if_pos ⟨h.1, by omega⟩]
    · rw [if_neg h, if_neg (fun h' => h ⟨h'.1, by omega⟩)]
theorem cnt_len (l : List T3) (k : Int) : cntL l k ≤ l.length := List.countP_le_length
theorem rp_of {x lines : Nat} {l : List T3} (h1 : ∀ j, j < l.length → okT x lines (tg l j)) (h2 : ∀ k : Nat, k < lines → cntL l (k : Int) = 1) : RP x lines l := by
  refine ⟨fun t ht => ?_, fun k h0 hk => ?_⟩
  · obtain ⟨j, hj, rfl⟩ := List.getElem_of_mem ht
    rw [← tg_lt hj]; exact h1 j hj
  · obtain ⟨n, rfl⟩ : ∃ n : Nat, k = n := ⟨k.toNat, by omega⟩
    exact h2 n (by omega)
theorem not_rp_at {x lines : Nat} {l : List T3} {j : Nat} (hj : j < l.length) (h : ¬ okT x lines (tg l j)) : ¬ RP x lines l := fun hr => h (hr.1 _ (by rw [tg_lt hj]; exact List.getElem_mem hj))
theorem not_rp_cnt {x lines : Nat} {l : List T3} {k : Nat} (hk : k < lines) (h : cntL l (k : Int) ≠ 1) : ¬ RP x lines l := fun hr => h (hr.2 k (by omega) (by omega))
def PhA (w : World) (ds : List Nat) (ll : List (List T3)) (K : Nat) (lg ax : Value) (wr : World) : Prop :=
  ∃ (x : Nat) (b : Bool), x ≤ K ∧ ax = .int .i64 (x : Int) ∧ lg = .bool b ∧ (∀ y, y < x → RP y (lnX ds y) (pg ll y)) ∧ (b = true → ∃ y, y < x ∧ 64 < (pg ll y).length) ∧ (b = false → ∀ y, y < x → (pg ll y).length ≤ 64) ∧ Below w.heap.size w wr
def PhB (w : World) (x lines g : Nat) (p : List T3) (i : Value) (wr : World) : Prop :=
  ∃ j : Nat, j ≤ p.length ∧ i = .int .i64 (j : Int) ∧ (∀ k, k < j → okT x lines (tg p k)) ∧ Oz .i64 3 w.heap.size wr (.slice (some ⟨g, 0, none⟩) lines lines) (ctL (p.take j) lines) ∧ Below w.heap.size w wr
def PhC (w w5 : World) (lines g f u : Nat) (q : List T3) (i : Value) (wr : World) : Prop :=
  ∃ k : Nat, f ≤ k ∧ k ≤ u ∧ i = .int .i64 (k : Int) ∧ Oz .i64 3 w.heap.size wr (.slice (some ⟨g, 0, none⟩) lines lines) (ctP q lines f k) ∧ Only (fun k => k = g) w5 wr ∧ Below w.heap.size w wr
def PhD (lines : Nat) (p : List T3) (i : Value) : Prop :=
  ∃ k : Nat, k ≤ lines ∧ i = .int .i64 (k : Int) ∧ ∀ j : Nat, j < k → cntL p (j : Int) = 1
def PhP (ds : List Nat) (ll : List (List T3)) (w : World) (e : Ending) (w' : World) : Prop := ∃ n : Int, e = .returned (.int .i64 n) ∧ ChkN ds ll n ∧ Below w.heap.size w w'
end Go.Proofs.YtdhmmllpldjkbaaGreatDoor.Gm
