/- Plain: what the log of a run of workers tells. -/
import Derived.Test.YtcakeenfkdhedaaDoorEg
namespace Go.Proofs.YtcakeenfkdhedaaDoor.Gm
open Go.RowKit
set_option linter.unusedVariables false
theorem rp_nodup {x lines : Nat} {l : List T3} (h : RP x lines l) : l.Nodup := by
  suffices H : ∀ l : List T3, (∀ t ∈ l, okT x lines t) → (∀ k : Int, cntL l k ≤ 1) → l.Nodup from H l h.1 (fun k => cnt_le_one h k)
  intro l
  induction l with
  | nil => intro _ _; exact List.nodup_nil
  | cons t r ih =>
    intro h1 h2
    refine List.nodup_cons.2 ⟨fun hm => ?_, ih (fun u hu => h1 u (by simp [hu])) (fun k => ?_)⟩
    · have ht := h1 t (by simp)
      have h3 := h2 t.2.1
      rw [cnt_cons, if_pos ⟨Int.le_refl _, ht.2.2.2⟩] at h3
      have h4 : 0 < cntL r t.2.1 := List.countP_pos_iff.2 ⟨t, hm, by have := ht.2.2.2; unfold hit; simp [this]⟩
      omega
    · have h3 := h2 k
      rw [cnt_cons] at h3
      omega
theorem GL.axis {ks : List Nat} {ll : List (List T3)} (h : GL ks ll) {x : Nat} (hx : x < ll.length) {t : T3} (ht : t ∈ pg ll x) : t.1 = x := ((h.rp x hx).1 t ht).1
theorem GL.nodup {ks : List Nat} {ll : List (List T3)} (h : GL ks ll) (n : Nat) : (ll.take n).flatten.Nodup := by
  induction n with
  | zero => simp
  | succ n ih =>
    rcases Nat.lt_or_ge n ll.length with hn | hn
    · rw [List.take_succ_eq_append_getElem hn, List.flatten_append]
      simp only [List.flatten_cons, List.flatten_nil, List.append_nil]
      rw [List.nodup_append]
      refine ⟨ih, by rw [← pg_lt hn]; exact rp_nodup (h.rp n hn), fun a ha b hb e => ?_⟩
      subst e
      obtain ⟨l, hl, hal⟩ := List.mem_flatten.1 ha
      obtain ⟨j, hj, rfl⟩ := List.getElem_of_mem hl
      rw [List.length_take] at hj
      rw [List.getElem_take, ← pg_lt (by omega)] at hal
      rw [← pg_lt hn] at hb
      have e1 := h.axis (by omega) hal
      have e2 := h.axis hn hb
      omega
    · rw [List.take_of_length_le (by omega)]
      rwa [List.take_of_length_le (by omega)] at ih
theorem RI.nodup {back : Bool} {ks : List Nat} {zs : List Int} {W : Nat} {ll : List (List T3)} {s : RS} (h : RI back ks zs W ll s) (hg : GL ks ll) : s.log.Nodup := by
  have h1 := h.perm.nodup_iff.2 (hg.nodup _)
  exact (List.nodup_append.1 h1).1
theorem RI.mem {back : Bool} {ks : List Nat} {zs : List Int} {W : Nat} {ll : List (List T3)} {s : RS} (h : RI back ks zs W ll s) (hg : GL ks ll) {t : T3} (ht : t ∈ s.log) : ∃ x : Nat, x < ll.length ∧ t.1 = x ∧ t ∈ pg ll x := by
  have h1 : t ∈ (ll.take (s.ph + 1)).flatten := h.perm.mem_iff.1 (List.mem_append.2 (.inl ht))
  obtain ⟨l, hl, hal⟩ := List.mem_flatten.1 h1
  obtain ⟨j, hj, rfl⟩ := List.getElem_of_mem (List.mem_of_mem_take hl)
  rw [← pg_lt hj] at hal
  exact ⟨j, hj, hg.axis hj hal, hal⟩
/-- at log i: not ahead; the axes go up -/
theorem RI.logAt {back : Bool} {ks : List Nat} {zs : List Int} {W : Nat} {ll : List (List T3)} {s : RS} (h : RI back ks zs W ll s) (hg : GL ks ll) {i : Nat} (hi : i < s.log.length) :
    tg s.log i ∉ s.log.take i ∧ (∀ j, j + 1 = i → (tg s.log j).1 ≤ (tg s.log i).1) ∧ ∃ x : Nat, x < ll.length ∧ (tg s.log i).1 = x ∧ tg s.log i ∈ pg ll x := by
  refine ⟨fun hm => ?_, fun j hj => ?_, ?_⟩
  · obtain ⟨j, hj, e⟩ := List.getElem_of_mem hm
    rw [List.length_take] at hj
    rw [List.getElem_take, tg_lt hi] at e
    have := (List.nodup_iff_pairwise_ne.1 (h.nodup hg))
    rw [List.pairwise_iff_getElem] at this
    exact this j i (by omega) hi (by omega) e
  · have := h.sorted
    rw [List.pairwise_iff_getElem] at this
    rw [tg_lt hi, tg_lt (by omega)]
    exact this j i (by omega) hi (by omega)
  · refine h.mem hg ?_
    rw [tg_lt hi]; exact List.getElem_mem hi
/-- so many tasks as the law reckons -/
def nS (ll : List (List T3)) (ph left : Nat) : Nat → Int
  | 0 => 0
  | m + 1 => if m < ph then nS ll ph left m + (pg ll m).length else if m = ph then nS ll ph left m + ((pg ll m).length - left) else nS ll ph left m
theorem nS_lo (ll : List (List T3)) (ph left : Nat) : ∀ m, m ≤ ph → m ≤ ll.length → nS ll ph left m = ((ll.take m).flatten.length : Int)
  | 0, _, _ => rfl
  | m + 1, h, hl => by
    rw [nS, if_pos (by omega), nS_lo ll ph left m (by omega) (by omega), flat_take (by omega)]
    omega
theorem nS_hi (ll : List (List T3)) (ph left : Nat) : ∀ m, ph < m → m ≤ ll.length → nS ll ph left m = ((ll.take (ph + 1)).flatten.length : Int) - left
  | 0, h, _ => by omega
  | m + 1, h, hl => by
    rw [nS, if_neg (by omega)]
    by_cases e : m = ph
    · subst e
      rw [if_pos rfl, nS_lo ll m left m (by omega) (by omega), flat_take (by omega)]
      omega
    · rw [if_neg e, nS_hi ll ph left m (by omega) (by omega)]
theorem nS_bd {ks : List Nat} {ll : List (List T3)} (hg : GL ks ll) (ph left m : Nat) (hl : left ≤ 64) (hm : m ≤ ll.length) : -64 ≤ nS ll ph left m ∧ nS ll ph left m ≤ 192 := by
  rcases Nat.lt_or_ge ph m with h | h
  · rw [nS_hi ll ph left m h hm]
    have := hg.flat (ph + 1)
    omega
  · rw [nS_lo ll ph left m h hm]
    have := hg.flat m
    omega
theorem RI.count {back : Bool} {ks : List Nat} {zs : List Int} {W : Nat} {ll : List (List T3)} {s : RS} (h : RI back ks zs W ll s) : nS ll s.ph s.left ll.length = (s.log.length : Int) := by
  have h1 := h.perm.length_eq
  rw [List.length_append, h.lf] at h1
  rcases Nat.lt_or_ge s.ph ll.length with hx | hx
  · rw [nS_hi _ _ _ _ hx (Nat.le_refl _)]; omega
  · have h2 := h.ph
    have h3 : s.ph = ll.length := by omega
    rw [nS_lo _ _ _ _ hx (Nat.le_refl _), h.zero h3] at *
    rw [List.take_length]
    rw [List.take_of_length_le (by omega)] at h1
    omega
theorem RI.left64 {back : Bool} {ks : List Nat} {zs : List Int} {W : Nat} {ll : List (List T3)} {s : RS} (h : RI back ks zs W ll s) : s.left ≤ 64 := by
  rcases Nat.lt_or_ge s.ph ll.length with hx | hx
  · exact (h.pos hx).2
  · have := h.zero (by have := h.ph; omega)
    omega
end Go.Proofs.YtcakeenfkdhedaaDoor.Gm
