/- Plain: the polynomial through all shares and the one through the first of them. -/
import Derived.Test.YtjljndnpefdifaaSd
namespace Go.Proofs.Ytjljndnpefdifaa.Gm
open Go.RowKit
theorem Ow.shape {B : Nat} {w : World} {v : Value} {l : List F} (h : Ow B w v l) : ∃ a cap, v = .slice a l.length cap ∧ l.length ≤ cap ∧ cap ≤ 9223372036854775807 := by
  have := h.rd.shape
  rwa [List.length_map] at this
theorem pts_cf (az : List Int) (i : Nat) (h : i < az.length) : cf (pts az) i = pt (gd az i).toNat := by
  rw [cf_lt (by rw [pts_len]; exact h), gd_eq, List.getElem?_eq_getElem h]
  simp [pts]
theorem thru_eq {az sz : List Int} (hf : Fine az) (hl : az.length = sz.length) : thru az sz = thruK az sz az.length := by
  unfold thru thruK
  rw [newton_lagr (pts_nodup hf) (by rw [pts_len, List.length_map]; exact hl), pts_len, List.take_length, List.take_of_length_le (by omega)]
theorem thruK_on {az sz : List Int} (hf : Fine az) (hl : az.length = sz.length) (m : Nat) (hm : m ≤ az.length) : On (thruK az sz m) az sz m := by
  intro i hi
  have hlen : (pts (az.take m)).length = m := by rw [pts_len, List.length_take]; omega
  have h := lagr_at (xs := pts (az.take m)) (ys := (sz.take m).map toF) (pts_nodup (fine_take hf m)) m i (by omega) (by omega)
  rw [if_pos hi, pts_cf _ _ (by rw [List.length_take]; omega), cf_map] at h
  unfold thruK
  have e1 : gd (az.take m) i = gd az i := by rw [gd_eq, gd_eq, List.getElem?_take_of_lt hi]
  have e2 : gd (sz.take m) i = gd sz i := by rw [gd_eq, gd_eq, List.getElem?_take_of_lt hi]
  rw [e1, e2] at h
  exact h
theorem thruK_normal (az sz : List Int) (m : Nat) : strip (thruK az sz m) = thruK az sz m := by unfold thruK; exact lagr_normal _ _ _
theorem agree {az sz : List Int} (hf : Fine az) (S T : List F) (n : Nat) (hn : n ≤ az.length) (hS : S.length ≤ n) (hT : T.length ≤ n) (nS : strip S = S) (nT : strip T = T) (oS : On S az sz n) (oT : On T az sz n) : S = T := by
  rw [← nS, ← nT]
  have hlen : (pts (az.take n)).length = n := by rw [pts_len, List.length_take]; omega
  refine strip_through (xs := pts (az.take n)) (by omega) (by omega) (pts_nodup (fine_take hf n)) ?_
  intro x hx
  obtain ⟨i, hi, rfl⟩ := List.getElem_of_mem hx
  have hi' : i < n := by omega
  have e : (pts (az.take n))[i] = pt (gd az i).toNat := by
    rw [← cf_lt hi, pts_cf _ _ (by rw [List.length_take]; omega), gd_eq, gd_eq, List.getElem?_take_of_lt hi']
  rw [e, oS i hi', oT i hi']
/-- the first shares decide -/
theorem sh_iff {az sz : List Int} (hf : Fine az) (hl : az.length = sz.length) (k : Nat) : (thru az sz).length ≤ k ↔ On (thruK az sz (min az.length k)) az sz az.length := by
  have ht := thru_eq hf hl
  have ho := thruK_on hf hl az.length (Nat.le_refl _)
  rw [← ht] at ho
  have hn : strip (thru az sz) = thru az sz := by rw [ht]; exact thruK_normal _ _ _
  have hM : min az.length k ≤ az.length := Nat.min_le_left _ _
  have hKl := thruK_len az sz (min az.length k) hM
  constructor
  · intro h
    have e : thru az sz = thruK az sz (min az.length k) := agree hf (thru az sz) (thruK az sz (min az.length k)) (min az.length k) hM (by have := thru_len az sz; omega) hKl hn (thruK_normal _ _ _) (fun i hi => ho i (by omega)) (thruK_on hf hl _ hM)
    rw [← e]; exact ho
  · intro h
    have e : thru az sz = thruK az sz (min az.length k) := agree hf (thru az sz) (thruK az sz (min az.length k)) az.length (Nat.le_refl _) (thru_len az sz) (by omega) hn (thruK_normal _ _ _) ho h
    rw [e]; omega
theorem sh_eq {az sz : List Int} (hf : Fine az) (hl : az.length = sz.length) (k : Nat) (h : On (thruK az sz (min az.length k)) az sz az.length) : thru az sz = thruK az sz (min az.length k) := by
  have ht := thru_eq hf hl
  have ho := thruK_on hf hl az.length (Nat.le_refl _)
  rw [← ht] at ho
  have hn : strip (thru az sz) = thru az sz := by rw [ht]; exact thruK_normal _ _ _
  have hM : min az.length k ≤ az.length := Nat.min_le_left _ _
  have hKl := thruK_len az sz (min az.length k) hM
  exact agree hf (thru az sz) (thruK az sz (min az.length k)) az.length (Nat.le_refl _) (thru_len az sz) (by omega) hn (thruK_normal _ _ _) ho h
end Go.Proofs.Ytjljndnpefdifaa.Gm
