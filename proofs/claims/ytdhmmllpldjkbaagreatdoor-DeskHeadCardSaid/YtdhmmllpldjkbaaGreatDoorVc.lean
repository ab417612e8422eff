/- conv.Cyclic, conv.Skew. -/
import Derived.Test.YtdhmmllpldjkbaaGreatDoorGd
namespace Go.Proofs.YtdhmmllpldjkbaaGreatDoor.Gm
open Go.RowKit
set_option linter.unusedVariables false
theorem cyc_len (zs ys : List Int) (v v2 : Value) (w : World) (h : Rd .u64 w v zs) (h2 : Rd .u64 w v2 ys) (hne : zs.length ≠ ys.length) :
    Calls Tryz.prog 54 #[v, v2] w (RetLE w [] 5) := by
  obtain ⟨a, cap, rfl, hcap, hm⟩ := h.shape
  obtain ⟨a2, cap2, rfl, hcap2, hm2⟩ := h2.shape
  have hb : ((zs.length : Int) != (ys.length : Int)) = true := by rw [bne_iff_ne]; omega
  have hb2 : (zs.length != ys.length) = true := by rw [bne_iff_ne]; exact hne
  clear h h2 hne
  go_enter Tryz.func54, Tryz.ntmps54
  go_wp2
  go_ret2
  exact ⟨_, rfl, Ow.nil _ _, Below.refl _ _⟩
theorem cyc_eq (zs ys : List Int) (v v2 : Value) (w : World) (L : List F) (n : Int) (h : Rd .u64 w v zs) (h2 : Rd .u64 w v2 ys) (he : zs.length = ys.length)
    (hC : ∀ w, Rd .u64 w v zs → Rd .u64 w v2 ys → Tb w → Calls Tryz.prog 92 #[v, v2] w (RetLE w L n)) (hT : Tb w) :
    Calls Tryz.prog 54 #[v, v2] w (RetLE w L n) := by
  have CT := Lib.hid (hC w h h2 hT)
  obtain ⟨a, cap, rfl, hcap, hm⟩ := h.shape
  obtain ⟨a2, cap2, rfl, hcap2, hm2⟩ := h2.shape
  clear h h2 hC hT
  rw [← he] at CT ⊢
  clear he
  go_enter Tryz.func54, Tryz.ntmps54
  go_wp2_with fail
  refine CT.out.mono ?_
  rintro e w1 ⟨v1, rfl, ho, hb⟩
  have O1 := Lib.hid ho
  have B1 := Lib.hid hb
  clear ho hb
  go_wp2
  go_ret2
  exact ⟨_, rfl, O1.out, B1.out⟩
theorem cyc_ok (k : Nat) (zs ys : List Int) (v v2 : Value) (w : World) (h : Rd .u64 w v zs) (h2 : Rd .u64 w v2 ys) (hz : B64 zs) (hy : B64 ys) (hk : k ≤ 10) (hl : zs.length = 2 ^ k) (hl2 : ys.length = 2 ^ k) (hT : Tb w) :
    Calls Tryz.prog 54 #[v, v2] w (RetLE w (cycL k (zs.map toF) (ys.map toF)) 0) :=
  cyc_eq zs ys v v2 w _ 0 h h2 (hl.trans hl2.symm) (fun w h h2 hT => times_ok k zs ys v v2 w h h2 hz hy hk hl hl2 hT) hT
theorem cyc_bad (zs ys : List Int) (v v2 : Value) (w : World) (h : Rd .u64 w v zs) (h2 : Rd .u64 w v2 ys) (he : zs.length = ys.length) (hl : ∀ k : Nat, k ≤ 10 → zs.length ≠ 2 ^ k) (hT : Tb w) :
    Calls Tryz.prog 54 #[v, v2] w (RetLE w [] 5) :=
  cyc_eq zs ys v v2 w _ 5 h h2 he (fun w h h2 hT => times_bad zs v v2 w h hl hT) hT
/-- the skew product of lists -/
def skL (k : Nat) (l m : List F) : List F := twL (cycL k (twL l (root (k + 1)) (2 ^ k)) (twL m (root (k + 1)) (2 ^ k))) (inv (root (k + 1))) (2 ^ k)
theorem skL_len (k : Nat) (l m : List F) : (skL k l m).length = 2 ^ k := by unfold skL; rw [twL_len, cycL_len]
theorem cf_skL {k : Nat} (hk : k ≤ 20) {l m : List F} (hl : l.length = 2 ^ k) (hm : m.length = 2 ^ k) {i : Nat} (hi : i < 2 ^ k) : cf (skL k l m) i = cv (cf l) (cf m) i - cv (cf l) (cf m) (i + 2 ^ k) := by
  unfold skL
  rw [cf_twL _ _ _ (by rw [cycL_len]; exact hi), if_pos hi, cf_cycL _ _ _ hi]
  rw [← skew_eq hk (fun j hj => cf_ge (l := l) (by omega)) (fun j hj => cf_ge (l := m) (by omega)) hi, tr_cyc hk _ _ hi]
  congr 1
  refine S_congr (fun j hj => ?_)
  rw [cf_twL _ _ _ (by omega), if_pos hj, cf_twL _ _ _ (by rw [hm]; exact Nat.mod_lt _ (Nat.two_pow_pos k)), if_pos (Nat.mod_lt _ (Nat.two_pow_pos k))]
theorem inv_root (k : Nat) (w : World) : Calls Tryz.prog 34 #[.int .u64 (vl (root k))] w fun e w' => e = .returned (.tuple #[.int .u64 (vl (inv (root k))), .int .i64 0]) ∧ w = w' := by
  have := inv_any (vl (root k)) w (vl_lo _) (vl_64 _) (by rw [toF_vl]; exact root_ne k)
  rwa [toF_vl] at this
theorem first_pow (N : Nat) : ∀ c, N ≤ 2 ^ c → ∃ d, d ≤ c ∧ N ≤ 2 ^ d ∧ ∀ e, e < d → 2 ^ e < N
  | 0, h => ⟨0, Nat.le_refl _, h, fun e he => absurd he (by omega)⟩
  | c + 1, h => by
    by_cases h1 : N ≤ 2 ^ c
    · obtain ⟨d, h2, h3, h4⟩ := first_pow N c h1
      exact ⟨d, by omega, h3, h4⟩
    · refine ⟨c + 1, Nat.le_refl _, h, fun e he => ?_⟩
      have := Nat.pow_le_pow_right (show 0 < 2 by omega) (show e ≤ c by omega)
      omega
end Go.Proofs.YtdhmmllpldjkbaaGreatDoor.Gm
