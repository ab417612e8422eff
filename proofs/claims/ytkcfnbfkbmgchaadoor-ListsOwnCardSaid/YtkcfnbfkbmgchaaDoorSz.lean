/- goldkeep.sized, goldkeep.four. -/
import Derived.Test.YtkcfnbfkbmgchaaDoorNv
import Derived.Test.YtkcfnbfkbmgchaaDoorPla
import Derived.Test.YtkcfnbfkbmgchaaDoorLit
import Derived.Test.YtkcfnbfkbmgchaaDoorRest
import Derived.Test.YtkcfnbfkbmgchaaDoorShd
namespace Go.Proofs.YtkcfnbfkbmgchaaDoor.Gm
open Go.RowKit
set_option linter.unusedVariables false
def kk (k : Int) : Nat := (k % 7).toNat
theorem kk_le (k : Int) : kk k ≤ 6 := by unfold kk; omega
set_option maxHeartbeats 1000000 in
theorem sized_any (zs : List Int) (v : Value) (k : Int) (w : World) (h : Rd .u64 w v zs) (h0 : -9223372036854775808 ≤ k) (h1 : k ≤ 9223372036854775807) :
    Calls Tryd.prog 14 #[v, .int .i64 k] w (RetZ w (siz zs (2 ^ kk k))) := by
  have hr := rest_any k 7 w h0 h1 (by omega) (by omega)
  have hk := kk_le k
  have hkk : k % 7 = (kk k : Int) := by unfold kk; omega
  rw [hkk] at hr
  have HR := Lib.hid h
  obtain ⟨a, cap, rfl, hcap, hm⟩ := h.shape
  generalize kk k = j at *
  obtain ⟨n, hn⟩ : ∃ n, n = 2 ^ j := ⟨_, rfl⟩
  have hk2 : 2 ^ j ≤ 2 ^ 6 := Nat.pow_le_pow_right (by omega) hk
  have hn1 : n ≤ 1000000 := by omega
  have e2 : IntKind.i64.wrap (1 * 2 ^ j) = (n : Int) := by rw [Int.one_mul, hn]; exact wrap_two j (by omega)
  have e3 : IntKind.i64.wrap (2 ^ j) = (n : Int) := by rw [hn]; exact wrap_two j (by omega)
  rw [← hn]
  have CR := Lib.hid hr
  clear h hr hkk hk2 hn
  go_enter Tryd.func14, Tryd.ntmps14
  go_wp2_with fail
  refine CR.out.mono ?_
  rintro e w' ⟨rfl, rfl⟩
  go_wp2_with (refine wl_make _ rfl (.tmp 10) (.tmp 10) rfl w.heap.size _ _ n w rfl rfl rfl rfl hn1 (Below.refl _ _) (Nat.le_refl _) ?_)
  intro g w1 _ hown1 hbel1
  have O1 := hown1.oz
  rw [List.map_replicate, vl_zero] at O1
  have O1 := Lib.hid O1
  have B1 := Lib.hid hbel1
  have R1 := Lib.hid (HR.out.below hbel1)
  have hsz := hbel1.size
  clear hown1 hbel1
  go_wp2_with (refine wl_copyG .u64 25 22 Tryd.underlying22 (by kernel_rfl) _ rfl (.tmp 12) (.tmp 13) rfl w.heap.size g n n (List.replicate n 0) zs _ w rfl rfl O1.out (by simp) R1.out B1.out ?_)
  intro z w2 hown2 hbel2
  have O2 := Lib.hid hown2
  have B2 := Lib.hid hbel2
  clear hown2 hbel2
  go_wp2
  go_ret
  exact ⟨_, rfl, O2.out, B2.out⟩
theorem four_list : (trL false 2 ([1, 0, 0, 0].map toF)).map vl = [1, 1, 1, 1] := by
  have e : ∀ j, tr false 2 (cf ([1, 0, 0, 0].map toF)) j = 1 := fun j => by
    rw [tr_ker]
    show S (0 + 1 + 1 + 1 + 1) _ = _
    rw [S_succ, S_succ, S_succ, S_succ, S_zero, ker_f, ker_f, ker_f, ker_f, Nat.mul_zero, pow_zero]
    show 0 + toF 1 * 1 + toF 0 * _ + toF 0 * _ + toF 0 * _ = _
    rw [toF_one, toF_zero]
    grind
  unfold trL
  rw [List.map_congr_left (g := fun _ => (1 : F)) (fun j _ => e j)]
  show [vl 1, vl 1, vl 1, vl 1] = _
  rw [vl_one]
theorem four_any (w : World) (hT : Tb w) : Calls Tryd.prog 13 #[] w (RetV w (.bool true)) := by
  have HT := Lib.hid hT
  clear hT
  go_enter Tryd.func13, Tryd.ntmps13
  go_wp2_with fail
  have hL := Rd.lit .u64 w [1, 0, 0, 0] 25 4 rfl (by simp)
  have hal := (Below.refl w.heap.size w).alloc (Nat.le_refl _) (.cells ([1, 0, 0, 0].map (Value.int .u64)).toArray 25)
  refine (nfwd_ok 2 [1, 0, 0, 0] _ _ hL (by intro z hz; simp at hz; omega) (by omega) rfl (HT.out.below hal)).mono ?_
  rintro e w1 ⟨v1, rfl, ho, hb⟩
  have O1 := ho.rd
  rw [four_list] at O1
  have O1 := Lib.hid O1
  have B1 := Lib.hid (hal.trans (hb.mono (by simp)))
  obtain ⟨a1, c1, rfl, _, _⟩ := O1.out.shape
  clear ho hb hL hal
  go_wp2_with fail
  have hL := Rd.lit .u64 w1 [1, 1, 1, 1] 25 4 rfl (by simp)
  have hal := (Below.refl w1.heap.size w1).alloc (Nat.le_refl _) (.cells ([1, 1, 1, 1].map (Value.int .u64)).toArray 25)
  refine (equal_yes [1, 1, 1, 1] _ _ _ (O1.out.below hal) hL).mono ?_
  rintro e w2 ⟨rfl, hb2⟩
  have hs1 := B1.out.size
  have B2 := Lib.hid (B1.out.trans ((hal.trans (hb2.mono (by simp))).mono hs1))
  clear hL hal hb2
  go_wp2
  go_ret
  exact ⟨rfl, B2.out⟩
end Go.Proofs.YtkcfnbfkbmgchaaDoor.Gm
