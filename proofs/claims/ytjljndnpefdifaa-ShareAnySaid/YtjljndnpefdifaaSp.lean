/- share: the points; Encode and the reference's Symbols. -/
import Derived.Test.YtjljndnpefdifaaRu
import Derived.Test.YtjljndnpefdifaaBd
import Derived.Test.YtjljndnpefdifaaOz
import Derived.Test.YtjljndnpefdifaaIn
namespace Go.Proofs.Ytjljndnpefdifaa.Gm
open Go.RowKit
/-- the point of a place -/
@[irreducible] def pt (i : Nat) : F := root 6 ^ i
theorem pt_eq (i : Nat) : pt i = root 6 ^ i := by unfold pt; rfl
theorem wrap_small (z : Int) (i : Nat) (h : z = i) (hi : i < 1000) : IntKind.u64.wrap z = z := by
  subst h
  unfold IntKind.wrap
  simp [IntKind.signed, IntKind.bits]
  omega
theorem point_pow (i : Nat) (z : Int) (w : World) (hi : i < 1000) (hz : z = i) :
    Calls Try.prog 63 #[.int .u64 (vl (root 6)), .int .u64 z] w fun e w' => e = .returned (.int .u64 (vl (pt i))) ∧ w = w' := by
  have h := pow_anyZ (vl (root 6)) z i w (vl_lo _) (vl_64 _) (by omega) hz
  rwa [toF_vl, ← pt_eq] at h
theorem rpoint_pow (i : Nat) (z : Int) (w : World) (hi : i < 1000) (hz : z = i) :
    Calls Try.prog 59 #[.int .u64 (vl (root 6)), .int .u64 z] w fun e w' => e = .returned (.int .u64 (vl (pt i))) ∧ w = w' := by
  subst hz
  have h := rpow_any (vl (root 6)) i w (vl_lo _) (vl_64 _) (by omega)
  rwa [toF_vl, ← pt_eq] at h
theorem rroot_six (w : World) : Calls Try.prog 60 #[.int .i64 6] w fun e w' => e = .returned (.int .u64 (vl (root 6))) ∧ w = w' := rroot_any 6 w (by omega)
theorem point_any (i : Nat) (z : Int) (w : World) (hi : i < 1000) (hz : z = i) :
    Calls Try.prog 58 #[.int .i64 z] w fun e w' => e = .returned (.int .u64 (vl (pt i))) ∧ w = w' := by
  have hw := wrap_small z i hz hi
  have h0 : 0 ≤ z := by omega
  have h1 : z < 1000 := by omega
  go_enter Try.func58, Try.ntmps58
  go_wp2_with fail
  refine (root_anyZ 6 6 _ (by omega) rfl).mono ?_
  rintro e w' ⟨rfl, rfl⟩
  go_wp2_with fail
  refine (point_pow i _ _ hi (by first | rfl | exact hz | (rw [hw]; exact hz))).mono ?_
  rintro e w' ⟨rfl, rfl⟩
  go_wp2
  go_ret
  exact ⟨rfl, rfl⟩
/-- the first k symbols of a word -/
def syms (l : List F) (k : Nat) : List F := (List.range k).map fun i => evl l (pt i)
theorem syms_zero (l : List F) : syms l 0 = [] := rfl
theorem syms_succ (l : List F) (k : Nat) : syms l (k + 1) = syms l k ++ [evl l (pt k)] := by
  unfold syms; rw [List.range_succ, List.map_append]; rfl
theorem syms_len (l : List F) (k : Nat) : (syms l k).length = k := by unfold syms; simp
def SymRel (w : World) (l : List F) (n : Nat) (out i : Value) (wr : World) : Prop :=
  ∃ k : Nat, k ≤ n ∧ i = .int .i64 k ∧ Ow w.heap.size wr out (syms l k) ∧ Below w.heap.size w wr
set_option maxHeartbeats 2000000 in
theorem encode_bad (zs : List Int) (v : Value) (n : Int) (w : World) (h : Rd .u64 w v zs) (hb : zs.length < 1 ∨ n < 1 ∨ 64 < n ∨ n < zs.length) :
    Calls Try.prog 31 #[v, .int .i64 n] w (RetLE w [] 1) := by
  obtain ⟨a, cap, rfl, hcap, hm⟩ := h.shape
  clear h
  go_enter Try.func31, Try.ntmps31
  by_cases h1 : zs.length < 1
  · go_wp2
    go_ret2
    exact ⟨_, rfl, Ow.nil _ _, Below.refl _ _⟩
  · by_cases h2 : n < 1
    · go_wp2
      go_ret2
      exact ⟨_, rfl, Ow.nil _ _, Below.refl _ _⟩
    · by_cases h3 : 64 < n
      · go_wp2
        go_ret2
        exact ⟨_, rfl, Ow.nil _ _, Below.refl _ _⟩
      · have h4 : n < zs.length := by rcases hb with hb | hb | hb | hb <;> first | exact hb | (exfalso; omega)
        go_wp2
        go_ret2
        exact ⟨_, rfl, Ow.nil _ _, Below.refl _ _⟩
set_option maxHeartbeats 2000000 in
set_option maxRecDepth 100000 in
theorem encode_any (zs : List Int) (v : Value) (n : Nat) (z : Int) (w : World) (h : Rd .u64 w v zs) (hz : B64 zs) (h0 : 1 ≤ zs.length) (hn0 : 1 ≤ n) (hn : n ≤ 64) (hl : zs.length ≤ n) (hzn : z = n) :
    Calls Try.prog 31 #[v, .int .i64 z] w (RetLE w (syms (zs.map toF) n) 0) := by
  subst hzn
  have H := Lib.hid h
  obtain ⟨a, cap, rfl, hcap, hm⟩ := h.shape
  clear h
  go_enter Try.func31, Try.ntmps31
  go_wp2
  rename_i g4 k1 k2
  clear g4
  go_loopw [6, 28] (fun out i wr => SymRel w (zs.map toF) n out i wr) (fun _ i _ => n - (intOf i).toNat)
  case atStart => exact ⟨0, by omega, rfl, Ow.nil _ _, Below.refl _ _⟩
  case round =>
    obtain ⟨k, hk, rfl, hout, hbel⟩ := hrel
    have OO := Lib.hid hout
    have HB := Lib.hid hbel
    have hwsz := hbel.size
    clear hout hbel
    obtain ⟨wo, hwo⟩ : ∃ wo : World, wo = wr := ⟨_, rfl⟩
    subst hwo
    by_cases hkn : k < n
    · go_wp2_with fail
      refine (point_any k _ _ (by omega) rfl).mono ?_
      rintro e w' ⟨rfl, rfl⟩
      go_wp2_with fail
      refine (eval_any zs _ (vl (pt k)) _ (H.out.below HB.out) hz (by omega) (vl_lo _) (vl_64 _)).mono ?_
      rintro e w' ⟨rfl, hbel2⟩
      rw [toF_vl]
      have B2 := Lib.hid (HB.out.trans (hbel2.mono hwsz))
      have O2 := Lib.hid (OO.out.below hbel2)
      have hle := Nat.le_trans hwsz hbel2.size
      have SL := Lib.hid (syms_len (zs.map toF) k)
      have SS := Lib.hid (syms_succ (zs.map toF) k)
      clear hbel2
      go_wp2_with (first | (refine wl_app _ rfl (.tmp 38) (.tmp 40) rfl w.heap.size _ (syms (zs.map toF) k) _ w rfl rfl O2.out B2.out hle (by rw [SL.out]; omega) ?_; intro v3 w3 hown3 hbel3) | go_in)
      go_wp2
      go_roundw
      case rel => exact ⟨k + 1, by omega, by go_num, by rw [SS.out]; exact hown3, hbel3⟩
      case measure => simp [intOf] <;> omega
    · obtain rfl : k = n := by omega
      go_wp2
      go_ret2
      exact ⟨_, rfl, OO.out, HB.out⟩
set_option maxHeartbeats 2000000 in
theorem symbols_any (zs : List Int) (v : Value) (n : Nat) (z : Int) (w : World) (h : Rd .u64 w v zs) (hz : B64 zs) (hn : n ≤ 64) (hzn : z = n) :
    Calls Try.prog 33 #[v, .int .i64 z] w (RetL w (syms (zs.map toF) n)) := by
  subst hzn
  have H := Lib.hid h
  clear h
  go_enter Try.func33, Try.ntmps33
  go_wp2
  go_loopw [5, 6] (fun out i wr => SymRel w (zs.map toF) n out i wr) (fun _ i _ => n - (intOf i).toNat)
  case atStart => exact ⟨0, by omega, rfl, Ow.nil _ _, Below.refl _ _⟩
  case round =>
    obtain ⟨k, hk, rfl, hout, hbel⟩ := hrel
    have OO := Lib.hid hout
    have HB := Lib.hid hbel
    have hwsz := hbel.size
    clear hout hbel
    obtain ⟨wo, hwo⟩ : ∃ wo : World, wo = wr := ⟨_, rfl⟩
    subst hwo
    by_cases hkn : k < n
    · have SL := Lib.hid (syms_len (zs.map toF) k)
      have SS := Lib.hid (syms_succ (zs.map toF) k)
      have hw := wrap_small (k : Int) k rfl (by omega)
      go_wp2_with fail
      refine (rroot_six _).mono ?_
      rintro e w' ⟨rfl, rfl⟩
      go_wp2_with fail
      refine (rpoint_pow k _ _ (by omega) (by first | rfl | exact hw)).mono ?_
      rintro e w' ⟨rfl, rfl⟩
      go_wp2_with fail
      refine (reval_any zs _ (vl (pt k)) _ (H.out.below HB.out) hz (vl_lo _) (vl_64 _)).mono ?_
      rintro e w' ⟨rfl, rfl⟩
      rw [toF_vl]
      go_wp2_with (first | (refine wl_app _ rfl (.tmp 12) (.tmp 19) rfl w.heap.size _ (syms (zs.map toF) k) _ w rfl rfl OO.out HB.out hwsz (by rw [SL.out]; omega) ?_; intro v3 w3 hown3 hbel3) | go_in)
      go_wp2
      go_roundw
      case rel => exact ⟨k + 1, by omega, by go_num, by rw [SS.out]; exact hown3, hbel3⟩
      case measure => simp [intOf] <;> omega
    · obtain rfl : k = n := by omega
      go_wp2
      go_ret
      exact ⟨_, rfl, OO.out, HB.out⟩
end Go.Proofs.Ytjljndnpefdifaa.Gm
