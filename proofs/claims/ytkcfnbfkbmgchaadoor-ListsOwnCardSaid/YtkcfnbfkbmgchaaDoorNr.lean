/- The reference's transforms of a list. -/
import Derived.Test.YtkcfnbfkbmgchaaDoorRp
import Derived.Test.YtkcfnbfkbmgchaaDoorOz
import Derived.Test.YtkcfnbfkbmgchaaDoorBd
import Derived.Test.YtkcfnbfkbmgchaaDoorPla
import Derived.Test.YtkcfnbfkbmgchaaDoorRi
namespace Go.Proofs.YtkcfnbfkbmgchaaDoor.Gm
open Go.RowKit
set_option linter.unusedVariables false
theorem wrap_two (j : Nat) (h : j ≤ 60) : IntKind.i64.wrap (2 ^ j) = ((2 ^ j : Nat) : Int) := by
  have h1 : 2 ^ j ≤ 2 ^ 60 := Nat.pow_le_pow_right (by omega) h
  have e : ((2 : Int) ^ j) = ((2 ^ j : Nat) : Int) := by rw [Int.natCast_pow]; rfl
  rw [e]
  generalize 2 ^ j = q at h1 ⊢
  exact IntWalk.i64_in _ (by omega)
/-- what Log answers -/
def LogAns (n : Int) (e : Ending) : Prop := (∃ k : Nat, k ≤ 10 ∧ n = ((2 ^ k : Nat) : Int) ∧ e = .returned (.int .i64 k)) ∨ ((∀ k : Nat, k ≤ 10 → n ≠ ((2 ^ k : Nat) : Int)) ∧ e = .returned (.int .i64 (-1)))
set_option maxHeartbeats 1000000 in
theorem rlog_any (n : Int) (w : World) (h0 : -9223372036854775808 ≤ n) (h1 : n ≤ 9223372036854775807) :
    Calls Tryd.prog 17 #[.int .i64 n] w fun e w' => LogAns n e ∧ w = w' := by
  go_enter Tryd.func17, Tryd.ntmps17
  go_wp2
  go_loop [3] (fun i => ∃ j : Nat, j ≤ 11 ∧ i = .int .i64 j ∧ ∀ k : Nat, k < j → n ≠ ((2 ^ k : Nat) : Int)) (fun i => 11 - (intOf i).toNat)
  case atStart => exact ⟨0, by omega, rfl, fun k hk => absurd hk (by omega)⟩
  case round =>
    obtain ⟨j, hj, rfl, hno⟩ := hrel
    have NO := Lib.hid hno
    clear hno
    by_cases hjl : j ≤ 10
    · have e1 := wrap_two j (by omega)
      have e2 : IntKind.i64.wrap (1 * 2 ^ j) = ((2 ^ j : Nat) : Int) := by rw [Int.one_mul]; exact e1
      by_cases he : n = ((2 ^ j : Nat) : Int)
      · have FIN := Lib.hid (show LogAns n (.returned (.int .i64 j)) from .inl ⟨j, hjl, he, rfl⟩)
        have hb : (n == ((2 ^ j : Nat) : Int)) = true := by simpa using he
        generalize ((2 ^ j : Nat) : Int) = p at *
        clear he
        go_wp2
        go_ret
        exact ⟨FIN.out, rfl⟩
      · have hb : (n == ((2 ^ j : Nat) : Int)) = false := by simpa using he
        have NX := Lib.hid (show ∀ k : Nat, k < j + 1 → n ≠ ((2 ^ k : Nat) : Int) from fun k hk => by
          by_cases hkj : k = j
          · subst hkj; exact he
          · exact NO.out k (by omega))
        generalize ((2 ^ j : Nat) : Int) = p at *
        clear he
        go_wp2
        go_round
        case rel => exact ⟨j + 1, by omega, by go_num, NX.out⟩
        case measure => simp [intOf]; omega
    · obtain rfl : j = 11 := by omega
      go_wp2
      go_ret
      exact ⟨.inr ⟨fun k hk => NO.out k (by omega), rfl⟩, rfl⟩
theorem pow2_inj {a b : Nat} (h : ((2 ^ a : Nat) : Int) = ((2 ^ b : Nat) : Int)) : a = b := by
  have h' : 2 ^ a = 2 ^ b := by omega
  exact (Nat.pow_right_inj (by omega)).1 h'
theorem rlog_pow (k : Nat) (n : Int) (w : World) (hk : k ≤ 10) (hn : n = ((2 ^ k : Nat) : Int)) :
    Calls Tryd.prog 17 #[.int .i64 n] w fun e w' => e = .returned (.int .i64 k) ∧ w = w' := by
  have h1 : 2 ^ k ≤ 2 ^ 10 := Nat.pow_le_pow_right (by omega) hk
  have h2 : n ≤ 1024 ∧ 0 ≤ n := by rw [hn]; generalize 2 ^ k = q at *; omega
  refine (rlog_any n w (by omega) (by omega)).mono ?_
  rintro e w' ⟨⟨j, hj, he, rfl⟩ | ⟨hno, _⟩, rfl⟩
  · rw [hn] at he
    rw [pow2_inj he]
    exact ⟨rfl, rfl⟩
  · exact absurd hn (hno k hk)
/-- a list transformed -/
def trL (back : Bool) (k : Nat) (l : List F) : List F := (List.range (2 ^ k)).map (tr back k (cf l))
theorem trL_len (back : Bool) (k : Nat) (l : List F) : (trL back k l).length = 2 ^ k := by simp [trL]
theorem cf_trL (back : Bool) (k : Nat) (l : List F) {j : Nat} (hj : j < 2 ^ k) : cf (trL back k l) j = tr back k (cf l) j := cf_ofFn _ hj
@[irreducible] def trTo (back : Bool) (k : Nat) (l : List F) (m : Nat) : List F := (List.range m).map (tr back k (cf l))
theorem trTo_zero (back : Bool) (k : Nat) (l : List F) : trTo back k l 0 = [] := by unfold trTo; rfl
theorem trTo_succ (back : Bool) (k : Nat) (l : List F) (m : Nat) : trTo back k l (m + 1) = trTo back k l m ++ [tr back k (cf l) m] := by unfold trTo; rw [List.range_succ, List.map_append]; rfl
theorem trTo_len (back : Bool) (k : Nat) (l : List F) (m : Nat) : (trTo back k l m).length = m := by unfold trTo; simp
theorem trTo_full (back : Bool) (k : Nat) (l : List F) : trTo back k l (2 ^ k) = trL back k l := by unfold trTo trL; rfl
theorem evl_dft {k : Nat} {l : List F} (hl : l.length = 2 ^ k) (w : F) (j : Nat) : evl l (w ^ j) = dft (2 ^ k) w (cf l) j := by unfold evl dft; rw [hl]
def FwRel (w : World) (back : Bool) (k n : Nat) (l : List F) (v : F) (out st j : Value) (wr : World) : Prop :=
  ∃ m : Nat, m ≤ n ∧ j = .int .i64 m ∧ st = .int .u64 (vl (v ^ m)) ∧ Ow w.heap.size wr out (trTo back k l m) ∧ Below w.heap.size w wr
theorem rinvF (x : F) (w : World) (hx : x ≠ 0) : Calls Tryd.prog 67 #[.int .u64 (vl x)] w fun e w' => e = .returned (.int .u64 (vl (inv x))) ∧ w = w' := by
  have h := rinv_any (vl x) w (vl_lo _) (vl_64 _) (by rw [toF_vl]; exact hx)
  rwa [toF_vl] at h
set_option maxHeartbeats 2000000 in
theorem rfwd_any (k : Nat) (zs : List Int) (v : Value) (w : World) (h : Rd .u64 w v zs) (hz : B64 zs) (hk : k ≤ 10) (hl : zs.length = 2 ^ k) :
    Calls Tryd.prog 24 #[v] w (RetL w (trL false k (zs.map toF))) := by
  have hk2 : 2 ^ k ≤ 2 ^ 10 := Nat.pow_le_pow_right (by omega) hk
  have HR := Lib.hid h
  obtain ⟨a, cap, rfl, hcap, hm⟩ := h.shape
  have HL := Lib.hid hl
  have hln : zs.length ≤ 1024 := by omega
  have TR := Lib.hid (fun j => (tr_fwd k (cf (zs.map toF)) j).trans (evl_dft (by rw [List.length_map]; exact HL.out) (root k) j).symm)
  clear h hl
  go_enter Tryd.func24, Tryd.ntmps24
  go_wp2_with fail
  refine (rlog_pow k _ _ hk (by rw [HL.out])).mono ?_
  rintro e w' ⟨rfl, rfl⟩
  go_wp2_with fail
  refine (rroot_any k _ (by omega)).mono ?_
  rintro e w' ⟨rfl, rfl⟩
  go_wp2
  go_loopw [4, 5, 6] (fun out st j wr => FwRel w false k zs.length (zs.map toF) (root k) out st j wr) (fun _ _ j _ => zs.length - (intOf j).toNat)
  case atStart => exact ⟨0, Nat.zero_le _, rfl, by rw [pow_zero, vl_one], by rw [trTo_zero]; exact Ow.nil _ _, Below.refl _ _⟩
  case round =>
    obtain ⟨m, hm1, rfl, rfl, hout, hbel⟩ := hrel
    have OO := Lib.hid hout
    have HB := Lib.hid hbel
    have hwsz := hbel.size
    clear hout hbel
    by_cases hml : m < zs.length
    · have TL := Lib.hid (trTo_len false k (zs.map toF) m)
      have TS := Lib.hid (trTo_succ false k (zs.map toF) m)
      go_wp2_with fail
      refine (reval_any zs _ (vl (root k ^ m)) _ (HR.out.below HB.out) hz (vl_lo _) (vl_64 _)).mono ?_
      rintro e w' ⟨rfl, rfl⟩
      rw [toF_vl, ← TR.out]
      have hll : (trTo false k (zs.map toF) m).length ≤ 1000000 := by rw [TL.out]; omega
      obtain ⟨y, hy⟩ : ∃ y, y = tr false k (cf (zs.map toF)) m := ⟨_, rfl⟩
      rw [← hy] at TS ⊢
      clear hy
      go_wp2_with (at_builtin; refine wl_app _ rfl (.tmp 17) (.tmp 21) rfl w.heap.size _ (trTo false k (zs.map toF) m) _ w rfl rfl OO.out HB.out hwsz hll ?_)
      intro v3 w3 hown3 hbel3
      go_wp2_with fail
      refine (rmul_F (root k ^ m) (root k) _).mono ?_
      rintro e w' ⟨rfl, rfl⟩
      rw [← pow_succ]
      have O3 := Lib.hid hown3
      have B3 := Lib.hid hbel3
      clear hown3 hbel3
      go_wp2
      go_roundw
      case rel => exact ⟨m + 1, by omega, by go_num, rfl, by rw [TS.out]; exact O3.out, B3.out⟩
      case measure => simp [intOf] <;> omega
    · obtain rfl : m = zs.length := by omega
      have O9 := OO.out
      rw [HL.out, trTo_full] at O9
      have O9 := Lib.hid O9
      go_wp2
      go_ret
      exact ⟨_, rfl, O9.out, HB.out⟩
theorem cast_pow_ne {k : Nat} (hk : k ≤ 10) : cast (2 ^ k) ≠ 0 := cast_ne _ (Nat.two_pow_pos k) (pow_20 (by omega))
set_option maxHeartbeats 2000000 in
theorem rbwd_abs (k : Nat) (zs : List Int) (v : Value) (w : World) (h : Rd .u64 w v zs) (hz : B64 zs) (hk : k ≤ 10) (hl : zs.length = 2 ^ k) (r q c : F)
    (h1 : ∀ w, Calls Tryd.prog 64 #[.int .i64 k] w fun e w' => e = .returned (.int .u64 (vl r)) ∧ w = w')
    (h2 : ∀ w, Calls Tryd.prog 67 #[.int .u64 (vl r)] w fun e w' => e = .returned (.int .u64 (vl q)) ∧ w = w')
    (h3 : ∀ w, Calls Tryd.prog 67 #[.int .u64 (zs.length : Int)] w fun e w' => e = .returned (.int .u64 (vl c)) ∧ w = w')
    (h4 : ∀ j, tr true k (cf (zs.map toF)) j = c * evl (zs.map toF) (q ^ j)) :
    Calls Tryd.prog 25 #[v] w (RetL w (trL true k (zs.map toF))) := by
  have hk2 : 2 ^ k ≤ 2 ^ 10 := Nat.pow_le_pow_right (by omega) hk
  have HR := Lib.hid h
  obtain ⟨a, cap, rfl, hcap, hm⟩ := h.shape
  have HL := Lib.hid hl
  have hln : zs.length ≤ 1024 := by omega
  have TR := Lib.hid h4
  have C1 := Lib.hid h1
  have C2 := Lib.hid h2
  have C3 := Lib.hid h3
  have ew : IntKind.u64.wrap (zs.length : Int) = (zs.length : Int) := IntWalk.u64_in _ (by omega)
  clear h hl h1 h2 h3 h4
  go_enter Tryd.func25, Tryd.ntmps25
  go_wp2_with fail
  refine (rlog_pow k _ _ hk (by rw [HL.out])).mono ?_
  rintro e w' ⟨rfl, rfl⟩
  go_wp2_with fail
  refine (C1.out _).mono ?_
  rintro e w' ⟨rfl, rfl⟩
  go_wp2_with fail
  refine (C2.out _).mono ?_
  rintro e w' ⟨rfl, rfl⟩
  go_wp2_with fail
  refine (C3.out _).mono ?_
  rintro e w' ⟨rfl, rfl⟩
  go_wp2
  go_loopw [5, 6, 7] (fun out st j wr => FwRel w true k zs.length (zs.map toF) (q) out st j wr) (fun _ _ j _ => zs.length - (intOf j).toNat)
  case atStart => exact ⟨0, Nat.zero_le _, rfl, by rw [pow_zero, vl_one], by rw [trTo_zero]; exact Ow.nil _ _, Below.refl _ _⟩
  case round =>
    obtain ⟨m, hm1, rfl, rfl, hout, hbel⟩ := hrel
    have OO := Lib.hid hout
    have HB := Lib.hid hbel
    have hwsz := hbel.size
    clear hout hbel
    by_cases hml : m < zs.length
    · have TL := Lib.hid (trTo_len true k (zs.map toF) m)
      have TS := Lib.hid (trTo_succ true k (zs.map toF) m)
      go_wp2_with fail
      refine (reval_any zs _ (vl (q ^ m)) _ (HR.out.below HB.out) hz (vl_lo _) (vl_64 _)).mono ?_
      rintro e w' ⟨rfl, rfl⟩
      rw [toF_vl]
      go_wp2_with fail
      refine (rmul_F (c) (evl (zs.map toF) (q ^ m)) _).mono ?_
      rintro e w' ⟨rfl, rfl⟩
      rw [← TR.out]
      have hll : (trTo true k (zs.map toF) m).length ≤ 1000000 := by rw [TL.out]; omega
      obtain ⟨y, hy⟩ : ∃ y, y = tr true k (cf (zs.map toF)) m := ⟨_, rfl⟩
      rw [← hy] at TS ⊢
      clear hy
      go_wp2_with (at_builtin; refine wl_app _ rfl (.tmp 23) (.tmp 29) rfl w.heap.size _ (trTo true k (zs.map toF) m) _ w rfl rfl OO.out HB.out hwsz hll ?_)
      intro v3 w3 hown3 hbel3
      go_wp2_with fail
      refine (rmul_F (q ^ m) (q) _).mono ?_
      rintro e w' ⟨rfl, rfl⟩
      rw [← pow_succ]
      have O3 := Lib.hid hown3
      have B3 := Lib.hid hbel3
      clear hown3 hbel3
      go_wp2
      go_roundw
      case rel => exact ⟨m + 1, by omega, by go_num, rfl, by rw [TS.out]; exact O3.out, B3.out⟩
      case measure => simp [intOf] <;> omega
    · obtain rfl : m = zs.length := by omega
      have O9 := OO.out
      rw [HL.out, trTo_full] at O9
      have O9 := Lib.hid O9
      go_wp2
      go_ret
      exact ⟨_, rfl, O9.out, HB.out⟩
theorem rbwd_any (k : Nat) (zs : List Int) (v : Value) (w : World) (h : Rd .u64 w v zs) (hz : B64 zs) (hk : k ≤ 10) (hl : zs.length = 2 ^ k) :
    Calls Tryd.prog 25 #[v] w (RetL w (trL true k (zs.map toF))) := by
  have CW : toF (zs.length : Int) = cast (2 ^ k) := by rw [cast_toF, hl]
  have hk2 : 2 ^ k ≤ 2 ^ 10 := Nat.pow_le_pow_right (by omega) hk
  refine rbwd_abs k zs v w h hz hk hl (root k) (inv (root k)) (inv (cast (2 ^ k))) (fun w => rroot_any k w (by omega)) (fun w => rinvF (root k) w (root_ne k)) (fun w => ?_) (fun j => ?_)
  · have := rinv_any (zs.length : Int) w (by omega) (by omega) (by rw [CW]; exact cast_pow_ne hk)
    rwa [CW] at this
  · rw [tr_inv, evl_dft (l := zs.map toF) (by rw [List.length_map]; exact hl)]
end Go.Proofs.YtkcfnbfkbmgchaaDoor.Gm
