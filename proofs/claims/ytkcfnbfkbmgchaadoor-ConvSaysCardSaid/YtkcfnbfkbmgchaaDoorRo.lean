/- goldref.Round. -/
import Derived.Test.YtkcfnbfkbmgchaaDoorRr
import Derived.Test.YtkcfnbfkbmgchaaDoorHp
import Derived.Test.YtkcfnbfkbmgchaaDoorOz
import Derived.Test.YtkcfnbfkbmgchaaDoorHl
namespace Go.Proofs.YtkcfnbfkbmgchaaDoor.Gm
open Go.RowKit
set_option linter.unusedVariables false
/-- round, or with a sign -/
def ovr (skew : Bool) (x y : F) : F := if skew then x - y else x + y
@[irreducible] def rdL (skew : Bool) (l m : List F) (n : Nat) : List F := (List.range n).map fun i => ovr skew (cv (cf l) (cf m) i) (cv (cf l) (cf m) (i + l.length))
theorem rdL_len (skew : Bool) (l m : List F) (n : Nat) : (rdL skew l m n).length = n := by unfold rdL; simp
theorem rdL_zero (skew : Bool) (l m : List F) : rdL skew l m 0 = [] := by unfold rdL; rfl
theorem rdL_succ (skew : Bool) (l m : List F) (n : Nat) : rdL skew l m (n + 1) = rdL skew l m n ++ [ovr skew (cv (cf l) (cf m) n) (cv (cf l) (cf m) (n + l.length))] := by unfold rdL; rw [List.range_succ, List.map_append]; rfl
theorem cf_rdL (skew : Bool) (l m : List F) (n : Nat) {i : Nat} (hi : i < n) : cf (rdL skew l m n) i = ovr skew (cv (cf l) (cf m) i) (cv (cf l) (cf m) (i + l.length)) := by unfold rdL; exact cf_ofFn _ hi
def RoRel (w : World) (skew : Bool) (fa fb : List F) (n : Nat) (out k : Value) (wr : World) : Prop :=
  ∃ m : Nat, m ≤ n ∧ k = .int .i64 m ∧ Ow w.heap.size wr out (rdL skew fa fb m) ∧ Below w.heap.size w wr
set_option maxHeartbeats 2000000 in
set_option maxRecDepth 100000 in
theorem rround_any (skew : Bool) (zs ys : List Int) (v v2 : Value) (w : World) (h : Rd .u64 w v zs) (h2 : Rd .u64 w v2 ys) (hz : B64 zs) (hy : B64 ys) (hl : zs.length ≤ 100000) (hl2 : ys.length ≤ 100000) :
    Calls Tryd.prog 30 #[v, v2, .bool skew] w (RetL w (rdL skew (zs.map toF) (ys.map toF) zs.length)) := by
  have CP := Lib.hid (rproduct_any zs ys v v2 w h h2 hz hy hl hl2)
  have HR := Lib.hid h
  obtain ⟨a, cap, rfl, hcap, hm⟩ := h.shape
  obtain ⟨a2, cap2, rfl, hcap2, hm2⟩ := h2.shape
  obtain ⟨fa, hfa⟩ : ∃ l, l = zs.map toF := ⟨_, rfl⟩
  obtain ⟨fb, hfb⟩ : ∃ l, l = ys.map toF := ⟨_, rfl⟩
  have hla : fa.length = zs.length := by rw [hfa, List.length_map]
  rw [← hfa, ← hfb] at CP ⊢
  obtain ⟨n, hn⟩ : ∃ n, n = zs.length := ⟨_, rfl⟩
  rw [← hn] at hcap hl hla CP ⊢
  have RS := Lib.hid (fun m => (show rdL skew fa fb (m + 1) = rdL skew fa fb m ++ [ovr skew (cv (cf fa) (cf fb) m) (cv (cf fa) (cf fb) (m + n))] by rw [rdL_succ, hla]))
  have RZ := Lib.hid (rdL_zero skew fa fb)
  have RL := Lib.hid (fun m => rdL_len skew fa fb m)
  have GM := Lib.hid (fun m => (show cf (((mulL fa fb).map vl).map toF) m = cv (cf fa) (cf fb) m by rw [map_toF_vl, cf_mulL]))
  clear h h2 hfa hfb hn hla
  go_enter Tryd.func30, Tryd.ntmps30
  go_wp2_with fail
  refine CP.out.mono ?_
  rintro e w1 ⟨v1, rfl, ho, hb⟩
  have R1 := Lib.hid ho.rd
  have B1 := Lib.hid hb
  have hs1 := hb.size
  clear ho hb
  go_wp2
  go_loopw [8, 9, 10] (fun out k _ wr => RoRel w1 skew fa fb n out k wr) (fun _ k _ _ => n - (intOf k).toNat)
  case atStart => exact ⟨0, by omega, rfl, by rw [RZ.out]; exact Ow.nil _ _, Below.refl _ _⟩
  case round =>
    obtain ⟨m, hm1, rfl, hown, hbel⟩ := hrel
    have OO := Lib.hid hown
    have OR := Lib.hid (R1.out.below hbel)
    have HB := Lib.hid hbel
    have hwsz := hbel.size
    clear hown hbel
    by_cases hml : m < n
    · have e1 : IntKind.i64.wrap ((m : Int) + (n : Int)) = ((m + n : Nat) : Int) := by rw [show (m : Int) + (n : Int) = ((m + n : Nat) : Int) by omega]; exact wrap_nat (by omega)
      have e2 : (m : Int) + (n : Int) = ((m + n : Nat) : Int) := by omega
      have CA := Lib.hid (at_any ((mulL fa fb).map vl) v1 (m + n) wr OR.out (B64.vl _) (by omega))
      have CB := Lib.hid (at_any ((mulL fa fb).map vl) v1 m wr OR.out (B64.vl _) (by omega))
      have RSm := Lib.hid (RS.out m)
      rw [GM.out] at CA CB
      have hll : (rdL skew fa fb m).length ≤ 1000000 := by rw [RL.out]; omega
      obtain ⟨q, hq⟩ : ∃ q, q = m + n := ⟨_, rfl⟩
      rw [← hq] at e1 e2 CA RSm
      clear hq
      generalize cv (cf fa) (cf fb) m = x at *
      generalize cv (cf fa) (cf fb) q = y at *
      cases skew
      · have EO : ovr false x y = x + y := by
          show x + y = x + y
          grind
        rw [EO] at RSm
        clear EO
        go_wp2_with fail
        refine CA.out.mono ?_
        rintro e w' ⟨rfl, rfl⟩
        go_wp2_with fail
        refine CB.out.mono ?_
        rintro e w' ⟨rfl, rfl⟩
        go_wp2_with fail
        refine (radd_F x y _).mono ?_
        rintro e w' ⟨rfl, rfl⟩
        go_wp2_with (at_builtin; refine wl_app _ rfl (.tmp 29) (.tmp 35) rfl w1.heap.size _ (rdL false fa fb m) (x + y) w1 rfl rfl OO.out HB.out hwsz hll ?_)
        intro v3 w3 hown3 hbel3
        rw [← RSm.out] at hown3
        have O3 := Lib.hid hown3
        have B3 := Lib.hid hbel3
        clear hown3 hbel3
        go_wp2
        go_roundw
        case rel => exact ⟨m + 1, by omega, by go_num, O3.out, B3.out⟩
        case measure => simp [intOf] <;> omega
      · have EO : ovr true x y = x + (0 - y) := by
          show x - y = x + (0 - y)
          grind
        rw [EO] at RSm
        clear EO
        go_wp2_with fail
        refine CA.out.mono ?_
        rintro e w' ⟨rfl, rfl⟩
        have CS := Lib.hid (show Calls Tryd.prog 71 #[.int .u64 0, .int .u64 (vl y)] wr fun e w' => e = .returned (.int .u64 (vl (0 - y))) ∧ wr = w' by
          have := rsub_any 0 (vl y) wr (by omega) (by omega) (vl_lo _) (vl_64 _)
          rwa [toF_zero, toF_vl] at this)
        go_wp2_with fail
        refine CS.out.mono ?_
        rintro e w' ⟨rfl, rfl⟩
        go_wp2_with fail
        refine CB.out.mono ?_
        rintro e w' ⟨rfl, rfl⟩
        go_wp2_with fail
        refine (radd_F x (0 - y) _).mono ?_
        rintro e w' ⟨rfl, rfl⟩
        go_wp2_with (at_builtin; refine wl_app _ rfl (.tmp 29) (.tmp 35) rfl w1.heap.size _ (rdL true fa fb m) (x + (0 - y)) w1 rfl rfl OO.out HB.out hwsz hll ?_)
        intro v3 w3 hown3 hbel3
        rw [← RSm.out] at hown3
        have O3 := Lib.hid hown3
        have B3 := Lib.hid hbel3
        clear hown3 hbel3
        go_wp2
        go_roundw
        case rel => exact ⟨m + 1, by omega, by go_num, O3.out, B3.out⟩
        case measure => simp [intOf] <;> omega
    · obtain rfl : n = m := by omega
      go_wp2
      go_ret
      exact ⟨_, rfl, OO.out.mono hs1, B1.out.trans (HB.out.mono hs1)⟩
end Go.Proofs.YtkcfnbfkbmgchaaDoor.Gm
