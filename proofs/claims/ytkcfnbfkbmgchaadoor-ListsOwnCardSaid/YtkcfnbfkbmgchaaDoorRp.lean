/- The walks of slices.Equal and of the reference's polynomials. -/
import Derived.Test.YtkcfnbfkbmgchaaDoorPe
namespace Go.Proofs.YtkcfnbfkbmgchaaDoor.Gm
open Go.RowKit
def CntB (m : Nat) (w : World) (i : Value) (wr : World) : Prop := ∃ k : Nat, k ≤ m ∧ i = .int .i64 k ∧ Below w.heap.size w wr
set_option maxHeartbeats 1000000 in
theorem equal_yes (zs : List Int) (v1 v2 : Value) (w : World) (h1 : Rd .u64 w v1 zs) (h2 : Rd .u64 w v2 zs) :
    Calls Tryd.prog 23 #[v1, v2] w (RetV w (.bool true)) := by
  obtain ⟨a, cap, b, off, rfl, hcap, hm, hx, hc⟩ := h1
  obtain ⟨a', cap', b', off', rfl, hcap', hm', hx', hc'⟩ := h2
  have Hc := Lib.hid hc
  have Hc' := Lib.hid hc'
  clear hc hc'
  rcases hx with hx | rfl
  · subst hx
    clear Hc Hc' hx'
    go_enter Tryd.func23, Tryd.ntmps23
    go_wp2
    refine wp_loop_rounds 1 ?_
    rw [rounds_succ]
    go_wp2
    go_ret
    exact ⟨rfl, Below.refl _ _⟩
  · rcases hx' with hx' | rfl
    · subst hx'
      clear Hc Hc'
      go_enter Tryd.func23, Tryd.ntmps23
      go_wp2
      refine wp_loop_rounds 1 ?_
      rw [rounds_succ]
      go_wp2
      go_ret
      exact ⟨rfl, Below.refl _ _⟩
    · go_enter Tryd.func23, Tryd.ntmps23
      go_wp2
      go_loopw [5, 13] (fun _ i wr => CntB zs.length w i wr) (fun _ i _ => zs.length - (intOf i).toNat)
      case atStart => exact ⟨0, by omega, rfl, Below.refl _ _⟩
      case round =>
        obtain ⟨k, hk, rfl, hbel⟩ := hrel
        by_cases hlt : k < zs.length
        · have hcw := Hc.out k hlt
          have hck : wr.cell? ⟨b, off + k, none⟩ = some (.int .u64 (gd zs k)) := (hbel.cell (World.block_lt_of_cell? _ _ hcw)).trans hcw
          have hcw' := Hc'.out k hlt
          have hck' : wr.cell? ⟨b', off' + k, none⟩ = some (.int .u64 (gd zs k)) := (hbel.cell (World.block_lt_of_cell? _ _ hcw')).trans hcw'
          have Hb := Lib.hid hbel
          clear hcw hcw' hbel
          go_wp2
          go_quiet (fail)
          go_wp2
          go_roundw
          case rel => exact ⟨k + 1, by omega, by go_num, below_drewN Hb.out _⟩
          case measure => simp [intOf] <;> omega
        · obtain rfl : k = zs.length := by omega
          go_wp2
          go_ret
          exact ⟨rfl, hbel⟩
theorem at_lt (zs : List Int) (v : Value) (k : Nat) (w : World) (h : Rd .u64 w v zs) (hz : B64 zs) (hk : k < zs.length) :
    Calls Tryd.prog 70 #[v, .int .i64 k] w fun e w' => e = .returned (.int .u64 (vl (cf (zs.map toF) k))) ∧ w = w' := by
  obtain ⟨a, cap, b, off, rfl, hcap, hm, hx, hc⟩ := h
  rcases hx with rfl | rfl
  · simp at hk
  · have hck := hc k hk
    have hb := hz.get k
    have He := Lib.hid (cf_map zs k)
    clear hc
    go_enter Tryd.func70, Tryd.ntmps70
    go_wp2_with fail
    refine (rnorm_any _ _ hb.1 hb.2).mono ?_
    rintro e w' ⟨rfl, rfl⟩
    go_wp2
    go_ret
    exact ⟨by rw [He.out]; rfl, rfl⟩
theorem at_ge (zs : List Int) (v : Value) (k : Nat) (w : World) (h : Rd .u64 w v zs) (hk : zs.length ≤ k) (_hk2 : k ≤ 1000000000) :
    Calls Tryd.prog 70 #[v, .int .i64 k] w fun e w' => e = .returned (.int .u64 (vl (cf (zs.map toF) k))) ∧ w = w' := by
  obtain ⟨a, cap, b, off, rfl, hcap, hm, hx, hc⟩ := h
  have He : vl (cf (zs.map toF) k) = 0 := by rw [cf_ge (by simpa using hk), vl_zero]
  have H := Lib.hid He
  clear hx hc He
  go_enter Tryd.func70, Tryd.ntmps70
  go_wp2
  go_ret
  exact ⟨by rw [H.out]; rfl, rfl⟩
theorem at_any (zs : List Int) (v : Value) (k : Nat) (w : World) (h : Rd .u64 w v zs) (hz : B64 zs) (hk2 : k ≤ 1000000000) :
    Calls Tryd.prog 70 #[v, .int .i64 k] w fun e w' => e = .returned (.int .u64 (vl (cf (zs.map toF) k))) ∧ w = w' := by
  by_cases hk : k < zs.length
  · exact at_lt zs v k w h hz hk
  · exact at_ge zs v k w h (by omega) hk2
def REvalRel (l : List F) (x : F) (out power i : Value) : Prop := ∃ k : Nat, k ≤ l.length ∧ i = .int .i64 k ∧ out = .int .u64 (vl (ev k (cf l) x)) ∧ power = .int .u64 (vl (x ^ k))
theorem rmul_xF (x : Int) (y : F) (w : World) (hx0 : 0 ≤ x) (hx1 : x < 18446744073709551616) :
    Calls Tryd.prog 66 #[.int .u64 x, .int .u64 (vl y)] w fun e w' => e = .returned (.int .u64 (vl (toF x * y))) ∧ w = w' := by
  have h := rmul_any x (vl y) w hx0 hx1 (vl_lo y) (vl_64 y)
  rwa [toF_vl] at h
set_option maxHeartbeats 1000000 in
theorem reval_any (zs : List Int) (v : Value) (x : Int) (w : World) (h : Rd .u64 w v zs) (hz : B64 zs) (hx0 : 0 ≤ x) (hx1 : x < 18446744073709551616) :
    Calls Tryd.prog 65 #[v, .int .u64 x] w fun e w' => e = .returned (.int .u64 (vl (evl (zs.map toF) (toF x)))) ∧ w = w' := by
  obtain ⟨a, cap, b, off, rfl, hcap, hm, hx, hc⟩ := h
  obtain ⟨fs, hfs⟩ : ∃ fs, fs = zs.map toF := ⟨_, rfl⟩
  have hlen : fs.length = zs.length := by rw [hfs, List.length_map]
  have hget : ∀ i, cf fs i = toF (gd zs i) := fun i => by rw [hfs, cf_map]
  rw [← hfs]
  have Hlen := Lib.hid hlen
  have Hget := Lib.hid hget
  have Hc := Lib.hid hc
  clear hfs hlen hget hc
  rcases hx with hx | rfl
  · subst hx
    obtain rfl : fs = [] := List.length_eq_zero_iff.1 (by rw [Hlen.out]; rfl)
    clear Hc Hget Hlen
    go_enter Tryd.func65, Tryd.ntmps65
    go_wp2
    refine wp_loop_rounds 1 ?_
    rw [rounds_succ]
    go_wp2
    go_ret
    exact ⟨by rw [evl_nil, vl_zero]; rfl, rfl⟩
  · go_enter Tryd.func65, Tryd.ntmps65
    go_wp2
    go_loop [5, 6, 7] (fun out p i => REvalRel fs (toF x) out p i) (fun _ _ i => zs.length - (intOf i).toNat)
    case atStart => exact ⟨0, by omega, rfl, by show _ = Value.int .u64 (vl 0); rw [vl_zero], by rw [pow_zero, vl_one]⟩
    case round =>
      obtain ⟨k, hk, rfl, rfl, rfl⟩ := hrel
      have hk2 : k ≤ zs.length := by rw [← Hlen.out]; exact hk
      by_cases hlt : k < zs.length
      · have hck := Hc.out k hlt
        have hb := hz.get k
        have hk3 : k < fs.length := by rw [Hlen.out]; exact hlt
        have HG := Lib.hid (Hget.out k)
        go_wp2_with fail
        refine (rmul_xF _ _ _ hb.1 hb.2).mono ?_
        rintro e w' ⟨rfl, rfl⟩
        go_wp2_with fail
        refine (radd_F _ _ _).mono ?_
        rintro e w' ⟨rfl, rfl⟩
        go_wp2_with fail
        refine (rmul_Fa _ x _ hx0 hx1).mono ?_
        rintro e w' ⟨rfl, rfl⟩
        go_wp2
        go_round
        case rel => exact ⟨k + 1, by omega, by go_num, by rw [← HG.out]; rfl, by rw [pow_succ]⟩
        case measure => simp [intOf] <;> omega
      · have hkl : k = zs.length := by omega
        have Hk := Lib.hid hkl
        clear hkl
        go_wp2
        go_ret
        exact ⟨by unfold evl; rw [Hlen.out, ← Hk.out]; rfl, rfl⟩
def SumRel (B : Nat) (w : World) (l : List F) (n : Nat) (v i : Value) (wr : World) : Prop :=
  ∃ k : Nat, k ≤ n ∧ i = .int .i64 k ∧ Ow B wr v (l.take k) ∧ Below B w wr
end Go.Proofs.YtkcfnbfkbmgchaaDoor.Gm
