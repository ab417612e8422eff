/- The walks of poly.large and poly.Eval, of the reference's Eval, of slices.Equal. -/
import Derived.Test.YtkcfnbfkbmgchaaDoorPn
import Derived.Test.YtkcfnbfkbmgchaaDoorRi
namespace Go.Proofs.YtkcfnbfkbmgchaaDoor.Gm
open Go.RowKit
theorem q_same {P : Program} {f : FuncId} {args : Array Value} {w : World} {n : Nat} {v : Value}
    (h : Calls P f args (w.drewN n) fun e w' => e = .returned v ∧ w.drewN n = w') : Calls P f args (w.drewN n) fun e w'' => e = .returned v ∧ ∃ m, w'' = w.drewN m :=
  h.mono fun _ _ ⟨he, hm⟩ => ⟨he, n, hm.symm⟩
def UpToN (m : Nat) (i : Value) : Prop := ∃ k : Nat, k ≤ m ∧ i = .int .i64 k
theorem large1_no (b : Nat) (a : Option Addr) (n cap : Nat) (w : World) (hc : w.cell? ⟨b, 0, none⟩ = some (.slice a n cap)) (hn : n ≤ 2048) :
    Calls Tryd.prog 73 #[.slice (some ⟨b, 0, none⟩) 1 1] w fun e w' => e = .returned (.bool false) ∧ w = w' := by
  go_enter Tryd.func73, Tryd.ntmps73
  go_wp2
  go_loop [4, 7] (fun _ i => UpToN 1 i) (fun _ i => 1 - (intOf i).toNat)
  case atStart => exact ⟨0, by omega, rfl⟩
  case round =>
    obtain ⟨k, hk, rfl⟩ := hrel
    have hk' : k = 0 ∨ k = 1 := by omega
    rcases hk' with rfl | rfl
    · go_wp2
      exact ⟨⟨1, by omega, rfl⟩, by decide⟩
    · go_wp2
      go_ret
      exact ⟨rfl, rfl⟩
theorem large1_yes (b : Nat) (a : Option Addr) (n cap : Nat) (w : World) (hc : w.cell? ⟨b, 0, none⟩ = some (.slice a n cap)) (hn : 2048 < n) :
    Calls Tryd.prog 73 #[.slice (some ⟨b, 0, none⟩) 1 1] w fun e w' => e = .returned (.bool true) ∧ w = w' := by
  go_enter Tryd.func73, Tryd.ntmps73
  go_wp2
  refine wp_loop_rounds 1 ?_
  rw [rounds_succ]
  go_wp2
  go_ret
  exact ⟨rfl, rfl⟩
theorem large2_no (b : Nat) (a a' : Option Addr) (n cap n' cap' : Nat) (w : World) (hc : w.cell? ⟨b, 0, none⟩ = some (.slice a n cap)) (hc' : w.cell? ⟨b, 1, none⟩ = some (.slice a' n' cap')) (hn : n ≤ 2048) (hn' : n' ≤ 2048) :
    Calls Tryd.prog 73 #[.slice (some ⟨b, 0, none⟩) 2 2] w fun e w' => e = .returned (.bool false) ∧ w = w' := by
  go_enter Tryd.func73, Tryd.ntmps73
  go_wp2
  go_loop [4, 7] (fun _ i => UpToN 2 i) (fun _ i => 2 - (intOf i).toNat)
  case atStart => exact ⟨0, by omega, rfl⟩
  case round =>
    obtain ⟨k, hk, rfl⟩ := hrel
    have hk' : k = 0 ∨ k = 1 ∨ k = 2 := by omega
    rcases hk' with rfl | rfl | rfl
    · go_wp2
      exact ⟨⟨1, by omega, rfl⟩, by decide⟩
    · go_wp2
      exact ⟨⟨2, by omega, rfl⟩, by decide⟩
    · go_wp2
      go_ret
      exact ⟨rfl, rfl⟩
theorem large2_yes (b : Nat) (a a' : Option Addr) (n cap n' cap' : Nat) (w : World) (hc : w.cell? ⟨b, 0, none⟩ = some (.slice a n cap)) (hc' : w.cell? ⟨b, 1, none⟩ = some (.slice a' n' cap')) (hn : 2048 < n ∨ 2048 < n') :
    Calls Tryd.prog 73 #[.slice (some ⟨b, 0, none⟩) 2 2] w fun e w' => e = .returned (.bool true) ∧ w = w' := by
  by_cases h1 : 2048 < n
  · clear hn
    go_enter Tryd.func73, Tryd.ntmps73
    go_wp2
    refine wp_loop_rounds 1 ?_
    rw [rounds_succ]
    go_wp2
    go_ret
    exact ⟨rfl, rfl⟩
  · have h2 : 2048 < n' := by omega
    clear hn
    go_enter Tryd.func73, Tryd.ntmps73
    go_wp2
    go_loop [4, 7] (fun _ i => UpToN 1 i) (fun _ i => 2 - (intOf i).toNat)
    case atStart => exact ⟨0, by omega, rfl⟩
    case round =>
      obtain ⟨k, hk, rfl⟩ := hrel
      have hk' : k = 0 ∨ k = 1 := by omega
      rcases hk' with rfl | rfl
      · go_wp2
        exact ⟨⟨1, by omega, rfl⟩, by decide⟩
      · go_wp2
        go_ret
        exact ⟨rfl, rfl⟩
theorem mul_Fx (y : F) (x : Int) (w : World) (hx0 : 0 ≤ x) (hx1 : x < 18446744073709551616) :
    Calls Tryd.prog 18 #[.int .u64 (vl y), .int .u64 x] w fun e w' => e = .returned (.int .u64 (vl (y * toF x))) ∧ w = w' := by
  have h := mul_any (vl y) x w (vl_lo y) (vl_64 y) hx0 hx1
  rwa [toF_vl] at h
theorem mul_xF (x : Int) (y : F) (w : World) (hx0 : 0 ≤ x) (hx1 : x < 18446744073709551616) :
    Calls Tryd.prog 18 #[.int .u64 x, .int .u64 (vl y)] w fun e w' => e = .returned (.int .u64 (vl (toF x * y))) ∧ w = w' := by
  have h := mul_any x (vl y) w hx0 hx1 (vl_lo y) (vl_64 y)
  rwa [toF_vl] at h
theorem add_Fx (y : F) (x : Int) (w : World) (hx0 : 0 ≤ x) (hx1 : x < 18446744073709551616) :
    Calls Tryd.prog 19 #[.int .u64 (vl y), .int .u64 x] w fun e w' => e = .returned (.int .u64 (vl (y + toF x))) ∧ w = w' := by
  have h := add_any (vl y) x w (vl_lo y) (vl_64 y) hx0 hx1
  rwa [toF_vl] at h
theorem sub_xF (x : Int) (y : F) (w : World) (hx0 : 0 ≤ x) (hx1 : x < 18446744073709551616) :
    Calls Tryd.prog 32 #[.int .u64 x, .int .u64 (vl y)] w fun e w' => e = .returned (.int .u64 (vl (toF x - y))) ∧ w = w' := by
  have h := sub_any x (vl y) w hx0 hx1 (vl_lo y) (vl_64 y)
  rwa [toF_vl] at h
/-- Horner: the value of what stands from place k on -/
def horn (l : List F) (x : F) (k : Nat) : F := S (l.length - k) (fun i => cf l (k + i) * x ^ i)
theorem horn_zero (l : List F) (x : F) : horn l x 0 = evl l x := by
  unfold horn evl ev
  rw [Nat.sub_zero]; exact S_congr (fun i _ => by rw [Nat.zero_add])
theorem horn_end (l : List F) (x : F) : horn l x l.length = 0 := by unfold horn; rw [Nat.sub_self, S_zero]
theorem horn_step (l : List F) (x : F) (k : Nat) (h : k < l.length) : horn l x (k+1) * x + cf l k = horn l x k := by
  unfold horn
  rw [show l.length - k = (l.length - (k+1)) + 1 by omega, S_front, ← S_mul_right, pow_zero, Nat.add_zero]
  rw [S_congr (g := fun i => cf l (k + (i + 1)) * x ^ (i + 1)) (fun i _ => by rw [pow_succ, show k + 1 + i = k + (i + 1) by omega]; grind)]
  grind
def EvalRel (l : List F) (x : F) (out i : Value) : Prop := ∃ k : Nat, k ≤ l.length ∧ i = .int .i64 ((k : Int) - 1) ∧ out = .int .u64 (vl (horn l x k))
set_option maxHeartbeats 1000000 in
theorem eval_any (zs : List Int) (v : Value) (x : Int) (w : World) (h : Rd .u64 w v zs) (hz : B64 zs) (hl : zs.length ≤ 2048) (hx0 : 0 ≤ x) (hx1 : x < 18446744073709551616) :
    Calls Tryd.prog 88 #[v, .int .u64 x] w (RetV w (.tuple #[.int .u64 (vl (evl (zs.map toF) (toF x))), .int .i64 0])) := by
  obtain ⟨a, cap, b, off, rfl, hcap, hm, hx, hc⟩ := h
  obtain ⟨fs, hfs⟩ : ∃ fs, fs = zs.map toF := ⟨_, rfl⟩
  have hlen : fs.length = zs.length := by rw [hfs, List.length_map]
  have hget : ∀ i, cf fs i = toF (gd zs i) := fun i => by rw [hfs, cf_map]
  rw [← hfs]
  have Hlen := Lib.hid hlen
  have Hget := Lib.hid hget
  clear hfs hlen hget
  rcases hx with rfl | rfl
  · obtain rfl : fs = [] := List.length_eq_zero_iff.1 (by rw [Hlen.out]; rfl)
    have hc1 : (w.alloc (.cells #[.slice a 0 cap] 22)).cell? ⟨w.heap.size, 0, none⟩ = some (.slice a 0 cap) := by
      rw [World.cell?_alloc_at _ _ _ _ rfl]; rfl
    go_enter Tryd.func88, Tryd.ntmps88
    go_wp2_with fail
    refine (large1_no w.heap.size a 0 cap _ hc1 (by omega)).mono ?_
    rintro e w' ⟨rfl, rfl⟩
    go_wp2
    refine wp_loop_rounds 1 ?_
    rw [rounds_succ]
    go_wp2
    go_ret2
    exact ⟨by rw [evl_nil, vl_zero]; rfl, (Below.refl _ _).alloc (Nat.le_refl _) _⟩
  · have Hc := Lib.hid hc
    clear hc
    have hc1 : (w.alloc (.cells #[.slice (some ⟨b, off, none⟩) zs.length cap] 22)).cell? ⟨w.heap.size, 0, none⟩ = some (.slice (some ⟨b, off, none⟩) zs.length cap) := by
      rw [World.cell?_alloc_at _ _ _ _ rfl]; rfl
    go_enter Tryd.func88, Tryd.ntmps88
    go_wp2_with fail
    refine (large1_no w.heap.size _ _ _ _ hc1 hl).mono ?_
    rintro e w' ⟨rfl, rfl⟩
    clear hc1
    go_wp2
    go_loopw [6, 7] (fun out i wr => EvalRel fs (toF x) out i ∧ Below w.heap.size w wr) (fun _ i _ => (intOf i + 1).toNat)
    case atStart => exact ⟨⟨fs.length, Nat.le_refl _, by rw [Hlen.out], by rw [horn_end, vl_zero]⟩, (Below.refl _ _).alloc (Nat.le_refl _) _⟩
    case round =>
      obtain ⟨⟨k, hk, rfl, rfl⟩, hbel⟩ := hrel
      have hk2 : k ≤ zs.length := by rw [← Hlen.out]; exact hk
      cases k with
      | zero =>
        go_wp2
        go_ret2
        exact ⟨by rw [horn_zero]; rfl, hbel⟩
      | succ j =>
        rw [show ((j + 1 : Nat) : Int) - 1 = (j : Int) by omega]
        have hcw := Hc.out j (by omega)
        have hcj : wr.cell? ⟨b, off + j, none⟩ = some (.int .u64 (gd zs j)) := (hbel.cell (World.block_lt_of_cell? _ _ hcw)).trans hcw
        have hbj := hz.get j
        have HH := Lib.hid (horn_step fs (toF x) j (by omega))
        have HG := Lib.hid (Hget.out j)
        have Hb := Lib.hid hbel
        clear hcw hbel
        go_wp2
        go_quiet ((first | (go_at_call 18; exact q_same (mul_Fx _ x _ hx0 hx1)) | (go_at_call 19; exact q_same (add_Fx _ _ _ hbj.1 hbj.2))))
        go_wp2
        go_roundw
        case rel => exact ⟨⟨j, by omega, rfl, by rw [← HG.out, HH.out]⟩, below_drewN Hb.out _⟩
        case measure => simp [intOf] <;> omega
end Go.Proofs.YtkcfnbfkbmgchaaDoor.Gm
