/- many.Along: its errors. -/
import Derived.Test.YtkcfnbfkbmgchaaDoorAn
namespace Go.Proofs.YtkcfnbfkbmgchaaDoor.Gm
open Go.RowKit
set_option linter.unusedVariables false
theorem malong_bad (zs ys : List Int) (z n : Int) (back : Bool) (v v2 : Value) (w : World) (h : Rd .i64 w v zs) (h2 : Rd .u64 w v2 ys) (hw : W64 zs) (hn : n = 1 ∧ Bad zs ∨ n = 2 ∧ Big zs) :
    Calls Tryd.prog 39 #[v, v2, .int .i64 z, .bool back] w (RetZE w [] n) := by
  have hn0 : (n != 0) = true := by rcases hn with ⟨rfl, _⟩ | ⟨rfl, _⟩ <;> rfl
  have CF := Lib.hid (fun w lv h => form_bad zs n v lv w h hw hn)
  have X := Lib.hid h
  obtain ⟨a2, cap2, rfl, hcap2, hm2⟩ := h2.shape
  clear h h2 hw hn
  go_enter Tryd.func39, Tryd.ntmps39
  go_wp2_with fail
  have hal := fun t => (Below.refl w.heap.size w).alloc (Nat.le_refl _) (.cells #[.slice a2 ys.length cap2] t)
  refine (CF.out _ _ (X.out.below (hal _))).mono ?_
  rintro e w1 ⟨rfl, hb⟩
  have B1 := Lib.hid ((hal _).trans (hb.mono (by simp)))
  clear hb hal
  go_wp2
  go_ret2
  exact ⟨_, rfl, Oz.nil _ _ _ _, B1.out⟩
theorem malong_len (ds : List Nat) (zs : List Int) (z : Int) (back : Bool) (v v2 : Value) (w : World) (h : Rd .i64 w v (zi ds)) (h2 : Rd .u64 w v2 zs) (hw : W64 (zi ds)) (hs : Shp ds) (hne : zs.length ≠ pr ds) :
    Calls Tryd.prog 39 #[v, v2, .int .i64 z, .bool back] w (RetZE w [] 5) := by
  have CF := Lib.hid (fun w h h2 t => one_form ds zs v v2 w h h2 hw hs t)
  have X := Lib.hid h
  have Y := Lib.hid h2
  have HN := Lib.hid hne
  obtain ⟨a2, cap2, rfl, hcap2, hm2⟩ := h2.shape
  clear h h2 hw hs hne
  go_enter Tryd.func39, Tryd.ntmps39
  go_wp2_with fail
  refine (CF.out _ X.out Y.out _).mono ?_
  rintro e w1 ⟨⟨he, _⟩ | ⟨_, rfl⟩, hb⟩
  · exact absurd he HN.out
  have B1 := Lib.hid hb
  clear hb
  go_wp2
  go_ret2
  exact ⟨_, rfl, Oz.nil _ _ _ _, B1.out⟩
theorem malong_arg (ds : List Nat) (zs : List Int) (z : Int) (back : Bool) (v v2 : Value) (w : World) (h : Rd .i64 w v (zi ds)) (h2 : Rd .u64 w v2 zs) (hw : W64 (zi ds)) (hs : Shp ds) (hl : zs.length = pr ds) (hz : z < 0 ∨ (ds.length : Int) ≤ z) :
    Calls Tryd.prog 39 #[v, v2, .int .i64 z, .bool back] w (RetZE w [] 1) := by
  have CF := Lib.hid (fun v w h h2 t => one_form ds zs v v2 w h h2 hw hs t)
  have X := Lib.hid h
  have Y := Lib.hid h2
  have HL := Lib.hid hl
  obtain ⟨a, cap, rfl, hcap, hm⟩ := h.shape
  have LZ := Lib.hid (zi_len ds)
  obtain ⟨a2, cap2, rfl, hcap2, hm2⟩ := h2.shape
  rw [zi_len] at hcap
  have hd3 := hs.len3
  obtain ⟨N, hN⟩ : ∃ N, N = ds.length := ⟨_, rfl⟩
  have X2 := Lib.hid (show Rd .i64 w (.slice a N cap) (zi ds) by rw [hN, ← LZ.out]; exact X.out)
  rw [LZ.out]
  rw [← hN] at hz hd3 hcap ⊢
  clear h h2 hw hs hl hN X
  rcases (show z < 0 ∨ (0 ≤ z ∧ (N : Int) ≤ z) by omega) with h1 | ⟨h1, h2⟩
  all_goals
    clear hz
    go_enter Tryd.func39, Tryd.ntmps39
    go_wp2_with fail
    refine (CF.out _ _ X2.out Y.out _).mono ?_
    rintro e w1 ⟨⟨hx, rfl⟩ | ⟨hne, _⟩, hb⟩
    rotate_left
    · exact absurd HL.out hne
    clear hx
    have B1 := Lib.hid hb
    clear hb
    go_wp2
    go_ret2
    exact ⟨_, rfl, Oz.nil _ _ _ _, B1.out⟩
end Go.Proofs.YtkcfnbfkbmgchaaDoor.Gm
