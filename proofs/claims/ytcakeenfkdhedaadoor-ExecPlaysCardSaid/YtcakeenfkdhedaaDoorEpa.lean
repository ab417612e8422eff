/- The walk of the law ExecPlays: wrong things. -/
import Derived.Test.YtcakeenfkdhedaaDoorCe
import Derived.Test.YtcakeenfkdhedaaDoorIp
namespace Go.Proofs.YtcakeenfkdhedaaDoor.Gm
open Go.RowKit
set_option linter.unusedVariables false
theorem ep_many (zs : List Int) (wk : Int) (back : Bool) (lp : List (Int × Int)) (v v2 v3 v5 : Value) (w : World) (h : Rd .i64 w v zs) (h5 : Rpi w v5 lp) (hw : W64 zs) (hm : (∃ ds, zs = zi ds ∧ Shp ds ∧ 64 < pr ds) ∨ 200 < lp.length) :
    Calls Tryd.prog 4 #[v, v2, v3, .int .i64 wk, .bool back, v5] w (RetV w (.bool true)) := by
  have CS := Lib.hid (rshape_any zs v w h hw)
  obtain ⟨a5, c5, b5, o5, rfl, hk5, _, _, _⟩ := h5
  obtain ⟨np, hnp⟩ : ∃ n, n = lp.length := ⟨_, rfl⟩
  rw [← hnp] at hm ⊢
  have key : ∃ N f : Int, (64 < N ∨ (N ≤ 64 ∧ 200 < np)) ∧ Hid (Calls Tryd.prog 16 #[v] w fun e w' => e = .returned (.tuple #[.int .i64 N, .int .i64 f]) ∧ w = w') := by
    rcases shape_cases zs with hb | hb | ⟨ds, rfl, hs⟩
    · refine ⟨0, 1, .inr ⟨by omega, ?_⟩, Lib.hid (CS.out.mono fun e w' he => ⟨he.1.bad hb, he.2⟩)⟩
      rcases hm with ⟨ds, rfl, hs, _⟩ | hm
      · exact (hb.not_shp hs.len0 hs.len3 hs.pow).elim
      · exact hm
    · refine ⟨0, 2, .inr ⟨by omega, ?_⟩, Lib.hid (CS.out.mono fun e w' he => ⟨he.1.big hb, he.2⟩)⟩
      rcases hm with ⟨ds, rfl, hs, _⟩ | hm
      · obtain ⟨ds', e, _, _, _, h4⟩ := hb
        have := zi_inj e
        subst this
        have := hs.le
        omega
      · exact hm
    · refine ⟨pr ds, 0, ?_, Lib.hid (CS.out.mono fun e w' he => ⟨he.1.ok hs, he.2⟩)⟩
      by_cases h64 : 64 < pr ds
      · exact .inl (by omega)
      · refine .inr ⟨by omega, ?_⟩
        rcases hm with ⟨ds', e, _, h1⟩ | hm
        · have := zi_inj e; subst this; exact absurd h1 h64
        · exact hm
  obtain ⟨N, f, hN, CS⟩ := key
  clear h hw hm hnp hk5
  rcases hN with hN | ⟨hN, hp⟩
  · have g1 : decide ((64 : Int) < N) = true := decide_eq_true hN
    go_enter Tryd.func4, Tryd.ntmps4
    go_wp2_with fail
    refine CS.out.mono ?_
    rintro e w1 ⟨rfl, rfl⟩
    go_wp2
    go_ret
    exact ⟨rfl, Below.refl _ _⟩
  · have g1 : decide ((64 : Int) < N) = false := decide_eq_false (by omega)
    have g2 : decide ((200 : Int) < (np : Int)) = true := decide_eq_true (by omega)
    have g3 : decide (200 < np) = true := decide_eq_true (by omega)
    go_enter Tryd.func4, Tryd.ntmps4
    go_wp2_with fail
    refine CS.out.mono ?_
    rintro e w1 ⟨rfl, rfl⟩
    go_wp2
    go_ret
    exact ⟨rfl, Below.refl _ _⟩
/-- the checkers find a fault -/
theorem ep_err (zs az : List Int) (ll : List (List T3)) (wk e N f : Int) (back : Bool) (np c5 : Nat) (a5 : Option Addr) (v v2 v3 : Value) (w : World) (h : Rd .i64 w v zs) (h2 : Rd .u64 w v2 az) (h3 : RPs w v3 ll) (he : e = 1 ∨ e = 2 ∨ e = 5) (hN : N ≤ 64) (hp : np ≤ 200)
    (CS : Calls Tryd.prog 16 #[v] w fun e w' => e = .returned (.tuple #[.int .i64 N, .int .i64 f]) ∧ w = w')
    (CP : ∀ v v2 w, Rd .i64 w v zs → RPs w v2 ll → Calls Tryd.prog 13 #[v, v2] w (RetV w (.int .i64 e)))
    (CN : ∀ w, Rd .i64 w v zs → Rd .u64 w v2 az → RPs w v3 ll → Calls Tryd.prog 18 #[v, v2, v3, .int .i64 wk, .bool back] w (RetV w (.tuple #[.pointer none, .int .i64 e]))) :
    Calls Tryd.prog 4 #[v, v2, v3, .int .i64 wk, .bool back, .slice a5 np c5] w (RetV w (.bool true)) := by
  have CS := Lib.hid CS
  have CP := Lib.hid (CP v v3 w h h3)
  have CN := Lib.hid CN
  have X := Lib.hid h
  have Y := Lib.hid h2
  have Z := Lib.hid h3
  have g1 : decide ((64 : Int) < N) = false := decide_eq_false (by omega)
  have g2 : decide ((200 : Int) < (np : Int)) = false := decide_eq_false (by omega)
  have g3 : decide (200 < np) = false := decide_eq_false (by omega)
  clear h h2 h3
  rcases he with rfl | rfl | rfl
  all_goals
    go_enter Tryd.func4, Tryd.ntmps4
    go_wp2_with fail
    refine CS.out.mono ?_
    rintro e w1 ⟨rfl, rfl⟩
    go_wp2_with fail
    refine CP.out.mono ?_
    rintro e w1 ⟨rfl, hb⟩
    have CN1 := Lib.hid (CN.out w1 (X.out.below hb) (Y.out.below hb) (Z.out.below hb))
    have B1 := Lib.hid hb
    have hs1 := hb.size
    clear hb CN
    go_wp2_with fail
    refine CN1.out.mono ?_
    rintro e w2 ⟨rfl, hb⟩
    have B2 := Lib.hid (B1.out.trans (hb.mono hs1))
    clear hb CN1
    go_wp2
    go_ret
    exact ⟨rfl, B2.out⟩
/-- .. the array has not the shape's length, the workers are not as they are to be -/
theorem ep_len (ds : List Nat) (az : List Int) (ll : List (List T3)) (wk : Int) (back : Bool) (np c5 : Nat) (a5 : Option Addr) (v v2 v3 : Value) (w : World) (h : Rd .i64 w v (zi ds)) (h2 : Rd .u64 w v2 az) (h3 : RPs w v3 ll) (hw : W64 (zi ds)) (hs : Shp ds) (h64 : pr ds ≤ 64) (hp : np ≤ 200) (hl : az.length ≠ pr ds)
    (CP : ∀ v v2 w, Rd .i64 w v (zi ds) → RPs w v2 ll → Calls Tryd.prog 13 #[v, v2] w (RetV w (.int .i64 0)))
    (CN : ∀ w, Rd .i64 w v (zi ds) → Rd .u64 w v2 az → RPs w v3 ll → Calls Tryd.prog 18 #[v, v2, v3, .int .i64 wk, .bool back] w (RetV w (.tuple #[.pointer none, .int .i64 5]))) :
    Calls Tryd.prog 4 #[v, v2, v3, .int .i64 wk, .bool back, .slice a5 np c5] w (RetV w (.bool true)) := by
  have CS := Lib.hid ((rshape_any (zi ds) v w h hw).mono (R' := fun e w' => e = .returned (.tuple #[.int .i64 (pr ds : Int), .int .i64 0]) ∧ w = w') (fun e w' he => ⟨he.1.ok hs, he.2⟩))
  have CP := Lib.hid (CP v v3 w h h3)
  have X := Lib.hid h
  have Y := Lib.hid h2
  have Z := Lib.hid h3
  obtain ⟨a2, c2, rfl, _⟩ := h2.shape
  have CN := Lib.hid CN
  clear h h2 h3 hw hs
  generalize pr ds = n at *
  obtain ⟨m, hm⟩ : ∃ m, m = az.length := ⟨_, rfl⟩
  rw [← hm] at hl Y CN ⊢
  have g1 : decide ((64 : Int) < (n : Int)) = false := decide_eq_false (by omega)
  have g1' : decide (64 < n) = false := decide_eq_false (by omega)
  have g2 : decide ((200 : Int) < (np : Int)) = false := decide_eq_false (by omega)
  have g3 : decide (200 < np) = false := decide_eq_false (by omega)
  have g4 : decide ((m : Int) = (n : Int)) = false := decide_eq_false (by omega)
  have g5 : decide (m = n) = false := decide_eq_false hl
  clear hm
  go_enter Tryd.func4, Tryd.ntmps4
  go_wp2_with fail
  refine CS.out.mono ?_
  rintro e w1 ⟨rfl, rfl⟩
  go_wp2_with fail
  refine CP.out.mono ?_
  rintro e w1 ⟨rfl, hb⟩
  have CN1 := Lib.hid (CN.out w1 (X.out.below hb) (Y.out.below hb) (Z.out.below hb))
  have B1 := Lib.hid hb
  have hs1 := hb.size
  clear hb CN
  go_wp2_with fail
  refine CN1.out.mono ?_
  rintro e w2 ⟨rfl, hb⟩
  have B2 := Lib.hid (B1.out.trans (hb.mono hs1))
  clear hb CN1
  go_wp2
  go_ret
  exact ⟨rfl, B2.out⟩
theorem ep_wk (ds : List Nat) (az : List Int) (ll : List (List T3)) (wk : Int) (back : Bool) (np c5 : Nat) (a5 : Option Addr) (v v2 v3 : Value) (w : World) (h : Rd .i64 w v (zi ds)) (h2 : Rd .u64 w v2 az) (h3 : RPs w v3 ll) (hw : W64 (zi ds)) (hs : Shp ds) (h64 : pr ds ≤ 64) (hp : np ≤ 200) (hl : az.length = pr ds) (hk : wk < 1 ∨ 8 < wk)
    (CP : ∀ v v2 w, Rd .i64 w v (zi ds) → RPs w v2 ll → Calls Tryd.prog 13 #[v, v2] w (RetV w (.int .i64 0)))
    (CN : ∀ w, Rd .i64 w v (zi ds) → Rd .u64 w v2 az → RPs w v3 ll → Calls Tryd.prog 18 #[v, v2, v3, .int .i64 wk, .bool back] w (RetV w (.tuple #[.pointer none, .int .i64 1]))) :
    Calls Tryd.prog 4 #[v, v2, v3, .int .i64 wk, .bool back, .slice a5 np c5] w (RetV w (.bool true)) := by
  have CS := Lib.hid ((rshape_any (zi ds) v w h hw).mono (R' := fun e w' => e = .returned (.tuple #[.int .i64 (pr ds : Int), .int .i64 0]) ∧ w = w') (fun e w' he => ⟨he.1.ok hs, he.2⟩))
  have CP := Lib.hid (CP v v3 w h h3)
  have X := Lib.hid h
  have Y := Lib.hid h2
  have Z := Lib.hid h3
  obtain ⟨a2, c2, rfl, _⟩ := h2.shape
  have CN := Lib.hid CN
  rw [hl] at CN ⊢
  clear h h2 h3 hw hs
  have HK := Lib.hid hk
  rw [hl] at Y
  generalize pr ds = n at *
  have g1 : decide ((64 : Int) < (n : Int)) = false := decide_eq_false (by omega)
  have g1' : decide (64 < n) = false := decide_eq_false (by omega)
  have g2 : decide ((200 : Int) < (np : Int)) = false := decide_eq_false (by omega)
  have g3 : decide (200 < np) = false := decide_eq_false (by omega)
  clear hk hl
  go_enter Tryd.func4, Tryd.ntmps4
  go_wp2_with fail
  refine CS.out.mono ?_
  rintro e w1 ⟨rfl, rfl⟩
  go_wp2_with fail
  refine CP.out.mono ?_
  rintro e w1 ⟨rfl, hb⟩
  have CN1 := Lib.hid (CN.out w1 (X.out.below hb) (Y.out.below hb) (Z.out.below hb))
  have B1 := Lib.hid hb
  have hs1 := hb.size
  clear hb CN
  go_wp2_with fail
  refine (in_no wk 1 8 _ HK.out).mono ?_
  rintro e w' ⟨rfl, rfl⟩
  go_wp2_with fail
  refine CN1.out.mono ?_
  rintro e w2 ⟨rfl, hb⟩
  have B2 := Lib.hid (B1.out.trans (hb.mono hs1))
  clear hb CN1
  go_wp2
  go_ret
  exact ⟨rfl, B2.out⟩
end Go.Proofs.YtcakeenfkdhedaaDoor.Gm
