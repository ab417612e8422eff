/- exec.check, exec.New of wrong things. -/
import Derived.Test.YtcakeenfkdhedaaDoorCn
import Derived.Test.YtcakeenfkdhedaaDoorPhs
namespace Go.Proofs.YtcakeenfkdhedaaDoor.Gm
open Go.RowKit
set_option linter.unusedVariables false
theorem xcheck_plan (v v2 v3 : Value) (wk e : Int) (w : World) (he : (e == 0) = false) (CP : Calls Tryd.prog 12 #[v, v3] w (RetV w (.int .i64 e))) :
    Calls Tryd.prog 54 #[v, v2, v3, .int .i64 wk] w (RetV w (.int .i64 e)) := by
  have CP := Lib.hid CP
  go_enter Tryd.func54, Tryd.ntmps54
  go_wp2_with fail
  refine CP.out.mono ?_
  rintro e w1 ⟨rfl, hb⟩
  have B1 := Lib.hid hb
  clear hb CP
  go_wp2
  go_ret
  exact ⟨rfl, B1.out⟩
theorem xcheck_len (ds : List Nat) (az : List Int) (v v2 v3 : Value) (wk : Int) (w : World) (h : Rd .i64 w v (zi ds)) (h2 : Rd .u64 w v2 az) (hw : W64 (zi ds)) (hs : Shp ds) (hl : az.length ≠ pr ds) (CP : Calls Tryd.prog 12 #[v, v3] w (RetV w (.int .i64 0))) :
    Calls Tryd.prog 54 #[v, v2, v3, .int .i64 wk] w (RetV w (.int .i64 5)) := by
  have CP := Lib.hid CP
  have CM := Lib.hid (fun w h => mcheck_any (zi ds) v w h hw)
  have X := Lib.hid h
  have HS := Lib.hid hs
  obtain ⟨a2, cap2, rfl, hcap2, hm2⟩ := h2.shape
  clear h h2 hs hw hcap2 hm2
  go_enter Tryd.func54, Tryd.ntmps54
  go_wp2_with fail
  refine CP.out.mono ?_
  rintro e w1 ⟨rfl, hb⟩
  have X1 := Lib.hid (X.out.below hb)
  have B1 := Lib.hid hb
  clear hb
  go_wp2_with fail
  refine (CM.out _ X1.out).mono ?_
  rintro e w2 ⟨he, rfl⟩
  obtain rfl := he.ok HS.out
  generalize pr ds = n at *
  generalize az.length = m at *
  have g1 : decide ((m : Int) = (n : Int)) = false := decide_eq_false (by omega)
  have g2 : decide (m = n) = false := decide_eq_false (by omega)
  go_wp2
  go_ret
  exact ⟨rfl, B1.out⟩
theorem xcheck_wk (ds : List Nat) (az : List Int) (v v2 v3 : Value) (wk : Int) (w : World) (h : Rd .i64 w v (zi ds)) (h2 : Rd .u64 w v2 az) (hw : W64 (zi ds)) (hs : Shp ds) (hl : az.length = pr ds) (hk : wk < 1 ∨ 8 < wk) (CP : Calls Tryd.prog 12 #[v, v3] w (RetV w (.int .i64 0))) :
    Calls Tryd.prog 54 #[v, v2, v3, .int .i64 wk] w (RetV w (.int .i64 1)) := by
  have CP := Lib.hid CP
  have CM := Lib.hid (fun w h => mcheck_any (zi ds) v w h hw)
  have X := Lib.hid h
  have HS := Lib.hid hs
  obtain ⟨a2, cap2, rfl, hcap2, hm2⟩ := h2.shape
  rw [hl]
  clear h h2 hs hw hcap2 hm2 hl
  go_enter Tryd.func54, Tryd.ntmps54
  go_wp2_with fail
  refine CP.out.mono ?_
  rintro e w1 ⟨rfl, hb⟩
  have X1 := Lib.hid (X.out.below hb)
  have B1 := Lib.hid hb
  clear hb
  go_wp2_with fail
  refine (CM.out _ X1.out).mono ?_
  rintro e w2 ⟨he, rfl⟩
  obtain rfl := he.ok HS.out
  generalize pr ds = n at *
  by_cases h1 : wk < 1
  · have g1 : decide (wk < 1) = true := decide_eq_true h1
    go_wp2
    go_ret
    exact ⟨rfl, B1.out⟩
  · have g1 : decide (wk < 1) = false := decide_eq_false h1
    have g2 : decide (8 < wk) = true := decide_eq_true (by omega)
    go_wp2
    go_ret
    exact ⟨rfl, B1.out⟩
theorem xnew_err (v v2 v3 : Value) (wk e : Int) (back : Bool) (w : World) (he : (e == 0) = false) (CK : Calls Tryd.prog 54 #[v, v2, v3, .int .i64 wk] w (RetV w (.int .i64 e))) :
    Calls Tryd.prog 18 #[v, v2, v3, .int .i64 wk, .bool back] w (RetV w (.tuple #[.pointer none, .int .i64 e])) := by
  have CK := Lib.hid CK
  go_enter Tryd.func18, Tryd.ntmps18
  go_wp2_with fail
  refine CK.out.mono ?_
  rintro e w1 ⟨rfl, hb⟩
  have B1 := Lib.hid hb
  clear hb CK
  go_wp2
  go_ret2
  exact ⟨rfl, B1.out⟩
end Go.Proofs.YtcakeenfkdhedaaDoor.Gm
