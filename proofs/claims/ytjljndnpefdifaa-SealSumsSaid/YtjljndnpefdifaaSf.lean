/- seal.form, seal.Of. (Its lines are printed by wip/mk_XSf.py.) -/
import Derived.Test.YtjljndnpefdifaaHc
import Derived.Test.YtjljndnpefdifaaAp
import Derived.Test.YtjljndnpefdifaaPe
namespace Go.Proofs.Ytjljndnpefdifaa.Gm
open Go.RowKit
set_option linter.unusedVariables false
set_option maxHeartbeats 1000000 in
theorem form_bad (zs l : List Int) (v v2 : Value) (w : World) (h : Rd .i64 w v zs) (h2 : Rd .u64 w v2 l) (hw : W64 zs) (hb : Bad zs) :
    Calls Try.prog 55 #[v, v2] w fun e w' => e = .returned (.int .i64 1) ∧ w = w' := by
  have HR := Lib.hid h
  obtain ⟨a1, c1, rfl, hc1, hm1⟩ := h2.shape
  clear h h2
  go_enter Try.func55, Try.ntmps55
  go_wp2_with fail
  refine (mcheck_any _ _ _ HR.out hw).mono ?_
  rintro e w' ⟨he, rfl⟩
  obtain rfl := he.bad hb
  go_wp2
  try go_quiet (fail)
  try go_wp2
  go_ret
  exact ⟨rfl, rfl⟩
set_option maxHeartbeats 1000000 in
theorem form_big (zs l : List Int) (v v2 : Value) (w : World) (h : Rd .i64 w v zs) (h2 : Rd .u64 w v2 l) (hw : W64 zs) (hb : Big zs) :
    Calls Try.prog 55 #[v, v2] w fun e w' => e = .returned (.int .i64 2) ∧ w = w' := by
  have HR := Lib.hid h
  obtain ⟨a1, c1, rfl, hc1, hm1⟩ := h2.shape
  clear h h2
  go_enter Try.func55, Try.ntmps55
  go_wp2_with fail
  refine (mcheck_any _ _ _ HR.out hw).mono ?_
  rintro e w' ⟨he, rfl⟩
  obtain rfl := he.big hb
  go_wp2
  try go_quiet (fail)
  try go_wp2
  go_ret
  exact ⟨rfl, rfl⟩
set_option maxHeartbeats 1000000 in
theorem form_len (zs l : List Int) (ds : List Nat) (v v2 : Value) (w : World) (h : Rd .i64 w v zs) (h2 : Rd .u64 w v2 l) (hw : W64 zs) (hz : zs = zi ds) (hs : Shp ds) (hl : l.length ≠ pr ds) :
    Calls Try.prog 55 #[v, v2] w fun e w' => e = .returned (.int .i64 5) ∧ w = w' := by
  have HR := Lib.hid h
  obtain ⟨a1, c1, rfl, hc1, hm1⟩ := h2.shape
  subst hz
  have HS := Lib.hid hs
  clear hs
  have hl2 : ¬ (l.length : Int) = (pr ds : Int) := by omega
  have hl3 : decide ((l.length : Int) = (pr ds : Int)) = false := by simpa using hl2
  clear h h2
  go_enter Try.func55, Try.ntmps55
  go_wp2_with fail
  refine (mcheck_any _ _ _ HR.out hw).mono ?_
  rintro e w' ⟨he, rfl⟩
  obtain rfl := he.ok HS.out
  go_wp2
  try go_quiet (fail)
  try go_wp2
  go_ret
  exact ⟨rfl, rfl⟩
set_option maxHeartbeats 1000000 in
theorem form_ok (zs l : List Int) (ds : List Nat) (v v2 : Value) (w : World) (h : Rd .i64 w v zs) (h2 : Rd .u64 w v2 l) (hw : W64 zs) (hz : zs = zi ds) (hs : Shp ds) (hl : l.length = pr ds) :
    Calls Try.prog 55 #[v, v2] w fun e w' => e = .returned (.int .i64 0) ∧ w = w' := by
  have HR := Lib.hid h
  obtain ⟨a1, c1, rfl, hc1, hm1⟩ := h2.shape
  subst hz
  have HS := Lib.hid hs
  clear hs
  rw [hl]
  clear hl
  clear h h2
  go_enter Try.func55, Try.ntmps55
  go_wp2_with fail
  refine (mcheck_any _ _ _ HR.out hw).mono ?_
  rintro e w' ⟨he, rfl⟩
  obtain rfl := he.ok HS.out
  go_wp2
  try go_quiet (fail)
  try go_wp2
  go_ret
  exact ⟨rfl, rfl⟩
set_option maxHeartbeats 1000000 in
theorem of_bad (zs l : List Int) (x : Int) (v v2 : Value) (w : World) (h : Rd .i64 w v zs) (h2 : Rd .u64 w v2 l) (hw : W64 zs) (hb : Bad zs) :
    Calls Try.prog 25 #[v, v2, .int .u64 x] w fun e w' => e = .returned (.tuple #[.int .u64 0, .int .i64 1]) ∧ w = w' := by
  have CC := Lib.hid (form_bad zs l v v2 w h h2 hw hb)
  clear h h2
  go_enter Try.func25, Try.ntmps25
  go_wp2_with fail
  refine CC.out.mono ?_
  rintro e w' ⟨rfl, rfl⟩
  go_wp2
  go_ret2
  exact ⟨rfl, rfl⟩
set_option maxHeartbeats 1000000 in
theorem of_big (zs l : List Int) (x : Int) (v v2 : Value) (w : World) (h : Rd .i64 w v zs) (h2 : Rd .u64 w v2 l) (hw : W64 zs) (hb : Big zs) :
    Calls Try.prog 25 #[v, v2, .int .u64 x] w fun e w' => e = .returned (.tuple #[.int .u64 0, .int .i64 2]) ∧ w = w' := by
  have CC := Lib.hid (form_big zs l v v2 w h h2 hw hb)
  clear h h2
  go_enter Try.func25, Try.ntmps25
  go_wp2_with fail
  refine CC.out.mono ?_
  rintro e w' ⟨rfl, rfl⟩
  go_wp2
  go_ret2
  exact ⟨rfl, rfl⟩
set_option maxHeartbeats 1000000 in
theorem of_len (zs l : List Int) (ds : List Nat) (x : Int) (v v2 : Value) (w : World) (h : Rd .i64 w v zs) (h2 : Rd .u64 w v2 l) (hw : W64 zs) (hz : zs = zi ds) (hs : Shp ds) (hl : l.length ≠ pr ds) :
    Calls Try.prog 25 #[v, v2, .int .u64 x] w fun e w' => e = .returned (.tuple #[.int .u64 0, .int .i64 5]) ∧ w = w' := by
  have CC := Lib.hid (form_len zs l ds v v2 w h h2 hw hz hs hl)
  clear h h2
  go_enter Try.func25, Try.ntmps25
  go_wp2_with fail
  refine CC.out.mono ?_
  rintro e w' ⟨rfl, rfl⟩
  go_wp2
  go_ret2
  exact ⟨rfl, rfl⟩
set_option maxHeartbeats 1000000 in
theorem of_ok (zs l : List Int) (ds : List Nat) (x : Int) (v v2 : Value) (w : World) (h : Rd .i64 w v zs) (h2 : Rd .u64 w v2 l) (hw : W64 zs) (hz : zs = zi ds) (hs : Shp ds) (hl : l.length = pr ds) (hb : B64 l) (hx0 : 0 ≤ x) (hx1 : x < 18446744073709551616) :
    Calls Try.prog 25 #[v, v2, .int .u64 x] w fun e w' => e = .returned (.tuple #[.int .u64 (vl (evl (l.map toF) (toF x))), .int .i64 0]) ∧ Below w.heap.size w w' := by
  have hle := hs.le
  have CC := Lib.hid (form_ok zs l ds v v2 w h h2 hw hz hs hl)
  have CE := Lib.hid (eval_any l v2 x w h2 hb (by omega) hx0 hx1)
  clear h h2
  go_enter Try.func25, Try.ntmps25
  go_wp2_with fail
  refine CC.out.mono ?_
  rintro e w' ⟨rfl, rfl⟩
  go_wp2_with fail
  refine CE.out.mono ?_
  rintro e w' ⟨rfl, hb1⟩
  go_wp2
  go_ret2
  exact ⟨rfl, hb1⟩
end Go.Proofs.Ytjljndnpefdifaa.Gm
