/- The walk of the law PolyThrough. (Its lines are printed by wip/mk_XLt.py.) -/
import Derived.Test.YtjljndnpefdifaaRu
import Derived.Test.YtjljndnpefdifaaPu
namespace Go.Proofs.Ytjljndnpefdifaa.Gm
open Go.RowKit
set_option maxHeartbeats 2000000 in
set_option maxRecDepth 100000 in
theorem wPolyThrough (zs ys : List Int) (v v2 : Value) (w : World) (h : Rd .u64 w v zs) (h2 : Rd .u64 w v2 ys) (hz : B64 zs) (hy : B64 ys) :
    Calls Try.prog 3 #[v, v2] w (RetV w (.bool true)) := by
  have X := Lib.hid h
  have Y := Lib.hid h2
  obtain ⟨a, cap, rfl, hcap, hm⟩ := h.shape
  obtain ⟨a2, cap2, rfl, hcap2, hm2⟩ := h2.shape
  clear h h2
  by_cases c1 : 40 < zs.length
  · go_enter Try.func3, Try.ntmps3
    go_wp2
    go_ret
    exact ⟨rfl, Below.refl _ _⟩
  by_cases c2 : 40 < ys.length
  · go_enter Try.func3, Try.ntmps3
    go_wp2
    go_ret
    exact ⟨rfl, Below.refl _ _⟩
  have hl1 : zs.length ≤ 2048 := by omega
  have hl2 : ys.length ≤ 2048 := by omega
  have hl3 : zs.length ≤ 128 := by omega
  by_cases c3 : zs.length ≠ ys.length
  · have C3 := Lib.hid c3
    clear c3
    have B0 := Lib.hid (Below.refl w.heap.size w)
    have hsz0 : w.heap.size ≤ w.heap.size := Nat.le_refl _
    go_enter Try.func3, Try.ntmps3
    go_wp2_with fail
    refine (pthrough_bad zs ys _ _ _ X.out Y.out hl1 hl2 (.inl C3.out)).mono ?_
    rintro e w1 ⟨v1, rfl, hown, hbel⟩
    have X_1 := Lib.hid (X.out.below hbel)
    have Y_1 := Lib.hid (Y.out.below hbel)
    have P_1 := Lib.hid (hown.mono hsz0)
    have B1 := Lib.hid (B0.out.trans (hbel.mono hsz0))
    have hsz1 := B1.out.size
    clear X Y hown hbel
    obtain ⟨qP, cP, rfl, _, _⟩ := P_1.out.shape
    go_wp2_with fail
    refine (points_bad zs ys _ _ _ X_1.out Y_1.out (.inl C3.out)).mono ?_
    rintro e w2 ⟨rfl, hbel⟩
    have X_2 := Lib.hid (X_1.out.below hbel)
    have Y_2 := Lib.hid (Y_1.out.below hbel)
    have P_2 := Lib.hid (P_1.out.below hbel)
    have B2 := Lib.hid (B1.out.trans (hbel.mono hsz1))
    have hsz2 := B2.out.size
    clear X_1 Y_1 P_1 hbel
    go_wp2
    go_ret
    exact ⟨rfl, B2.out⟩
  have c4 : zs.length = ys.length := by omega
  have C4 := Lib.hid c4
  clear c3 c4
  by_cases c5 : (zs.map toF).Nodup
  · have B0 := Lib.hid (Below.refl w.heap.size w)
    have hsz0 : w.heap.size ≤ w.heap.size := Nat.le_refl _
    have C5 := Lib.hid c5
    clear c5
    go_enter Try.func3, Try.ntmps3
    go_wp2_with fail
    refine (pthrough_any zs ys _ _ _ X.out Y.out hz hy C4.out hl3).mono ?_
    rintro e w1 hthr
    obtain ⟨v1, rfl, hown, hbel⟩ := hthr.resolve_right (fun h => h.1 C5.out) |>.2
    clear hthr
    rw [newton_lagr C5.out (by rw [List.length_map, List.length_map]; exact C4.out), List.length_map] at hown
    have X_1 := Lib.hid (X.out.below hbel)
    have Y_1 := Lib.hid (Y.out.below hbel)
    have P_1 := Lib.hid hown
    have B1 := Lib.hid (B0.out.trans hbel)
    have hsz1 := B1.out.size
    clear X Y hown hbel
    obtain ⟨qP, cP, rfl, _, _⟩ := P_1.out.shape
    go_wp2_with fail
    refine (points_any zs ys _ _ _ X_1.out Y_1.out hz C4.out hl3).mono ?_
    rintro e w2 ⟨hpt, hbel⟩
    obtain ⟨_, rfl⟩ := hpt.resolve_right (fun h => h.1 C5.out)
    have X_2 := Lib.hid (X_1.out.below hbel)
    have Y_2 := Lib.hid (Y_1.out.below hbel)
    have P_2 := Lib.hid (P_1.out.below hbel)
    have B2 := Lib.hid (B1.out.trans (hbel.mono hsz1))
    have hsz2 := B2.out.size
    clear X_1 Y_1 P_1 hbel hpt
    go_wp2_with fail
    refine (rthrough_any zs ys _ _ _ X_2.out Y_2.out hz hy C4.out hl3 C5.out).mono ?_
    rintro e w3 ⟨v3, rfl, hown, hbel⟩
    have X_3 := Lib.hid (X_2.out.below hbel)
    have Y_3 := Lib.hid (Y_2.out.below hbel)
    have P_3 := Lib.hid (P_2.out.below hbel)
    have R_3 := Lib.hid (hown.mono hsz2)
    have B3 := Lib.hid (B2.out.trans (hbel.mono hsz2))
    have hsz3 := B3.out.size
    clear X_2 Y_2 P_2 hown hbel
    go_wp2_with fail
    refine (equal_yes ((lagr (zs.map toF) (ys.map toF) zs.length).map vl) _ _ _ P_3.out.rd R_3.out.rd).mono ?_
    rintro e w4 ⟨rfl, hbel⟩
    have X_4 := Lib.hid (X_3.out.below hbel)
    have Y_4 := Lib.hid (Y_3.out.below hbel)
    have P_4 := Lib.hid (P_3.out.below hbel)
    have R_4 := Lib.hid (R_3.out.below hbel)
    have B4 := Lib.hid (B3.out.trans (hbel.mono hsz3))
    have hsz4 := B4.out.size
    clear X_3 Y_3 P_3 R_3 hbel
    go_wp2
    go_ret
    exact ⟨rfl, B4.out⟩
  · have B0 := Lib.hid (Below.refl w.heap.size w)
    have hsz0 : w.heap.size ≤ w.heap.size := Nat.le_refl _
    have C5 := Lib.hid c5
    clear c5
    go_enter Try.func3, Try.ntmps3
    go_wp2_with fail
    refine (pthrough_any zs ys _ _ _ X.out Y.out hz hy C4.out hl3).mono ?_
    rintro e w1 hthr
    obtain ⟨v1, rfl, hown, hbel⟩ := hthr.resolve_left (fun h => C5.out h.1) |>.2
    clear hthr
    have X_1 := Lib.hid (X.out.below hbel)
    have Y_1 := Lib.hid (Y.out.below hbel)
    have P_1 := Lib.hid hown
    have B1 := Lib.hid (B0.out.trans hbel)
    have hsz1 := B1.out.size
    clear X Y hown hbel
    obtain ⟨qP, cP, rfl, _, _⟩ := P_1.out.shape
    go_wp2_with fail
    refine (points_any zs ys _ _ _ X_1.out Y_1.out hz C4.out hl3).mono ?_
    rintro e w2 ⟨hpt, hbel⟩
    obtain ⟨_, rfl⟩ := hpt.resolve_left (fun h => C5.out h.1)
    have X_2 := Lib.hid (X_1.out.below hbel)
    have Y_2 := Lib.hid (Y_1.out.below hbel)
    have P_2 := Lib.hid (P_1.out.below hbel)
    have B2 := Lib.hid (B1.out.trans (hbel.mono hsz1))
    have hsz2 := B2.out.size
    clear X_1 Y_1 P_1 hbel hpt
    go_wp2
    go_ret
    exact ⟨rfl, B2.out⟩
end Go.Proofs.Ytjljndnpefdifaa.Gm
