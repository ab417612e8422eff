/- The walk of poly.Mul. -/
import Derived.Test.YtkcfnbfkbmgchaaDoorPm
namespace Go.Proofs.YtkcfnbfkbmgchaaDoor.Gm
open Go.RowKit
theorem Ow.shape {B : Nat} {w : World} {v : Value} {l : List F} (h : Ow B w v l) : ∃ a cap, v = .slice a l.length cap ∧ l.length ≤ cap ∧ cap ≤ 9223372036854775807 := by
  obtain ⟨a, cap, rfl, h1, h2⟩ := h.rd.shape
  rw [List.length_map] at h1
  exact ⟨a, cap, by rw [List.length_map], h1, h2⟩
set_option maxHeartbeats 2000000 in
theorem pmul_any (zs ys : List Int) (v v2 : Value) (w : World) (h : Rd .u64 w v zs) (h2 : Rd .u64 w v2 ys) (hz : B64 zs) (hy : B64 ys) (hl : zs.length + ys.length ≤ 2048) :
    Calls Tryd.prog 33 #[v, v2] w (RetLE w (mulL (strip (zs.map toF)) (strip (ys.map toF))) 0) := by
  have HR := Lib.hid h
  have HR2 := Lib.hid h2
  obtain ⟨a, cap, rfl, hcap, hm⟩ := h.shape
  obtain ⟨a2, cap2, rfl, hcap2, hm2⟩ := h2.shape
  clear h h2
  obtain ⟨c1, c2⟩ := two_cells w (.slice a zs.length cap) (.slice a2 ys.length cap2) 22
  have hp1 : (strip (zs.map toF)).length ≤ zs.length := by have := strip_len (zs.map toF); rwa [List.length_map] at this
  have hp2 : (strip (ys.map toF)).length ≤ ys.length := by have := strip_len (ys.map toF); rwa [List.length_map] at this
  obtain ⟨fa, hfa⟩ : ∃ fa, fa = strip (zs.map toF) := ⟨_, rfl⟩
  obtain ⟨fb, hfb⟩ : ∃ fb, fb = strip (ys.map toF) := ⟨_, rfl⟩
  have Ha := Lib.hid hfa
  have Hb := Lib.hid hfb
  rw [← hfa, ← hfb]
  rw [← hfa] at hp1
  rw [← hfb] at hp2
  clear hfa hfb
  go_enter Tryd.func33, Tryd.ntmps33
  go_wp2_with fail
  refine (large2_no w.heap.size _ _ _ _ _ _ _ c1 c2 (by omega) (by omega)).mono ?_
  rintro e w' ⟨rfl, rfl⟩
  clear c1 c2
  go_wp2_with fail
  refine (normal_any zs _ _ (HR.out.alloc _) hz (by omega)).mono ?_
  rintro e w1 ⟨va, rfl, hown1, hbel1⟩
  rw [← Ha.out] at hown1
  have hB1 : Below w.heap.size w w1 := ((Below.refl w.heap.size w).alloc (Nat.le_refl _) (.cells #[.slice a zs.length cap, .slice a2 ys.length cap2] 22)).trans (hbel1.mono (B' := w.heap.size) (by simp))
  have Ho1 := Lib.hid (hown1.mono (B' := w.heap.size) (by simp))
  have Hb1 := Lib.hid hB1
  clear hown1 hbel1 hB1
  go_wp2_with fail
  refine (normal_any ys _ _ (HR2.out.below Hb1.out) hy (by omega)).mono ?_
  rintro e w2 ⟨vb, rfl, hown2, hbel2⟩
  rw [← Hb.out] at hown2
  have hsz1 := Hb1.out.size
  have Ho1' := Lib.hid (Ho1.out.below hbel2)
  have Ho2 := Lib.hid (hown2.mono hsz1)
  have Hb2 := Lib.hid (Hb1.out.trans (hbel2.mono hsz1))
  clear hown2 hbel2
  obtain ⟨a3, cap3, rfl, hcap3, hm3⟩ := Ho1'.out.shape
  obtain ⟨a4, cap4, rfl, hcap4, hm4⟩ := Ho2.out.shape
  have hrd1 : Rd .u64 w2 (.slice a3 fa.length cap3) (fa.map vl) := Ho1'.out.rd
  have hrd2 : Rd .u64 w2 (.slice a4 fb.length cap4) (fb.map vl) := Ho2.out.rd
  have Hrd1 := Lib.hid hrd1
  have Hrd2 := Lib.hid hrd2
  have hsz2 := Hb2.out.size
  have hx1 : (fa.map vl).length ≤ 100000 := by rw [List.length_map]; omega
  have hx2 : (fb.map vl).length ≤ 100000 := by rw [List.length_map]; omega
  clear hrd1 hrd2
  by_cases hpa : 0 < fa.length
  · by_cases hpb : 0 < fb.length
    all_goals
      go_wp2_with fail
      refine (mul_list (fa.map vl) (fb.map vl) _ _ _ Hrd1.out Hrd2.out (B64.vl fa) (B64.vl fb) hx1 hx2).mono ?_
      rintro e w3 ⟨v3, rfl, hown3, hbel3⟩
      rw [map_toF_vl, map_toF_vl] at hown3
      have Ho3 := Lib.hid (hown3.mono hsz2)
      have Hb3 := Lib.hid (Hb2.out.trans (hbel3.mono hsz2))
      clear hown3 hbel3
      go_wp2
      go_ret2
      exact ⟨_, rfl, Ho3.out, Hb3.out⟩
  · go_wp2_with fail
    refine (mul_list (fa.map vl) (fb.map vl) _ _ _ Hrd1.out Hrd2.out (B64.vl fa) (B64.vl fb) hx1 hx2).mono ?_
    rintro e w3 ⟨v3, rfl, hown3, hbel3⟩
    rw [map_toF_vl, map_toF_vl] at hown3
    have Ho3 := Lib.hid (hown3.mono hsz2)
    have Hb3 := Lib.hid (Hb2.out.trans (hbel3.mono hsz2))
    clear hown3 hbel3
    go_wp2
    go_ret2
    exact ⟨_, rfl, Ho3.out, Hb3.out⟩
end Go.Proofs.YtkcfnbfkbmgchaaDoor.Gm
