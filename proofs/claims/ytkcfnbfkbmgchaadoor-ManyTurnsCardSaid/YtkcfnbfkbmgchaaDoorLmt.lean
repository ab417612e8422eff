/- The walk of the law ManyTurns. (Its lines are printed by wip/mk_XLmt.py.) -/
import Derived.Test.YtkcfnbfkbmgchaaDoorAe
import Derived.Test.YtkcfnbfkbmgchaaDoorWh2
import Derived.Test.YtkcfnbfkbmgchaaDoorWr
import Derived.Test.YtkcfnbfkbmgchaaDoorIn
import Derived.Test.YtkcfnbfkbmgchaaDoorRp
namespace Go.Proofs.YtkcfnbfkbmgchaaDoor.Gm
open Go.RowKit
set_option linter.unusedVariables false
theorem Rd.ofow {B : Nat} {w : World} {v : Value} {l : List F} (h : Ow B w v l) : Rd .u64 w v (l.map vl) := h.rd
set_option maxHeartbeats 8000000 in
set_option maxRecDepth 100000 in
theorem mt_bad (zs : List Int) (xs ys : List Int) (z : Int) (back : Bool) (v v2 v3 : Value) (w : World) (n : Int) (h : Rd .i64 w v zs) (h2 : Rd .u64 w v2 xs) (h3 : Rd .u64 w v3 ys) (hw : W64 zs) (hn : n = 1 ∧ Bad zs ∨ n = 2 ∧ Big zs) :
    Calls Tryd.prog 8 #[v, v2, v3, .int .i64 z, .bool back] w (RetV w (.bool true)) := by
  have hn0 : (n == 0) = false := by rcases hn with ⟨rfl, _⟩ | ⟨rfl, _⟩ <;> rfl
  have hnn : (n == n) = true := by simp
  have C1 := Lib.hid (fun w v2 h h2 => malong_bad zs xs z n back v v2 w h h2 hw hn)
  have C2 := Lib.hid (fun w v2 h h2 => fwd_of (all_bad zs xs n false v v2 w h h2 hw hn))
  have C3 := Lib.hid (fun w v2 h h2 => inv_of (all_bad zs xs n true v v2 w h h2 hw hn))
  have C4 := Lib.hid (fun w v2 v3 h h2 h3 => mcyc_bad zs xs ys n v v2 v3 w h h2 h3 hw hn)
  have HN := Lib.hid hn
  have X := Lib.hid h
  have Y := Lib.hid h2
  have Z := Lib.hid h3
  clear h h2 h3 hn
  have B0 := Lib.hid (Below.refl w.heap.size w)
  have hsz0 : w.heap.size ≤ w.heap.size := Nat.le_refl _
  go_enter Tryd.func8, Tryd.ntmps8
  go_wp2_with fail
  refine (rshape_any zs _ _ X.out hw).mono ?_
  rintro e w' ⟨he, rfl⟩
  have he : e = .returned (.tuple #[.int .i64 0, .int .i64 n]) := by
    rcases HN.out with ⟨rfl, hb⟩ | ⟨rfl, hb⟩
    · exact he.bad hb
    · exact he.big hb
  subst he
  go_wp2_with fail
  refine (C1.out _ _ X.out Y.out).mono ?_
  rintro e w1 ⟨v1, rfl, hown, hbel⟩
  have X_1 := Lib.hid (X.out.below hbel)
  have Y_1 := Lib.hid (Y.out.below hbel)
  have Z_1 := Lib.hid (Z.out.below hbel)
  have p1_1 := Lib.hid (hown.mono hsz0)
  have B1 := Lib.hid (B0.out.trans (hbel.mono hsz0))
  have hsz1 := B1.out.size
  clear X Y Z hown hbel
  go_wp2_with fail
  refine (C2.out _ _ X_1.out Y_1.out).mono ?_
  rintro e w2 ⟨v2, rfl, hown, hbel⟩
  have X_2 := Lib.hid (X_1.out.below hbel)
  have Y_2 := Lib.hid (Y_1.out.below hbel)
  have Z_2 := Lib.hid (Z_1.out.below hbel)
  have p1_2 := Lib.hid (p1_1.out.below hbel)
  have p2_2 := Lib.hid (hown.mono hsz1)
  have B2 := Lib.hid (B1.out.trans (hbel.mono hsz1))
  have hsz2 := B2.out.size
  clear X_1 Y_1 Z_1 p1_1 hown hbel
  go_wp2_with fail
  refine (C3.out _ _ X_2.out Y_2.out).mono ?_
  rintro e w3 ⟨v3, rfl, hown, hbel⟩
  have X_3 := Lib.hid (X_2.out.below hbel)
  have Y_3 := Lib.hid (Y_2.out.below hbel)
  have Z_3 := Lib.hid (Z_2.out.below hbel)
  have p1_3 := Lib.hid (p1_2.out.below hbel)
  have p2_3 := Lib.hid (p2_2.out.below hbel)
  have p3_3 := Lib.hid (hown.mono hsz2)
  have B3 := Lib.hid (B2.out.trans (hbel.mono hsz2))
  have hsz3 := B3.out.size
  clear X_2 Y_2 Z_2 p1_2 p2_2 hown hbel
  go_wp2_with fail
  refine (C4.out _ _ _ X_3.out Y_3.out Z_3.out).mono ?_
  rintro e w4 ⟨v4, rfl, hown, hbel⟩
  have X_4 := Lib.hid (X_3.out.below hbel)
  have Y_4 := Lib.hid (Y_3.out.below hbel)
  have Z_4 := Lib.hid (Z_3.out.below hbel)
  have p1_4 := Lib.hid (p1_3.out.below hbel)
  have p2_4 := Lib.hid (p2_3.out.below hbel)
  have p3_4 := Lib.hid (p3_3.out.below hbel)
  have p4_4 := Lib.hid (hown.mono hsz3)
  have B4 := Lib.hid (B3.out.trans (hbel.mono hsz3))
  have hsz4 := B4.out.size
  clear X_3 Y_3 Z_3 p1_3 p2_3 p3_3 hown hbel
  go_wp2_with fail
  refine (equal_yes [] _ _ _ (p1_4.out.rd) (Rd.nil _ _)).mono ?_
  rintro e w5 ⟨rfl, hbel⟩
  have X_5 := Lib.hid (X_4.out.below hbel)
  have Y_5 := Lib.hid (Y_4.out.below hbel)
  have Z_5 := Lib.hid (Z_4.out.below hbel)
  have p1_5 := Lib.hid (p1_4.out.below hbel)
  have p2_5 := Lib.hid (p2_4.out.below hbel)
  have p3_5 := Lib.hid (p3_4.out.below hbel)
  have p4_5 := Lib.hid (p4_4.out.below hbel)
  have B5 := Lib.hid (B4.out.trans (hbel.mono hsz4))
  have hsz5 := B5.out.size
  clear X_4 Y_4 Z_4 p1_4 p2_4 p3_4 p4_4 hbel
  go_wp2_with fail
  refine (equal_yes ([].map vl) _ _ _ (Rd.ofow p2_5.out) (Rd.nil _ _)).mono ?_
  rintro e w6 ⟨rfl, hbel⟩
  have X_6 := Lib.hid (X_5.out.below hbel)
  have Y_6 := Lib.hid (Y_5.out.below hbel)
  have Z_6 := Lib.hid (Z_5.out.below hbel)
  have p1_6 := Lib.hid (p1_5.out.below hbel)
  have p2_6 := Lib.hid (p2_5.out.below hbel)
  have p3_6 := Lib.hid (p3_5.out.below hbel)
  have p4_6 := Lib.hid (p4_5.out.below hbel)
  have B6 := Lib.hid (B5.out.trans (hbel.mono hsz5))
  have hsz6 := B6.out.size
  clear X_5 Y_5 Z_5 p1_5 p2_5 p3_5 p4_5 hbel
  go_wp2_with fail
  refine (equal_yes ([].map vl) _ _ _ (Rd.ofow p3_6.out) (Rd.nil _ _)).mono ?_
  rintro e w7 ⟨rfl, hbel⟩
  have X_7 := Lib.hid (X_6.out.below hbel)
  have Y_7 := Lib.hid (Y_6.out.below hbel)
  have Z_7 := Lib.hid (Z_6.out.below hbel)
  have p1_7 := Lib.hid (p1_6.out.below hbel)
  have p2_7 := Lib.hid (p2_6.out.below hbel)
  have p3_7 := Lib.hid (p3_6.out.below hbel)
  have p4_7 := Lib.hid (p4_6.out.below hbel)
  have B7 := Lib.hid (B6.out.trans (hbel.mono hsz6))
  have hsz7 := B7.out.size
  clear X_6 Y_6 Z_6 p1_6 p2_6 p3_6 p4_6 hbel
  go_wp2_with fail
  refine (equal_yes ([].map vl) _ _ _ (Rd.ofow p4_7.out) (Rd.nil _ _)).mono ?_
  rintro e w8 ⟨rfl, hbel⟩
  have X_8 := Lib.hid (X_7.out.below hbel)
  have Y_8 := Lib.hid (Y_7.out.below hbel)
  have Z_8 := Lib.hid (Z_7.out.below hbel)
  have p1_8 := Lib.hid (p1_7.out.below hbel)
  have p2_8 := Lib.hid (p2_7.out.below hbel)
  have p3_8 := Lib.hid (p3_7.out.below hbel)
  have p4_8 := Lib.hid (p4_7.out.below hbel)
  have B8 := Lib.hid (B7.out.trans (hbel.mono hsz7))
  have hsz8 := B8.out.size
  clear X_7 Y_7 Z_7 p1_7 p2_7 p3_7 p4_7 hbel
  go_wp2
  go_ret
  exact ⟨rfl, B8.out⟩
theorem mt_more (ks : List Nat) (xs ys : List Int) (z : Int) (back : Bool) (v v2 v3 : Value) (w : World) (h : Rd .i64 w v (zi (szs ks))) (h2 : Rd .u64 w v2 xs) (h3 : Rd .u64 w v3 ys) (hw : W64 (zi (szs ks))) (hs : Shp (szs ks)) (hk10 : ∀ k ∈ ks, k ≤ 10) (hx : B64 xs) (hy : B64 ys) (hT : Tb w) (h64 : 64 < pk ks) :
    Calls Tryd.prog 8 #[v, v2, v3, .int .i64 z, .bool back] w (RetV w (.bool true)) := by
  obtain ⟨n, hn⟩ : ∃ n, n = pr (szs ks) := ⟨_, rfl⟩
  have HN := Lib.hid hn
  have HS := Lib.hid hs
  have X := Lib.hid h
  rw [show pk ks = pr (szs ks) from rfl, ← hn] at h64
  have hb : (64 : Int) < (n : Int) := by omega
  clear h h2 h3 hn hs hT
  go_enter Tryd.func8, Tryd.ntmps8
  go_wp2_with fail
  refine (rshape_any (zi (szs ks)) _ _ X.out hw).mono ?_
  rintro e w' ⟨he, rfl⟩
  obtain rfl := he.ok HS.out
  rw [← HN.out]
  go_wp2
  go_ret
  exact ⟨rfl, Below.refl _ _⟩
set_option maxHeartbeats 8000000 in
set_option maxRecDepth 100000 in
theorem mt_xox (ks : List Nat) (xs ys : List Int) (z : Int) (back : Bool) (v v2 v3 : Value) (w : World) (h : Rd .i64 w v (zi (szs ks))) (h2 : Rd .u64 w v2 xs) (h3 : Rd .u64 w v3 ys) (hw : W64 (zi (szs ks))) (hs : Shp (szs ks)) (hk10 : ∀ k ∈ ks, k ≤ 10) (hx : B64 xs) (hy : B64 ys) (hT : Tb w) (h64 : pk ks ≤ 64) (hla : xs.length ≠ pk ks) (hlb : ys.length ≠ pk ks) :
    Calls Tryd.prog 8 #[v, v2, v3, .int .i64 z, .bool back] w (RetV w (.bool true)) := by
  obtain ⟨n, hn⟩ : ∃ n, n = pr (szs ks) := ⟨_, rfl⟩
  have HN := Lib.hid hn
  have HS := Lib.hid hs
  have X := Lib.hid h
  have Y := Lib.hid h2
  have Z := Lib.hid h3
  have T := Lib.hid hT
  have hn1 : 1 ≤ n := by rw [hn]; exact hs.pr1
  have hN1 : 1 ≤ ks.length := by have := hs.len0; rwa [szs_len] at this
  have hN3 : ks.length ≤ 3 := by have := hs.len3; rwa [szs_len] at this
  have C1 := Lib.hid (fun w v v2 h h2 => malong_len (szs ks) xs z back v v2 w h h2 hw hs hla)
  have C2 := Lib.hid (fun w v v2 h h2 => fwd_of (all_len (szs ks) xs false v v2 w h h2 hw hs hla))
  have C3 := Lib.hid (fun w v v2 h h2 => inv_of (all_len (szs ks) xs true v v2 w h h2 hw hs hla))
  have C4 := Lib.hid (fun w v v2 v3 h h2 h3 => mcyc_len (szs ks) xs ys v v2 v3 w h h2 h3 hw hs (fun q => hla q.1))
  obtain ⟨a, cap, sb, so, rfl, hcap, hm, hsx, hcx⟩ := h.opened
  have LZ := Lib.hid (show (zi (szs ks)).length = ks.length by rw [zi_len, szs_len])
  rw [LZ.out] at hcap hsx hcx X ⊢
  obtain rfl := hsx.resolve_left (by omega)
  obtain ⟨a2, cap2, rfl, hcap2, hm2⟩ := h2.shape
  obtain ⟨a3, cap3, rfl, hcap3, hm3⟩ := h3.shape
  rw [show pk ks = pr (szs ks) from rfl, ← hn] at hla hlb h64
  obtain ⟨p, hp⟩ : ∃ p, p = xs.length := ⟨_, rfl⟩
  obtain ⟨q, hq2⟩ : ∃ p, p = ys.length := ⟨_, rfl⟩
  rw [← hp] at hla hcap2 Y ⊢
  rw [← hq2] at hlb hcap3 Z ⊢
  have d3 : decide ((64 : Int) < (n : Int)) = false := by rw [decide_eq_false_iff_not]; omega
  have p1 : decide ((p : Int) = (n : Int)) = false := by rw [decide_eq_false_iff_not]; omega
  have p2 : ((p : Int) != (n : Int)) = true := by simp; omega
  have q1 : decide ((q : Int) = (n : Int)) = false := by rw [decide_eq_false_iff_not]; omega
  have q2 : ((q : Int) != (n : Int)) = true := by simp; omega
  obtain ⟨N, hN⟩ : ∃ N, N = ks.length := ⟨_, rfl⟩
  rw [← hN] at hN1 hN3 hcap X ⊢
  have el : IntKind.i64.wrap ((N : Int) - 1) = (N : Int) - 1 := IntWalk.i64_in _ (by omega)
  clear h h2 h3 hT hn hs hk10 hcx LZ hN hp hq2
  have B0 := Lib.hid (Below.refl w.heap.size w)
  have hsz0 : w.heap.size ≤ w.heap.size := Nat.le_refl _
  go_enter Tryd.func8, Tryd.ntmps8
  go_wp2_with fail
  refine (rshape_any (zi (szs ks)) _ _ X.out hw).mono ?_
  rintro e w' ⟨he, rfl⟩
  obtain rfl := he.ok HS.out
  rw [← HN.out]
  go_wp2_with fail
  refine (C1.out _ _ _ X.out Y.out).mono ?_
  rintro e w1 ⟨v1, rfl, hown, hbel⟩
  have X_1 := Lib.hid (X.out.below hbel)
  have Y_1 := Lib.hid (Y.out.below hbel)
  have Z_1 := Lib.hid (Z.out.below hbel)
  have T_1 := Lib.hid (T.out.below hbel)
  have p1_1 := Lib.hid (hown.mono hsz0)
  have B1 := Lib.hid (B0.out.trans (hbel.mono hsz0))
  have hsz1 := B1.out.size
  clear X Y Z T hown hbel
  go_wp2_with fail
  refine (C2.out _ _ _ X_1.out Y_1.out).mono ?_
  rintro e w2 ⟨v2, rfl, hown, hbel⟩
  have X_2 := Lib.hid (X_1.out.below hbel)
  have Y_2 := Lib.hid (Y_1.out.below hbel)
  have Z_2 := Lib.hid (Z_1.out.below hbel)
  have T_2 := Lib.hid (T_1.out.below hbel)
  have p1_2 := Lib.hid (p1_1.out.below hbel)
  have p2_2 := Lib.hid (hown.mono hsz1)
  have B2 := Lib.hid (B1.out.trans (hbel.mono hsz1))
  have hsz2 := B2.out.size
  clear X_1 Y_1 Z_1 T_1 p1_1 hown hbel
  go_wp2_with fail
  refine (C3.out _ _ _ X_2.out Y_2.out).mono ?_
  rintro e w3 ⟨v3, rfl, hown, hbel⟩
  have X_3 := Lib.hid (X_2.out.below hbel)
  have Y_3 := Lib.hid (Y_2.out.below hbel)
  have Z_3 := Lib.hid (Z_2.out.below hbel)
  have T_3 := Lib.hid (T_2.out.below hbel)
  have p1_3 := Lib.hid (p1_2.out.below hbel)
  have p2_3 := Lib.hid (p2_2.out.below hbel)
  have p3_3 := Lib.hid (hown.mono hsz2)
  have B3 := Lib.hid (B2.out.trans (hbel.mono hsz2))
  have hsz3 := B3.out.size
  clear X_2 Y_2 Z_2 T_2 p1_2 p2_2 hown hbel
  go_wp2_with fail
  refine (C4.out _ _ _ _ X_3.out Y_3.out Z_3.out).mono ?_
  rintro e w4 ⟨v4, rfl, hown, hbel⟩
  have X_4 := Lib.hid (X_3.out.below hbel)
  have Y_4 := Lib.hid (Y_3.out.below hbel)
  have Z_4 := Lib.hid (Z_3.out.below hbel)
  have T_4 := Lib.hid (T_3.out.below hbel)
  have p1_4 := Lib.hid (p1_3.out.below hbel)
  have p2_4 := Lib.hid (p2_3.out.below hbel)
  have p3_4 := Lib.hid (p3_3.out.below hbel)
  have p4_4 := Lib.hid (hown.mono hsz3)
  have B4 := Lib.hid (B3.out.trans (hbel.mono hsz3))
  have hsz4 := B4.out.size
  clear X_3 Y_3 Z_3 T_3 p1_3 p2_3 p3_3 hown hbel
  go_wp2_with fail
  refine (equal_yes [] _ _ _ (p1_4.out.rd) (Rd.nil _ _)).mono ?_
  rintro e w5 ⟨rfl, hbel⟩
  have X_5 := Lib.hid (X_4.out.below hbel)
  have Y_5 := Lib.hid (Y_4.out.below hbel)
  have Z_5 := Lib.hid (Z_4.out.below hbel)
  have T_5 := Lib.hid (T_4.out.below hbel)
  have p1_5 := Lib.hid (p1_4.out.below hbel)
  have p2_5 := Lib.hid (p2_4.out.below hbel)
  have p3_5 := Lib.hid (p3_4.out.below hbel)
  have p4_5 := Lib.hid (p4_4.out.below hbel)
  have B5 := Lib.hid (B4.out.trans (hbel.mono hsz4))
  have hsz5 := B5.out.size
  clear X_4 Y_4 Z_4 T_4 p1_4 p2_4 p3_4 p4_4 hbel
  go_wp2_with fail
  refine (equal_yes ([].map vl) _ _ _ (Rd.ofow p2_5.out) (Rd.nil _ _)).mono ?_
  rintro e w6 ⟨rfl, hbel⟩
  have X_6 := Lib.hid (X_5.out.below hbel)
  have Y_6 := Lib.hid (Y_5.out.below hbel)
  have Z_6 := Lib.hid (Z_5.out.below hbel)
  have T_6 := Lib.hid (T_5.out.below hbel)
  have p1_6 := Lib.hid (p1_5.out.below hbel)
  have p2_6 := Lib.hid (p2_5.out.below hbel)
  have p3_6 := Lib.hid (p3_5.out.below hbel)
  have p4_6 := Lib.hid (p4_5.out.below hbel)
  have B6 := Lib.hid (B5.out.trans (hbel.mono hsz5))
  have hsz6 := B6.out.size
  clear X_5 Y_5 Z_5 T_5 p1_5 p2_5 p3_5 p4_5 hbel
  go_wp2_with fail
  refine (equal_yes ([].map vl) _ _ _ (Rd.ofow p3_6.out) (Rd.nil _ _)).mono ?_
  rintro e w7 ⟨rfl, hbel⟩
  have X_7 := Lib.hid (X_6.out.below hbel)
  have Y_7 := Lib.hid (Y_6.out.below hbel)
  have Z_7 := Lib.hid (Z_6.out.below hbel)
  have T_7 := Lib.hid (T_6.out.below hbel)
  have p1_7 := Lib.hid (p1_6.out.below hbel)
  have p2_7 := Lib.hid (p2_6.out.below hbel)
  have p3_7 := Lib.hid (p3_6.out.below hbel)
  have p4_7 := Lib.hid (p4_6.out.below hbel)
  have B7 := Lib.hid (B6.out.trans (hbel.mono hsz6))
  have hsz7 := B7.out.size
  clear X_6 Y_6 Z_6 T_6 p1_6 p2_6 p3_6 p4_6 hbel
  go_wp2_with fail
  refine (equal_yes ([].map vl) _ _ _ (Rd.ofow p4_7.out) (Rd.nil _ _)).mono ?_
  rintro e w8 ⟨rfl, hbel⟩
  have X_8 := Lib.hid (X_7.out.below hbel)
  have Y_8 := Lib.hid (Y_7.out.below hbel)
  have Z_8 := Lib.hid (Z_7.out.below hbel)
  have T_8 := Lib.hid (T_7.out.below hbel)
  have p1_8 := Lib.hid (p1_7.out.below hbel)
  have p2_8 := Lib.hid (p2_7.out.below hbel)
  have p3_8 := Lib.hid (p3_7.out.below hbel)
  have p4_8 := Lib.hid (p4_7.out.below hbel)
  have B8 := Lib.hid (B7.out.trans (hbel.mono hsz7))
  have hsz8 := B8.out.size
  clear X_7 Y_7 Z_7 T_7 p1_7 p2_7 p3_7 p4_7 hbel
  go_wp2
  go_ret
  exact ⟨rfl, B8.out⟩
set_option maxHeartbeats 8000000 in
set_option maxRecDepth 100000 in
theorem mt_xob (ks : List Nat) (xs ys : List Int) (z : Int) (back : Bool) (v v2 v3 : Value) (w : World) (h : Rd .i64 w v (zi (szs ks))) (h2 : Rd .u64 w v2 xs) (h3 : Rd .u64 w v3 ys) (hw : W64 (zi (szs ks))) (hs : Shp (szs ks)) (hk10 : ∀ k ∈ ks, k ≤ 10) (hx : B64 xs) (hy : B64 ys) (hT : Tb w) (h64 : pk ks ≤ 64) (hla : xs.length ≠ pk ks) (hlb : ys.length = pk ks) :
    Calls Tryd.prog 8 #[v, v2, v3, .int .i64 z, .bool back] w (RetV w (.bool true)) := by
  obtain ⟨n, hn⟩ : ∃ n, n = pr (szs ks) := ⟨_, rfl⟩
  have HN := Lib.hid hn
  have HS := Lib.hid hs
  have X := Lib.hid h
  have Y := Lib.hid h2
  have Z := Lib.hid h3
  have T := Lib.hid hT
  have hn1 : 1 ≤ n := by rw [hn]; exact hs.pr1
  have hN1 : 1 ≤ ks.length := by have := hs.len0; rwa [szs_len] at this
  have hN3 : ks.length ≤ 3 := by have := hs.len3; rwa [szs_len] at this
  have C1 := Lib.hid (fun w v v2 h h2 => malong_len (szs ks) xs z back v v2 w h h2 hw hs hla)
  have C2 := Lib.hid (fun w v v2 h h2 => fwd_of (all_len (szs ks) xs false v v2 w h h2 hw hs hla))
  have C3 := Lib.hid (fun w v v2 h h2 => inv_of (all_len (szs ks) xs true v v2 w h h2 hw hs hla))
  have C4 := Lib.hid (fun w v v2 v3 h h2 h3 => mcyc_len (szs ks) xs ys v v2 v3 w h h2 h3 hw hs (fun q => hla q.1))
  obtain ⟨a, cap, sb, so, rfl, hcap, hm, hsx, hcx⟩ := h.opened
  have LZ := Lib.hid (show (zi (szs ks)).length = ks.length by rw [zi_len, szs_len])
  rw [LZ.out] at hcap hsx hcx X ⊢
  obtain rfl := hsx.resolve_left (by omega)
  obtain ⟨a2, cap2, rfl, hcap2, hm2⟩ := h2.shape
  obtain ⟨a3, cap3, rfl, hcap3, hm3⟩ := h3.shape
  rw [show pk ks = pr (szs ks) from rfl, ← hn] at hla hlb h64
  obtain ⟨p, hp⟩ : ∃ p, p = xs.length := ⟨_, rfl⟩
  obtain ⟨q, hq2⟩ : ∃ p, p = ys.length := ⟨_, rfl⟩
  rw [← hp] at hla hcap2 Y ⊢
  rw [← hq2] at hlb hcap3 Z ⊢
  have d3 : decide ((64 : Int) < (n : Int)) = false := by rw [decide_eq_false_iff_not]; omega
  have p1 : decide ((p : Int) = (n : Int)) = false := by rw [decide_eq_false_iff_not]; omega
  have p2 : ((p : Int) != (n : Int)) = true := by simp; omega
  subst hlb
  obtain ⟨N, hN⟩ : ∃ N, N = ks.length := ⟨_, rfl⟩
  rw [← hN] at hN1 hN3 hcap X ⊢
  have el : IntKind.i64.wrap ((N : Int) - 1) = (N : Int) - 1 := IntWalk.i64_in _ (by omega)
  clear h h2 h3 hT hn hs hk10 hcx LZ hN hp hq2
  have B0 := Lib.hid (Below.refl w.heap.size w)
  have hsz0 : w.heap.size ≤ w.heap.size := Nat.le_refl _
  go_enter Tryd.func8, Tryd.ntmps8
  go_wp2_with fail
  refine (rshape_any (zi (szs ks)) _ _ X.out hw).mono ?_
  rintro e w' ⟨he, rfl⟩
  obtain rfl := he.ok HS.out
  rw [← HN.out]
  go_wp2_with fail
  refine (C1.out _ _ _ X.out Y.out).mono ?_
  rintro e w1 ⟨v1, rfl, hown, hbel⟩
  have X_1 := Lib.hid (X.out.below hbel)
  have Y_1 := Lib.hid (Y.out.below hbel)
  have Z_1 := Lib.hid (Z.out.below hbel)
  have T_1 := Lib.hid (T.out.below hbel)
  have p1_1 := Lib.hid (hown.mono hsz0)
  have B1 := Lib.hid (B0.out.trans (hbel.mono hsz0))
  have hsz1 := B1.out.size
  clear X Y Z T hown hbel
  go_wp2_with fail
  refine (C2.out _ _ _ X_1.out Y_1.out).mono ?_
  rintro e w2 ⟨v2, rfl, hown, hbel⟩
  have X_2 := Lib.hid (X_1.out.below hbel)
  have Y_2 := Lib.hid (Y_1.out.below hbel)
  have Z_2 := Lib.hid (Z_1.out.below hbel)
  have T_2 := Lib.hid (T_1.out.below hbel)
  have p1_2 := Lib.hid (p1_1.out.below hbel)
  have p2_2 := Lib.hid (hown.mono hsz1)
  have B2 := Lib.hid (B1.out.trans (hbel.mono hsz1))
  have hsz2 := B2.out.size
  clear X_1 Y_1 Z_1 T_1 p1_1 hown hbel
  go_wp2_with fail
  refine (C3.out _ _ _ X_2.out Y_2.out).mono ?_
  rintro e w3 ⟨v3, rfl, hown, hbel⟩
  have X_3 := Lib.hid (X_2.out.below hbel)
  have Y_3 := Lib.hid (Y_2.out.below hbel)
  have Z_3 := Lib.hid (Z_2.out.below hbel)
  have T_3 := Lib.hid (T_2.out.below hbel)
  have p1_3 := Lib.hid (p1_2.out.below hbel)
  have p2_3 := Lib.hid (p2_2.out.below hbel)
  have p3_3 := Lib.hid (hown.mono hsz2)
  have B3 := Lib.hid (B2.out.trans (hbel.mono hsz2))
  have hsz3 := B3.out.size
  clear X_2 Y_2 Z_2 T_2 p1_2 p2_2 hown hbel
  go_wp2_with fail
  refine (C4.out _ _ _ _ X_3.out Y_3.out Z_3.out).mono ?_
  rintro e w4 ⟨v4, rfl, hown, hbel⟩
  have X_4 := Lib.hid (X_3.out.below hbel)
  have Y_4 := Lib.hid (Y_3.out.below hbel)
  have Z_4 := Lib.hid (Z_3.out.below hbel)
  have T_4 := Lib.hid (T_3.out.below hbel)
  have p1_4 := Lib.hid (p1_3.out.below hbel)
  have p2_4 := Lib.hid (p2_3.out.below hbel)
  have p3_4 := Lib.hid (p3_3.out.below hbel)
  have p4_4 := Lib.hid (hown.mono hsz3)
  have B4 := Lib.hid (B3.out.trans (hbel.mono hsz3))
  have hsz4 := B4.out.size
  clear X_3 Y_3 Z_3 T_3 p1_3 p2_3 p3_3 hown hbel
  go_wp2_with fail
  refine (equal_yes [] _ _ _ (p1_4.out.rd) (Rd.nil _ _)).mono ?_
  rintro e w5 ⟨rfl, hbel⟩
  have X_5 := Lib.hid (X_4.out.below hbel)
  have Y_5 := Lib.hid (Y_4.out.below hbel)
  have Z_5 := Lib.hid (Z_4.out.below hbel)
  have T_5 := Lib.hid (T_4.out.below hbel)
  have p1_5 := Lib.hid (p1_4.out.below hbel)
  have p2_5 := Lib.hid (p2_4.out.below hbel)
  have p3_5 := Lib.hid (p3_4.out.below hbel)
  have p4_5 := Lib.hid (p4_4.out.below hbel)
  have B5 := Lib.hid (B4.out.trans (hbel.mono hsz4))
  have hsz5 := B5.out.size
  clear X_4 Y_4 Z_4 T_4 p1_4 p2_4 p3_4 p4_4 hbel
  go_wp2_with fail
  refine (equal_yes ([].map vl) _ _ _ (Rd.ofow p2_5.out) (Rd.nil _ _)).mono ?_
  rintro e w6 ⟨rfl, hbel⟩
  have X_6 := Lib.hid (X_5.out.below hbel)
  have Y_6 := Lib.hid (Y_5.out.below hbel)
  have Z_6 := Lib.hid (Z_5.out.below hbel)
  have T_6 := Lib.hid (T_5.out.below hbel)
  have p1_6 := Lib.hid (p1_5.out.below hbel)
  have p2_6 := Lib.hid (p2_5.out.below hbel)
  have p3_6 := Lib.hid (p3_5.out.below hbel)
  have p4_6 := Lib.hid (p4_5.out.below hbel)
  have B6 := Lib.hid (B5.out.trans (hbel.mono hsz5))
  have hsz6 := B6.out.size
  clear X_5 Y_5 Z_5 T_5 p1_5 p2_5 p3_5 p4_5 hbel
  go_wp2_with fail
  refine (equal_yes ([].map vl) _ _ _ (Rd.ofow p3_6.out) (Rd.nil _ _)).mono ?_
  rintro e w7 ⟨rfl, hbel⟩
  have X_7 := Lib.hid (X_6.out.below hbel)
  have Y_7 := Lib.hid (Y_6.out.below hbel)
  have Z_7 := Lib.hid (Z_6.out.below hbel)
  have T_7 := Lib.hid (T_6.out.below hbel)
  have p1_7 := Lib.hid (p1_6.out.below hbel)
  have p2_7 := Lib.hid (p2_6.out.below hbel)
  have p3_7 := Lib.hid (p3_6.out.below hbel)
  have p4_7 := Lib.hid (p4_6.out.below hbel)
  have B7 := Lib.hid (B6.out.trans (hbel.mono hsz6))
  have hsz7 := B7.out.size
  clear X_6 Y_6 Z_6 T_6 p1_6 p2_6 p3_6 p4_6 hbel
  go_wp2_with fail
  refine (equal_yes ([].map vl) _ _ _ (Rd.ofow p4_7.out) (Rd.nil _ _)).mono ?_
  rintro e w8 ⟨rfl, hbel⟩
  have X_8 := Lib.hid (X_7.out.below hbel)
  have Y_8 := Lib.hid (Y_7.out.below hbel)
  have Z_8 := Lib.hid (Z_7.out.below hbel)
  have T_8 := Lib.hid (T_7.out.below hbel)
  have p1_8 := Lib.hid (p1_7.out.below hbel)
  have p2_8 := Lib.hid (p2_7.out.below hbel)
  have p3_8 := Lib.hid (p3_7.out.below hbel)
  have p4_8 := Lib.hid (p4_7.out.below hbel)
  have B8 := Lib.hid (B7.out.trans (hbel.mono hsz7))
  have hsz8 := B8.out.size
  clear X_7 Y_7 Z_7 T_7 p1_7 p2_7 p3_7 p4_7 hbel
  go_wp2
  go_ret
  exact ⟨rfl, B8.out⟩
set_option maxHeartbeats 8000000 in
set_option maxRecDepth 100000 in
theorem mt_aox (ks : List Nat) (xs ys : List Int) (z : Int) (back : Bool) (v v2 v3 : Value) (w : World) (h : Rd .i64 w v (zi (szs ks))) (h2 : Rd .u64 w v2 xs) (h3 : Rd .u64 w v3 ys) (hw : W64 (zi (szs ks))) (hs : Shp (szs ks)) (hk10 : ∀ k ∈ ks, k ≤ 10) (hx : B64 xs) (hy : B64 ys) (hT : Tb w) (h64 : pk ks ≤ 64) (hla : xs.length = pk ks) (hlb : ys.length ≠ pk ks) (hax : z < 0 ∨ (ks.length : Int) ≤ z) :
    Calls Tryd.prog 8 #[v, v2, v3, .int .i64 z, .bool back] w (RetV w (.bool true)) := by
  obtain ⟨n, hn⟩ : ∃ n, n = pr (szs ks) := ⟨_, rfl⟩
  have HN := Lib.hid hn
  have HS := Lib.hid hs
  have X := Lib.hid h
  have Y := Lib.hid h2
  have Z := Lib.hid h3
  have T := Lib.hid hT
  have hn1 : 1 ≤ n := by rw [hn]; exact hs.pr1
  have hN1 : 1 ≤ ks.length := by have := hs.len0; rwa [szs_len] at this
  have hN3 : ks.length ≤ 3 := by have := hs.len3; rwa [szs_len] at this
  have C2 := Lib.hid (fun w v v2 h h2 hT => fwd_of (all_ok ks xs false v v2 w h h2 hw hs hx hla hT))
  have C3 := Lib.hid (fun w v v2 h h2 hT => inv_of (all_ok ks xs true v v2 w h h2 hw hs hx hla hT))
  have D2 := Lib.hid (fun w v v2 h h2 => rwhole_ok ks xs false v v2 w h h2 hw hs hx hla)
  have D3 := Lib.hid (fun w v v2 h h2 => rwhole_ok ks xs true v v2 w h h2 hw hs hx hla)
  have C1 := Lib.hid (fun w v v2 h h2 => malong_arg (szs ks) xs z back v v2 w h h2 hw hs hla (by rw [szs_len]; exact hax))
  have C4 := Lib.hid (fun w v v2 v3 h h2 h3 => mcyc_len (szs ks) xs ys v v2 v3 w h h2 h3 hw hs (fun q => hlb q.2))
  obtain ⟨RF, hRF⟩ : ∃ l, l = WL false ks (xs.map toF) := ⟨_, rfl⟩
  obtain ⟨RI, hRI⟩ : ∃ l, l = WL true ks (xs.map toF) := ⟨_, rfl⟩
  obtain ⟨RC, hRC⟩ : ∃ l, l = cysL ks (xs.map toF) (ys.map toF) := ⟨_, rfl⟩
  rw [← hRF] at C2 D2
  rw [← hRI] at C3 D3
  obtain ⟨a, cap, sb, so, rfl, hcap, hm, hsx, hcx⟩ := h.opened
  have LZ := Lib.hid (show (zi (szs ks)).length = ks.length by rw [zi_len, szs_len])
  rw [LZ.out] at hcap hsx hcx X ⊢
  obtain rfl := hsx.resolve_left (by omega)
  obtain ⟨a2, cap2, rfl, hcap2, hm2⟩ := h2.shape
  obtain ⟨a3, cap3, rfl, hcap3, hm3⟩ := h3.shape
  rw [show pk ks = pr (szs ks) from rfl, ← hn] at hla hlb h64
  obtain ⟨p, hp⟩ : ∃ p, p = xs.length := ⟨_, rfl⟩
  obtain ⟨q, hq2⟩ : ∃ p, p = ys.length := ⟨_, rfl⟩
  rw [← hp] at hla hcap2 Y ⊢
  rw [← hq2] at hlb hcap3 Z ⊢
  have d3 : decide ((64 : Int) < (n : Int)) = false := by rw [decide_eq_false_iff_not]; omega
  subst hla
  have q1 : decide ((q : Int) = (p : Int)) = false := by rw [decide_eq_false_iff_not]; omega
  have q2 : ((q : Int) != (p : Int)) = true := by simp; omega
  obtain ⟨N, hN⟩ : ∃ N, N = ks.length := ⟨_, rfl⟩
  rw [← hN] at hN1 hN3 hcap X hax ⊢
  have el : IntKind.i64.wrap ((N : Int) - 1) = (N : Int) - 1 := IntWalk.i64_in _ (by omega)
  clear h h2 h3 hT hn hs hk10 hcx LZ hN hp hq2 hRF hRI hRC
  have B0 := Lib.hid (Below.refl w.heap.size w)
  have hsz0 : w.heap.size ≤ w.heap.size := Nat.le_refl _
  go_enter Tryd.func8, Tryd.ntmps8
  go_wp2_with fail
  refine (rshape_any (zi (szs ks)) _ _ X.out hw).mono ?_
  rintro e w' ⟨he, rfl⟩
  obtain rfl := he.ok HS.out
  rw [← HN.out]
  go_wp2_with fail
  refine (in_no _ _ _ _ (by omega)).mono ?_
  rintro e w' ⟨rfl, rfl⟩
  go_wp2_with fail
  refine (D2.out _ _ _ X.out Y.out).mono ?_
  rintro e w1 ⟨v1, rfl, hown, hbel⟩
  have X_1 := Lib.hid (X.out.below hbel)
  have Y_1 := Lib.hid (Y.out.below hbel)
  have Z_1 := Lib.hid (Z.out.below hbel)
  have T_1 := Lib.hid (T.out.below hbel)
  have r2_1 := Lib.hid (hown.mono hsz0)
  have B1 := Lib.hid (B0.out.trans (hbel.mono hsz0))
  have hsz1 := B1.out.size
  clear X Y Z T hown hbel
  go_wp2_with fail
  refine (D3.out _ _ _ X_1.out Y_1.out).mono ?_
  rintro e w2 ⟨v2, rfl, hown, hbel⟩
  have X_2 := Lib.hid (X_1.out.below hbel)
  have Y_2 := Lib.hid (Y_1.out.below hbel)
  have Z_2 := Lib.hid (Z_1.out.below hbel)
  have T_2 := Lib.hid (T_1.out.below hbel)
  have r2_2 := Lib.hid (r2_1.out.below hbel)
  have r3_2 := Lib.hid (hown.mono hsz1)
  have B2 := Lib.hid (B1.out.trans (hbel.mono hsz1))
  have hsz2 := B2.out.size
  clear X_1 Y_1 Z_1 T_1 r2_1 hown hbel
  go_wp2_with fail
  refine (C1.out _ _ _ X_2.out Y_2.out).mono ?_
  rintro e w3 ⟨v3, rfl, hown, hbel⟩
  have X_3 := Lib.hid (X_2.out.below hbel)
  have Y_3 := Lib.hid (Y_2.out.below hbel)
  have Z_3 := Lib.hid (Z_2.out.below hbel)
  have T_3 := Lib.hid (T_2.out.below hbel)
  have r2_3 := Lib.hid (r2_2.out.below hbel)
  have r3_3 := Lib.hid (r3_2.out.below hbel)
  have p1_3 := Lib.hid (hown.mono hsz2)
  have B3 := Lib.hid (B2.out.trans (hbel.mono hsz2))
  have hsz3 := B3.out.size
  clear X_2 Y_2 Z_2 T_2 r2_2 r3_2 hown hbel
  go_wp2_with fail
  refine (C2.out _ _ _ X_3.out Y_3.out T_3.out).mono ?_
  rintro e w4 ⟨v4, rfl, hown, hbel⟩
  have X_4 := Lib.hid (X_3.out.below hbel)
  have Y_4 := Lib.hid (Y_3.out.below hbel)
  have Z_4 := Lib.hid (Z_3.out.below hbel)
  have T_4 := Lib.hid (T_3.out.below hbel)
  have r2_4 := Lib.hid (r2_3.out.below hbel)
  have r3_4 := Lib.hid (r3_3.out.below hbel)
  have p1_4 := Lib.hid (p1_3.out.below hbel)
  have p2_4 := Lib.hid (hown.mono hsz3)
  have B4 := Lib.hid (B3.out.trans (hbel.mono hsz3))
  have hsz4 := B4.out.size
  clear X_3 Y_3 Z_3 T_3 r2_3 r3_3 p1_3 hown hbel
  go_wp2_with fail
  refine (C3.out _ _ _ X_4.out Y_4.out T_4.out).mono ?_
  rintro e w5 ⟨v5, rfl, hown, hbel⟩
  have X_5 := Lib.hid (X_4.out.below hbel)
  have Y_5 := Lib.hid (Y_4.out.below hbel)
  have Z_5 := Lib.hid (Z_4.out.below hbel)
  have T_5 := Lib.hid (T_4.out.below hbel)
  have r2_5 := Lib.hid (r2_4.out.below hbel)
  have r3_5 := Lib.hid (r3_4.out.below hbel)
  have p1_5 := Lib.hid (p1_4.out.below hbel)
  have p2_5 := Lib.hid (p2_4.out.below hbel)
  have p3_5 := Lib.hid (hown.mono hsz4)
  have B5 := Lib.hid (B4.out.trans (hbel.mono hsz4))
  have hsz5 := B5.out.size
  clear X_4 Y_4 Z_4 T_4 r2_4 r3_4 p1_4 p2_4 hown hbel
  go_wp2_with fail
  refine (C4.out _ _ _ _ X_5.out Y_5.out Z_5.out).mono ?_
  rintro e w6 ⟨v6, rfl, hown, hbel⟩
  have X_6 := Lib.hid (X_5.out.below hbel)
  have Y_6 := Lib.hid (Y_5.out.below hbel)
  have Z_6 := Lib.hid (Z_5.out.below hbel)
  have T_6 := Lib.hid (T_5.out.below hbel)
  have r2_6 := Lib.hid (r2_5.out.below hbel)
  have r3_6 := Lib.hid (r3_5.out.below hbel)
  have p1_6 := Lib.hid (p1_5.out.below hbel)
  have p2_6 := Lib.hid (p2_5.out.below hbel)
  have p3_6 := Lib.hid (p3_5.out.below hbel)
  have p4_6 := Lib.hid (hown.mono hsz5)
  have B6 := Lib.hid (B5.out.trans (hbel.mono hsz5))
  have hsz6 := B6.out.size
  clear X_5 Y_5 Z_5 T_5 r2_5 r3_5 p1_5 p2_5 p3_5 hown hbel
  go_wp2_with fail
  refine (equal_yes [] _ _ _ (p1_6.out.rd) (Rd.nil _ _)).mono ?_
  rintro e w7 ⟨rfl, hbel⟩
  have X_7 := Lib.hid (X_6.out.below hbel)
  have Y_7 := Lib.hid (Y_6.out.below hbel)
  have Z_7 := Lib.hid (Z_6.out.below hbel)
  have T_7 := Lib.hid (T_6.out.below hbel)
  have r2_7 := Lib.hid (r2_6.out.below hbel)
  have r3_7 := Lib.hid (r3_6.out.below hbel)
  have p1_7 := Lib.hid (p1_6.out.below hbel)
  have p2_7 := Lib.hid (p2_6.out.below hbel)
  have p3_7 := Lib.hid (p3_6.out.below hbel)
  have p4_7 := Lib.hid (p4_6.out.below hbel)
  have B7 := Lib.hid (B6.out.trans (hbel.mono hsz6))
  have hsz7 := B7.out.size
  clear X_6 Y_6 Z_6 T_6 r2_6 r3_6 p1_6 p2_6 p3_6 p4_6 hbel
  go_wp2_with fail
  refine (equal_yes (RF.map vl) _ _ _ (Rd.ofow p2_7.out) (Rd.ofow r2_7.out)).mono ?_
  rintro e w8 ⟨rfl, hbel⟩
  have X_8 := Lib.hid (X_7.out.below hbel)
  have Y_8 := Lib.hid (Y_7.out.below hbel)
  have Z_8 := Lib.hid (Z_7.out.below hbel)
  have T_8 := Lib.hid (T_7.out.below hbel)
  have r2_8 := Lib.hid (r2_7.out.below hbel)
  have r3_8 := Lib.hid (r3_7.out.below hbel)
  have p1_8 := Lib.hid (p1_7.out.below hbel)
  have p2_8 := Lib.hid (p2_7.out.below hbel)
  have p3_8 := Lib.hid (p3_7.out.below hbel)
  have p4_8 := Lib.hid (p4_7.out.below hbel)
  have B8 := Lib.hid (B7.out.trans (hbel.mono hsz7))
  have hsz8 := B8.out.size
  clear X_7 Y_7 Z_7 T_7 r2_7 r3_7 p1_7 p2_7 p3_7 p4_7 hbel
  go_wp2_with fail
  refine (equal_yes (RI.map vl) _ _ _ (Rd.ofow p3_8.out) (Rd.ofow r3_8.out)).mono ?_
  rintro e w9 ⟨rfl, hbel⟩
  have X_9 := Lib.hid (X_8.out.below hbel)
  have Y_9 := Lib.hid (Y_8.out.below hbel)
  have Z_9 := Lib.hid (Z_8.out.below hbel)
  have T_9 := Lib.hid (T_8.out.below hbel)
  have r2_9 := Lib.hid (r2_8.out.below hbel)
  have r3_9 := Lib.hid (r3_8.out.below hbel)
  have p1_9 := Lib.hid (p1_8.out.below hbel)
  have p2_9 := Lib.hid (p2_8.out.below hbel)
  have p3_9 := Lib.hid (p3_8.out.below hbel)
  have p4_9 := Lib.hid (p4_8.out.below hbel)
  have B9 := Lib.hid (B8.out.trans (hbel.mono hsz8))
  have hsz9 := B9.out.size
  clear X_8 Y_8 Z_8 T_8 r2_8 r3_8 p1_8 p2_8 p3_8 p4_8 hbel
  go_wp2_with fail
  refine (equal_yes ([].map vl) _ _ _ (Rd.ofow p4_9.out) (Rd.nil _ _)).mono ?_
  rintro e w10 ⟨rfl, hbel⟩
  have X_10 := Lib.hid (X_9.out.below hbel)
  have Y_10 := Lib.hid (Y_9.out.below hbel)
  have Z_10 := Lib.hid (Z_9.out.below hbel)
  have T_10 := Lib.hid (T_9.out.below hbel)
  have r2_10 := Lib.hid (r2_9.out.below hbel)
  have r3_10 := Lib.hid (r3_9.out.below hbel)
  have p1_10 := Lib.hid (p1_9.out.below hbel)
  have p2_10 := Lib.hid (p2_9.out.below hbel)
  have p3_10 := Lib.hid (p3_9.out.below hbel)
  have p4_10 := Lib.hid (p4_9.out.below hbel)
  have B10 := Lib.hid (B9.out.trans (hbel.mono hsz9))
  have hsz10 := B10.out.size
  clear X_9 Y_9 Z_9 T_9 r2_9 r3_9 p1_9 p2_9 p3_9 p4_9 hbel
  go_wp2
  go_ret
  exact ⟨rfl, B10.out⟩
set_option maxHeartbeats 8000000 in
set_option maxRecDepth 100000 in
theorem mt_aob (ks : List Nat) (xs ys : List Int) (z : Int) (back : Bool) (v v2 v3 : Value) (w : World) (h : Rd .i64 w v (zi (szs ks))) (h2 : Rd .u64 w v2 xs) (h3 : Rd .u64 w v3 ys) (hw : W64 (zi (szs ks))) (hs : Shp (szs ks)) (hk10 : ∀ k ∈ ks, k ≤ 10) (hx : B64 xs) (hy : B64 ys) (hT : Tb w) (h64 : pk ks ≤ 64) (hla : xs.length = pk ks) (hlb : ys.length = pk ks) (hax : z < 0 ∨ (ks.length : Int) ≤ z) :
    Calls Tryd.prog 8 #[v, v2, v3, .int .i64 z, .bool back] w (RetV w (.bool true)) := by
  obtain ⟨n, hn⟩ : ∃ n, n = pr (szs ks) := ⟨_, rfl⟩
  have HN := Lib.hid hn
  have HS := Lib.hid hs
  have X := Lib.hid h
  have Y := Lib.hid h2
  have Z := Lib.hid h3
  have T := Lib.hid hT
  have hn1 : 1 ≤ n := by rw [hn]; exact hs.pr1
  have hN1 : 1 ≤ ks.length := by have := hs.len0; rwa [szs_len] at this
  have hN3 : ks.length ≤ 3 := by have := hs.len3; rwa [szs_len] at this
  have C2 := Lib.hid (fun w v v2 h h2 hT => fwd_of (all_ok ks xs false v v2 w h h2 hw hs hx hla hT))
  have C3 := Lib.hid (fun w v v2 h h2 hT => inv_of (all_ok ks xs true v v2 w h h2 hw hs hx hla hT))
  have D2 := Lib.hid (fun w v v2 h h2 => rwhole_ok ks xs false v v2 w h h2 hw hs hx hla)
  have D3 := Lib.hid (fun w v v2 h h2 => rwhole_ok ks xs true v v2 w h h2 hw hs hx hla)
  have C1 := Lib.hid (fun w v v2 h h2 => malong_arg (szs ks) xs z back v v2 w h h2 hw hs hla (by rw [szs_len]; exact hax))
  have C4 := Lib.hid (fun w v v2 v3 h h2 h3 hT => mcyc_ok ks xs ys v v2 v3 w h h2 h3 hw hs hk10 hx hy hla hlb hT)
  have D4 := Lib.hid (fun w v v2 v3 h h2 h3 => rwrapped_ok ks xs ys v v2 v3 w h h2 h3 hs hx hy hla hlb)
  obtain ⟨RF, hRF⟩ : ∃ l, l = WL false ks (xs.map toF) := ⟨_, rfl⟩
  obtain ⟨RI, hRI⟩ : ∃ l, l = WL true ks (xs.map toF) := ⟨_, rfl⟩
  obtain ⟨RC, hRC⟩ : ∃ l, l = cysL ks (xs.map toF) (ys.map toF) := ⟨_, rfl⟩
  rw [← hRF] at C2 D2
  rw [← hRI] at C3 D3
  rw [← hRC] at C4 D4
  obtain ⟨a, cap, sb, so, rfl, hcap, hm, hsx, hcx⟩ := h.opened
  have LZ := Lib.hid (show (zi (szs ks)).length = ks.length by rw [zi_len, szs_len])
  rw [LZ.out] at hcap hsx hcx X ⊢
  obtain rfl := hsx.resolve_left (by omega)
  obtain ⟨a2, cap2, rfl, hcap2, hm2⟩ := h2.shape
  obtain ⟨a3, cap3, rfl, hcap3, hm3⟩ := h3.shape
  rw [show pk ks = pr (szs ks) from rfl, ← hn] at hla hlb h64
  obtain ⟨p, hp⟩ : ∃ p, p = xs.length := ⟨_, rfl⟩
  obtain ⟨q, hq2⟩ : ∃ p, p = ys.length := ⟨_, rfl⟩
  rw [← hp] at hla hcap2 Y ⊢
  rw [← hq2] at hlb hcap3 Z ⊢
  have d3 : decide ((64 : Int) < (n : Int)) = false := by rw [decide_eq_false_iff_not]; omega
  subst hla
  subst hlb
  obtain ⟨N, hN⟩ : ∃ N, N = ks.length := ⟨_, rfl⟩
  rw [← hN] at hN1 hN3 hcap X hax ⊢
  have el : IntKind.i64.wrap ((N : Int) - 1) = (N : Int) - 1 := IntWalk.i64_in _ (by omega)
  clear h h2 h3 hT hn hs hk10 hcx LZ hN hp hq2 hRF hRI hRC
  have B0 := Lib.hid (Below.refl w.heap.size w)
  have hsz0 : w.heap.size ≤ w.heap.size := Nat.le_refl _
  go_enter Tryd.func8, Tryd.ntmps8
  go_wp2_with fail
  refine (rshape_any (zi (szs ks)) _ _ X.out hw).mono ?_
  rintro e w' ⟨he, rfl⟩
  obtain rfl := he.ok HS.out
  rw [← HN.out]
  go_wp2_with fail
  refine (in_no _ _ _ _ (by omega)).mono ?_
  rintro e w' ⟨rfl, rfl⟩
  go_wp2_with fail
  refine (D2.out _ _ _ X.out Y.out).mono ?_
  rintro e w1 ⟨v1, rfl, hown, hbel⟩
  have X_1 := Lib.hid (X.out.below hbel)
  have Y_1 := Lib.hid (Y.out.below hbel)
  have Z_1 := Lib.hid (Z.out.below hbel)
  have T_1 := Lib.hid (T.out.below hbel)
  have r2_1 := Lib.hid (hown.mono hsz0)
  have B1 := Lib.hid (B0.out.trans (hbel.mono hsz0))
  have hsz1 := B1.out.size
  clear X Y Z T hown hbel
  go_wp2_with fail
  refine (D3.out _ _ _ X_1.out Y_1.out).mono ?_
  rintro e w2 ⟨v2, rfl, hown, hbel⟩
  have X_2 := Lib.hid (X_1.out.below hbel)
  have Y_2 := Lib.hid (Y_1.out.below hbel)
  have Z_2 := Lib.hid (Z_1.out.below hbel)
  have T_2 := Lib.hid (T_1.out.below hbel)
  have r2_2 := Lib.hid (r2_1.out.below hbel)
  have r3_2 := Lib.hid (hown.mono hsz1)
  have B2 := Lib.hid (B1.out.trans (hbel.mono hsz1))
  have hsz2 := B2.out.size
  clear X_1 Y_1 Z_1 T_1 r2_1 hown hbel
  go_wp2_with fail
  refine (D4.out _ _ _ _ X_2.out Y_2.out Z_2.out).mono ?_
  rintro e w3 ⟨v3, rfl, hown, hbel⟩
  have X_3 := Lib.hid (X_2.out.below hbel)
  have Y_3 := Lib.hid (Y_2.out.below hbel)
  have Z_3 := Lib.hid (Z_2.out.below hbel)
  have T_3 := Lib.hid (T_2.out.below hbel)
  have r2_3 := Lib.hid (r2_2.out.below hbel)
  have r3_3 := Lib.hid (r3_2.out.below hbel)
  have r4_3 := Lib.hid (hown.mono hsz2)
  have B3 := Lib.hid (B2.out.trans (hbel.mono hsz2))
  have hsz3 := B3.out.size
  clear X_2 Y_2 Z_2 T_2 r2_2 r3_2 hown hbel
  go_wp2_with fail
  refine (C1.out _ _ _ X_3.out Y_3.out).mono ?_
  rintro e w4 ⟨v4, rfl, hown, hbel⟩
  have X_4 := Lib.hid (X_3.out.below hbel)
  have Y_4 := Lib.hid (Y_3.out.below hbel)
  have Z_4 := Lib.hid (Z_3.out.below hbel)
  have T_4 := Lib.hid (T_3.out.below hbel)
  have r2_4 := Lib.hid (r2_3.out.below hbel)
  have r3_4 := Lib.hid (r3_3.out.below hbel)
  have r4_4 := Lib.hid (r4_3.out.below hbel)
  have p1_4 := Lib.hid (hown.mono hsz3)
  have B4 := Lib.hid (B3.out.trans (hbel.mono hsz3))
  have hsz4 := B4.out.size
  clear X_3 Y_3 Z_3 T_3 r2_3 r3_3 r4_3 hown hbel
  go_wp2_with fail
  refine (C2.out _ _ _ X_4.out Y_4.out T_4.out).mono ?_
  rintro e w5 ⟨v5, rfl, hown, hbel⟩
  have X_5 := Lib.hid (X_4.out.below hbel)
  have Y_5 := Lib.hid (Y_4.out.below hbel)
  have Z_5 := Lib.hid (Z_4.out.below hbel)
  have T_5 := Lib.hid (T_4.out.below hbel)
  have r2_5 := Lib.hid (r2_4.out.below hbel)
  have r3_5 := Lib.hid (r3_4.out.below hbel)
  have r4_5 := Lib.hid (r4_4.out.below hbel)
  have p1_5 := Lib.hid (p1_4.out.below hbel)
  have p2_5 := Lib.hid (hown.mono hsz4)
  have B5 := Lib.hid (B4.out.trans (hbel.mono hsz4))
  have hsz5 := B5.out.size
  clear X_4 Y_4 Z_4 T_4 r2_4 r3_4 r4_4 p1_4 hown hbel
  go_wp2_with fail
  refine (C3.out _ _ _ X_5.out Y_5.out T_5.out).mono ?_
  rintro e w6 ⟨v6, rfl, hown, hbel⟩
  have X_6 := Lib.hid (X_5.out.below hbel)
  have Y_6 := Lib.hid (Y_5.out.below hbel)
  have Z_6 := Lib.hid (Z_5.out.below hbel)
  have T_6 := Lib.hid (T_5.out.below hbel)
  have r2_6 := Lib.hid (r2_5.out.below hbel)
  have r3_6 := Lib.hid (r3_5.out.below hbel)
  have r4_6 := Lib.hid (r4_5.out.below hbel)
  have p1_6 := Lib.hid (p1_5.out.below hbel)
  have p2_6 := Lib.hid (p2_5.out.below hbel)
  have p3_6 := Lib.hid (hown.mono hsz5)
  have B6 := Lib.hid (B5.out.trans (hbel.mono hsz5))
  have hsz6 := B6.out.size
  clear X_5 Y_5 Z_5 T_5 r2_5 r3_5 r4_5 p1_5 p2_5 hown hbel
  go_wp2_with fail
  refine (C4.out _ _ _ _ X_6.out Y_6.out Z_6.out T_6.out).mono ?_
  rintro e w7 ⟨v7, rfl, hown, hbel⟩
  have X_7 := Lib.hid (X_6.out.below hbel)
  have Y_7 := Lib.hid (Y_6.out.below hbel)
  have Z_7 := Lib.hid (Z_6.out.below hbel)
  have T_7 := Lib.hid (T_6.out.below hbel)
  have r2_7 := Lib.hid (r2_6.out.below hbel)
  have r3_7 := Lib.hid (r3_6.out.below hbel)
  have r4_7 := Lib.hid (r4_6.out.below hbel)
  have p1_7 := Lib.hid (p1_6.out.below hbel)
  have p2_7 := Lib.hid (p2_6.out.below hbel)
  have p3_7 := Lib.hid (p3_6.out.below hbel)
  have p4_7 := Lib.hid (hown.mono hsz6)
  have B7 := Lib.hid (B6.out.trans (hbel.mono hsz6))
  have hsz7 := B7.out.size
  clear X_6 Y_6 Z_6 T_6 r2_6 r3_6 r4_6 p1_6 p2_6 p3_6 hown hbel
  go_wp2_with fail
  refine (equal_yes [] _ _ _ (p1_7.out.rd) (Rd.nil _ _)).mono ?_
  rintro e w8 ⟨rfl, hbel⟩
  have X_8 := Lib.hid (X_7.out.below hbel)
  have Y_8 := Lib.hid (Y_7.out.below hbel)
  have Z_8 := Lib.hid (Z_7.out.below hbel)
  have T_8 := Lib.hid (T_7.out.below hbel)
  have r2_8 := Lib.hid (r2_7.out.below hbel)
  have r3_8 := Lib.hid (r3_7.out.below hbel)
  have r4_8 := Lib.hid (r4_7.out.below hbel)
  have p1_8 := Lib.hid (p1_7.out.below hbel)
  have p2_8 := Lib.hid (p2_7.out.below hbel)
  have p3_8 := Lib.hid (p3_7.out.below hbel)
  have p4_8 := Lib.hid (p4_7.out.below hbel)
  have B8 := Lib.hid (B7.out.trans (hbel.mono hsz7))
  have hsz8 := B8.out.size
  clear X_7 Y_7 Z_7 T_7 r2_7 r3_7 r4_7 p1_7 p2_7 p3_7 p4_7 hbel
  go_wp2_with fail
  refine (equal_yes (RF.map vl) _ _ _ (Rd.ofow p2_8.out) (Rd.ofow r2_8.out)).mono ?_
  rintro e w9 ⟨rfl, hbel⟩
  have X_9 := Lib.hid (X_8.out.below hbel)
  have Y_9 := Lib.hid (Y_8.out.below hbel)
  have Z_9 := Lib.hid (Z_8.out.below hbel)
  have T_9 := Lib.hid (T_8.out.below hbel)
  have r2_9 := Lib.hid (r2_8.out.below hbel)
  have r3_9 := Lib.hid (r3_8.out.below hbel)
  have r4_9 := Lib.hid (r4_8.out.below hbel)
  have p1_9 := Lib.hid (p1_8.out.below hbel)
  have p2_9 := Lib.hid (p2_8.out.below hbel)
  have p3_9 := Lib.hid (p3_8.out.below hbel)
  have p4_9 := Lib.hid (p4_8.out.below hbel)
  have B9 := Lib.hid (B8.out.trans (hbel.mono hsz8))
  have hsz9 := B9.out.size
  clear X_8 Y_8 Z_8 T_8 r2_8 r3_8 r4_8 p1_8 p2_8 p3_8 p4_8 hbel
  go_wp2_with fail
  refine (equal_yes (RI.map vl) _ _ _ (Rd.ofow p3_9.out) (Rd.ofow r3_9.out)).mono ?_
  rintro e w10 ⟨rfl, hbel⟩
  have X_10 := Lib.hid (X_9.out.below hbel)
  have Y_10 := Lib.hid (Y_9.out.below hbel)
  have Z_10 := Lib.hid (Z_9.out.below hbel)
  have T_10 := Lib.hid (T_9.out.below hbel)
  have r2_10 := Lib.hid (r2_9.out.below hbel)
  have r3_10 := Lib.hid (r3_9.out.below hbel)
  have r4_10 := Lib.hid (r4_9.out.below hbel)
  have p1_10 := Lib.hid (p1_9.out.below hbel)
  have p2_10 := Lib.hid (p2_9.out.below hbel)
  have p3_10 := Lib.hid (p3_9.out.below hbel)
  have p4_10 := Lib.hid (p4_9.out.below hbel)
  have B10 := Lib.hid (B9.out.trans (hbel.mono hsz9))
  have hsz10 := B10.out.size
  clear X_9 Y_9 Z_9 T_9 r2_9 r3_9 r4_9 p1_9 p2_9 p3_9 p4_9 hbel
  go_wp2_with fail
  refine (equal_yes (RC.map vl) _ _ _ (Rd.ofow p4_10.out) (Rd.ofow r4_10.out)).mono ?_
  rintro e w11 ⟨rfl, hbel⟩
  have X_11 := Lib.hid (X_10.out.below hbel)
  have Y_11 := Lib.hid (Y_10.out.below hbel)
  have Z_11 := Lib.hid (Z_10.out.below hbel)
  have T_11 := Lib.hid (T_10.out.below hbel)
  have r2_11 := Lib.hid (r2_10.out.below hbel)
  have r3_11 := Lib.hid (r3_10.out.below hbel)
  have r4_11 := Lib.hid (r4_10.out.below hbel)
  have p1_11 := Lib.hid (p1_10.out.below hbel)
  have p2_11 := Lib.hid (p2_10.out.below hbel)
  have p3_11 := Lib.hid (p3_10.out.below hbel)
  have p4_11 := Lib.hid (p4_10.out.below hbel)
  have B11 := Lib.hid (B10.out.trans (hbel.mono hsz10))
  have hsz11 := B11.out.size
  clear X_10 Y_10 Z_10 T_10 r2_10 r3_10 r4_10 p1_10 p2_10 p3_10 p4_10 hbel
  go_wp2
  go_ret
  exact ⟨rfl, B11.out⟩
set_option maxHeartbeats 8000000 in
set_option maxRecDepth 100000 in
theorem mt_aix (ks : List Nat) (xs ys : List Int) (z : Int) (back : Bool) (v v2 v3 : Value) (w : World) (h : Rd .i64 w v (zi (szs ks))) (h2 : Rd .u64 w v2 xs) (h3 : Rd .u64 w v3 ys) (hw : W64 (zi (szs ks))) (hs : Shp (szs ks)) (hk10 : ∀ k ∈ ks, k ≤ 10) (hx : B64 xs) (hy : B64 ys) (hT : Tb w) (h64 : pk ks ≤ 64) (hla : xs.length = pk ks) (hlb : ys.length ≠ pk ks) (hax : 0 ≤ z ∧ z < (ks.length : Int)) :
    Calls Tryd.prog 8 #[v, v2, v3, .int .i64 z, .bool back] w (RetV w (.bool true)) := by
  obtain ⟨n, hn⟩ : ∃ n, n = pr (szs ks) := ⟨_, rfl⟩
  have HN := Lib.hid hn
  have HS := Lib.hid hs
  have X := Lib.hid h
  have Y := Lib.hid h2
  have Z := Lib.hid h3
  have T := Lib.hid hT
  have hn1 : 1 ≤ n := by rw [hn]; exact hs.pr1
  have hN1 : 1 ≤ ks.length := by have := hs.len0; rwa [szs_len] at this
  have hN3 : ks.length ≤ 3 := by have := hs.len3; rwa [szs_len] at this
  have C2 := Lib.hid (fun w v v2 h h2 hT => fwd_of (all_ok ks xs false v v2 w h h2 hw hs hx hla hT))
  have C3 := Lib.hid (fun w v v2 h h2 hT => inv_of (all_ok ks xs true v v2 w h h2 hw hs hx hla hT))
  have D2 := Lib.hid (fun w v v2 h h2 => rwhole_ok ks xs false v v2 w h h2 hw hs hx hla)
  have D3 := Lib.hid (fun w v v2 h h2 => rwhole_ok ks xs true v v2 w h h2 hw hs hx hla)
  obtain ⟨x, rfl⟩ : ∃ x : Nat, z = (x : Int) := ⟨z.toNat, by omega⟩
  have hxl : x < ks.length := by omega
  have hxl2 : x < (szs ks).length := by rw [szs_len]; exact hxl
  have hkx := nd_szs ks hxl
  have hq : n / nd (szs ks) x = pr ((szs ks).take x) * under (szs ks) x := by
    rw [hn, shp_split hxl2 hkx, hkx, Nat.mul_left_comm]
    exact Nat.mul_div_cancel_left _ (Nat.two_pow_pos _)
  have C1 := Lib.hid (fun w v v2 h h2 hT => malong_ok (szs ks) xs x (nd ks x) back v v2 (x : Int) w h h2 hw hs hx hla hxl2 hkx hT rfl)
  have D1 := Lib.hid (fun w v v2 h h2 => rturned_any (szs ks) xs x (nd ks x) 0 _ (x : Int) 0 ((n / nd (szs ks) x : Nat) : Int) back v v2 w h h2 hs hw hx hla hxl2 hkx (Nat.zero_le _) (Nat.le_refl _) rfl rfl (by rw [hq]))
  obtain ⟨RA, hRA⟩ : ∃ l, l = tz back (under (szs ks) x) (nd ks x) (pr (szs ks)) 0 (pr ((szs ks).take x) * under (szs ks) x) xs := ⟨_, rfl⟩
  rw [← hRA] at C1 D1
  have hd1 : 1 ≤ nd (szs ks) x := hs.pos _ (nd_mem hxl2)
  have C4 := Lib.hid (fun w v v2 v3 h h2 h3 => mcyc_len (szs ks) xs ys v v2 v3 w h h2 h3 hw hs (fun q => hlb q.2))
  obtain ⟨RF, hRF⟩ : ∃ l, l = WL false ks (xs.map toF) := ⟨_, rfl⟩
  obtain ⟨RI, hRI⟩ : ∃ l, l = WL true ks (xs.map toF) := ⟨_, rfl⟩
  obtain ⟨RC, hRC⟩ : ∃ l, l = cysL ks (xs.map toF) (ys.map toF) := ⟨_, rfl⟩
  rw [← hRF] at C2 D2
  rw [← hRI] at C3 D3
  obtain ⟨a, cap, sb, so, rfl, hcap, hm, hsx, hcx⟩ := h.opened
  have LZ := Lib.hid (show (zi (szs ks)).length = ks.length by rw [zi_len, szs_len])
  rw [LZ.out] at hcap hsx hcx X ⊢
  obtain rfl := hsx.resolve_left (by omega)
  have c3 : w.cell? ⟨sb, so + x, none⟩ = some (.int .i64 (nd (szs ks) x)) := by rw [hcx x hxl, gd_zi]
  obtain ⟨a2, cap2, rfl, hcap2, hm2⟩ := h2.shape
  obtain ⟨a3, cap3, rfl, hcap3, hm3⟩ := h3.shape
  rw [show pk ks = pr (szs ks) from rfl, ← hn] at hla hlb h64
  obtain ⟨p, hp⟩ : ∃ p, p = xs.length := ⟨_, rfl⟩
  obtain ⟨q, hq2⟩ : ∃ p, p = ys.length := ⟨_, rfl⟩
  rw [← hp] at hla hcap2 Y ⊢
  rw [← hq2] at hlb hcap3 Z ⊢
  have d3 : decide ((64 : Int) < (n : Int)) = false := by rw [decide_eq_false_iff_not]; omega
  subst hla
  have q1 : decide ((q : Int) = (p : Int)) = false := by rw [decide_eq_false_iff_not]; omega
  have q2 : ((q : Int) != (p : Int)) = true := by simp; omega
  obtain ⟨N, hN⟩ : ∃ N, N = ks.length := ⟨_, rfl⟩
  rw [← hN] at hN1 hN3 hcap X hxl ⊢
  have el : IntKind.i64.wrap ((N : Int) - 1) = (N : Int) - 1 := IntWalk.i64_in _ (by omega)
  clear h h2 h3 hT hn hs hk10 hcx LZ hN hp hq2 hRF hRI hRC hRA hq hkx hxl2 hax
  generalize nd (szs ks) x = d at *
  have hd0 : ¬ d = 0 := by omega
  have hqle := Nat.div_le_self p d
  have e1 := nat_quo p d
  have e2 : IntKind.i64.wrap ((p / d : Nat) : Int) = ((p / d : Nat) : Int) := wrap_nat (by omega)
  generalize p / d = M at *
  have B0 := Lib.hid (Below.refl w.heap.size w)
  have hsz0 : w.heap.size ≤ w.heap.size := Nat.le_refl _
  go_enter Tryd.func8, Tryd.ntmps8
  go_wp2_with fail
  refine (rshape_any (zi (szs ks)) _ _ X.out hw).mono ?_
  rintro e w' ⟨he, rfl⟩
  obtain rfl := he.ok HS.out
  rw [← HN.out]
  go_wp2_with fail
  refine (in_yes _ _ _ _ (by omega) (by omega)).mono ?_
  rintro e w' ⟨rfl, rfl⟩
  go_wp2_with fail
  refine (D1.out _ _ _ X.out Y.out).mono ?_
  rintro e w1 ⟨v1, rfl, hown, hbel⟩
  have X_1 := Lib.hid (X.out.below hbel)
  have Y_1 := Lib.hid (Y.out.below hbel)
  have Z_1 := Lib.hid (Z.out.below hbel)
  have T_1 := Lib.hid (T.out.below hbel)
  have r1_1 := Lib.hid (hown.mono hsz0)
  have B1 := Lib.hid (B0.out.trans (hbel.mono hsz0))
  have hsz1 := B1.out.size
  clear X Y Z T hown hbel
  go_wp2_with fail
  refine (D2.out _ _ _ X_1.out Y_1.out).mono ?_
  rintro e w2 ⟨v2, rfl, hown, hbel⟩
  have X_2 := Lib.hid (X_1.out.below hbel)
  have Y_2 := Lib.hid (Y_1.out.below hbel)
  have Z_2 := Lib.hid (Z_1.out.below hbel)
  have T_2 := Lib.hid (T_1.out.below hbel)
  have r1_2 := Lib.hid (r1_1.out.below hbel)
  have r2_2 := Lib.hid (hown.mono hsz1)
  have B2 := Lib.hid (B1.out.trans (hbel.mono hsz1))
  have hsz2 := B2.out.size
  clear X_1 Y_1 Z_1 T_1 r1_1 hown hbel
  go_wp2_with fail
  refine (D3.out _ _ _ X_2.out Y_2.out).mono ?_
  rintro e w3 ⟨v3, rfl, hown, hbel⟩
  have X_3 := Lib.hid (X_2.out.below hbel)
  have Y_3 := Lib.hid (Y_2.out.below hbel)
  have Z_3 := Lib.hid (Z_2.out.below hbel)
  have T_3 := Lib.hid (T_2.out.below hbel)
  have r1_3 := Lib.hid (r1_2.out.below hbel)
  have r2_3 := Lib.hid (r2_2.out.below hbel)
  have r3_3 := Lib.hid (hown.mono hsz2)
  have B3 := Lib.hid (B2.out.trans (hbel.mono hsz2))
  have hsz3 := B3.out.size
  clear X_2 Y_2 Z_2 T_2 r1_2 r2_2 hown hbel
  go_wp2_with fail
  refine (C1.out _ _ _ X_3.out Y_3.out T_3.out).mono ?_
  rintro e w4 ⟨v4, rfl, hown, hbel⟩
  have X_4 := Lib.hid (X_3.out.below hbel)
  have Y_4 := Lib.hid (Y_3.out.below hbel)
  have Z_4 := Lib.hid (Z_3.out.below hbel)
  have T_4 := Lib.hid (T_3.out.below hbel)
  have r1_4 := Lib.hid (r1_3.out.below hbel)
  have r2_4 := Lib.hid (r2_3.out.below hbel)
  have r3_4 := Lib.hid (r3_3.out.below hbel)
  have p1_4 := Lib.hid (hown.mono hsz3)
  have B4 := Lib.hid (B3.out.trans (hbel.mono hsz3))
  have hsz4 := B4.out.size
  clear X_3 Y_3 Z_3 T_3 r1_3 r2_3 r3_3 hown hbel
  go_wp2_with fail
  refine (C2.out _ _ _ X_4.out Y_4.out T_4.out).mono ?_
  rintro e w5 ⟨v5, rfl, hown, hbel⟩
  have X_5 := Lib.hid (X_4.out.below hbel)
  have Y_5 := Lib.hid (Y_4.out.below hbel)
  have Z_5 := Lib.hid (Z_4.out.below hbel)
  have T_5 := Lib.hid (T_4.out.below hbel)
  have r1_5 := Lib.hid (r1_4.out.below hbel)
  have r2_5 := Lib.hid (r2_4.out.below hbel)
  have r3_5 := Lib.hid (r3_4.out.below hbel)
  have p1_5 := Lib.hid (p1_4.out.below hbel)
  have p2_5 := Lib.hid (hown.mono hsz4)
  have B5 := Lib.hid (B4.out.trans (hbel.mono hsz4))
  have hsz5 := B5.out.size
  clear X_4 Y_4 Z_4 T_4 r1_4 r2_4 r3_4 p1_4 hown hbel
  go_wp2_with fail
  refine (C3.out _ _ _ X_5.out Y_5.out T_5.out).mono ?_
  rintro e w6 ⟨v6, rfl, hown, hbel⟩
  have X_6 := Lib.hid (X_5.out.below hbel)
  have Y_6 := Lib.hid (Y_5.out.below hbel)
  have Z_6 := Lib.hid (Z_5.out.below hbel)
  have T_6 := Lib.hid (T_5.out.below hbel)
  have r1_6 := Lib.hid (r1_5.out.below hbel)
  have r2_6 := Lib.hid (r2_5.out.below hbel)
  have r3_6 := Lib.hid (r3_5.out.below hbel)
  have p1_6 := Lib.hid (p1_5.out.below hbel)
  have p2_6 := Lib.hid (p2_5.out.below hbel)
  have p3_6 := Lib.hid (hown.mono hsz5)
  have B6 := Lib.hid (B5.out.trans (hbel.mono hsz5))
  have hsz6 := B6.out.size
  clear X_5 Y_5 Z_5 T_5 r1_5 r2_5 r3_5 p1_5 p2_5 hown hbel
  go_wp2_with fail
  refine (C4.out _ _ _ _ X_6.out Y_6.out Z_6.out).mono ?_
  rintro e w7 ⟨v7, rfl, hown, hbel⟩
  have X_7 := Lib.hid (X_6.out.below hbel)
  have Y_7 := Lib.hid (Y_6.out.below hbel)
  have Z_7 := Lib.hid (Z_6.out.below hbel)
  have T_7 := Lib.hid (T_6.out.below hbel)
  have r1_7 := Lib.hid (r1_6.out.below hbel)
  have r2_7 := Lib.hid (r2_6.out.below hbel)
  have r3_7 := Lib.hid (r3_6.out.below hbel)
  have p1_7 := Lib.hid (p1_6.out.below hbel)
  have p2_7 := Lib.hid (p2_6.out.below hbel)
  have p3_7 := Lib.hid (p3_6.out.below hbel)
  have p4_7 := Lib.hid (hown.mono hsz6)
  have B7 := Lib.hid (B6.out.trans (hbel.mono hsz6))
  have hsz7 := B7.out.size
  clear X_6 Y_6 Z_6 T_6 r1_6 r2_6 r3_6 p1_6 p2_6 p3_6 hown hbel
  go_wp2_with fail
  refine (equal_yes RA _ _ _ (p1_7.out.rd) (r1_7.out.rd)).mono ?_
  rintro e w8 ⟨rfl, hbel⟩
  have X_8 := Lib.hid (X_7.out.below hbel)
  have Y_8 := Lib.hid (Y_7.out.below hbel)
  have Z_8 := Lib.hid (Z_7.out.below hbel)
  have T_8 := Lib.hid (T_7.out.below hbel)
  have r1_8 := Lib.hid (r1_7.out.below hbel)
  have r2_8 := Lib.hid (r2_7.out.below hbel)
  have r3_8 := Lib.hid (r3_7.out.below hbel)
  have p1_8 := Lib.hid (p1_7.out.below hbel)
  have p2_8 := Lib.hid (p2_7.out.below hbel)
  have p3_8 := Lib.hid (p3_7.out.below hbel)
  have p4_8 := Lib.hid (p4_7.out.below hbel)
  have B8 := Lib.hid (B7.out.trans (hbel.mono hsz7))
  have hsz8 := B8.out.size
  clear X_7 Y_7 Z_7 T_7 r1_7 r2_7 r3_7 p1_7 p2_7 p3_7 p4_7 hbel
  go_wp2_with fail
  refine (equal_yes (RF.map vl) _ _ _ (Rd.ofow p2_8.out) (Rd.ofow r2_8.out)).mono ?_
  rintro e w9 ⟨rfl, hbel⟩
  have X_9 := Lib.hid (X_8.out.below hbel)
  have Y_9 := Lib.hid (Y_8.out.below hbel)
  have Z_9 := Lib.hid (Z_8.out.below hbel)
  have T_9 := Lib.hid (T_8.out.below hbel)
  have r1_9 := Lib.hid (r1_8.out.below hbel)
  have r2_9 := Lib.hid (r2_8.out.below hbel)
  have r3_9 := Lib.hid (r3_8.out.below hbel)
  have p1_9 := Lib.hid (p1_8.out.below hbel)
  have p2_9 := Lib.hid (p2_8.out.below hbel)
  have p3_9 := Lib.hid (p3_8.out.below hbel)
  have p4_9 := Lib.hid (p4_8.out.below hbel)
  have B9 := Lib.hid (B8.out.trans (hbel.mono hsz8))
  have hsz9 := B9.out.size
  clear X_8 Y_8 Z_8 T_8 r1_8 r2_8 r3_8 p1_8 p2_8 p3_8 p4_8 hbel
  go_wp2_with fail
  refine (equal_yes (RI.map vl) _ _ _ (Rd.ofow p3_9.out) (Rd.ofow r3_9.out)).mono ?_
  rintro e w10 ⟨rfl, hbel⟩
  have X_10 := Lib.hid (X_9.out.below hbel)
  have Y_10 := Lib.hid (Y_9.out.below hbel)
  have Z_10 := Lib.hid (Z_9.out.below hbel)
  have T_10 := Lib.hid (T_9.out.below hbel)
  have r1_10 := Lib.hid (r1_9.out.below hbel)
  have r2_10 := Lib.hid (r2_9.out.below hbel)
  have r3_10 := Lib.hid (r3_9.out.below hbel)
  have p1_10 := Lib.hid (p1_9.out.below hbel)
  have p2_10 := Lib.hid (p2_9.out.below hbel)
  have p3_10 := Lib.hid (p3_9.out.below hbel)
  have p4_10 := Lib.hid (p4_9.out.below hbel)
  have B10 := Lib.hid (B9.out.trans (hbel.mono hsz9))
  have hsz10 := B10.out.size
  clear X_9 Y_9 Z_9 T_9 r1_9 r2_9 r3_9 p1_9 p2_9 p3_9 p4_9 hbel
  go_wp2_with fail
  refine (equal_yes ([].map vl) _ _ _ (Rd.ofow p4_10.out) (Rd.nil _ _)).mono ?_
  rintro e w11 ⟨rfl, hbel⟩
  have X_11 := Lib.hid (X_10.out.below hbel)
  have Y_11 := Lib.hid (Y_10.out.below hbel)
  have Z_11 := Lib.hid (Z_10.out.below hbel)
  have T_11 := Lib.hid (T_10.out.below hbel)
  have r1_11 := Lib.hid (r1_10.out.below hbel)
  have r2_11 := Lib.hid (r2_10.out.below hbel)
  have r3_11 := Lib.hid (r3_10.out.below hbel)
  have p1_11 := Lib.hid (p1_10.out.below hbel)
  have p2_11 := Lib.hid (p2_10.out.below hbel)
  have p3_11 := Lib.hid (p3_10.out.below hbel)
  have p4_11 := Lib.hid (p4_10.out.below hbel)
  have B11 := Lib.hid (B10.out.trans (hbel.mono hsz10))
  have hsz11 := B11.out.size
  clear X_10 Y_10 Z_10 T_10 r1_10 r2_10 r3_10 p1_10 p2_10 p3_10 p4_10 hbel
  go_wp2
  go_ret
  exact ⟨rfl, B11.out⟩
set_option maxHeartbeats 8000000 in
set_option maxRecDepth 100000 in
theorem mt_aib (ks : List Nat) (xs ys : List Int) (z : Int) (back : Bool) (v v2 v3 : Value) (w : World) (h : Rd .i64 w v (zi (szs ks))) (h2 : Rd .u64 w v2 xs) (h3 : Rd .u64 w v3 ys) (hw : W64 (zi (szs ks))) (hs : Shp (szs ks)) (hk10 : ∀ k ∈ ks, k ≤ 10) (hx : B64 xs) (hy : B64 ys) (hT : Tb w) (h64 : pk ks ≤ 64) (hla : xs.length = pk ks) (hlb : ys.length = pk ks) (hax : 0 ≤ z ∧ z < (ks.length : Int)) :
    Calls Tryd.prog 8 #[v, v2, v3, .int .i64 z, .bool back] w (RetV w (.bool true)) := by
  obtain ⟨n, hn⟩ : ∃ n, n = pr (szs ks) := ⟨_, rfl⟩
  have HN := Lib.hid hn
  have HS := Lib.hid hs
  have X := Lib.hid h
  have Y := Lib.hid h2
  have Z := Lib.hid h3
  have T := Lib.hid hT
  have hn1 : 1 ≤ n := by rw [hn]; exact hs.pr1
  have hN1 : 1 ≤ ks.length := by have := hs.len0; rwa [szs_len] at this
  have hN3 : ks.length ≤ 3 := by have := hs.len3; rwa [szs_len] at this
  have C2 := Lib.hid (fun w v v2 h h2 hT => fwd_of (all_ok ks xs false v v2 w h h2 hw hs hx hla hT))
  have C3 := Lib.hid (fun w v v2 h h2 hT => inv_of (all_ok ks xs true v v2 w h h2 hw hs hx hla hT))
  have D2 := Lib.hid (fun w v v2 h h2 => rwhole_ok ks xs false v v2 w h h2 hw hs hx hla)
  have D3 := Lib.hid (fun w v v2 h h2 => rwhole_ok ks xs true v v2 w h h2 hw hs hx hla)
  obtain ⟨x, rfl⟩ : ∃ x : Nat, z = (x : Int) := ⟨z.toNat, by omega⟩
  have hxl : x < ks.length := by omega
  have hxl2 : x < (szs ks).length := by rw [szs_len]; exact hxl
  have hkx := nd_szs ks hxl
  have hq : n / nd (szs ks) x = pr ((szs ks).take x) * under (szs ks) x := by
    rw [hn, shp_split hxl2 hkx, hkx, Nat.mul_left_comm]
    exact Nat.mul_div_cancel_left _ (Nat.two_pow_pos _)
  have C1 := Lib.hid (fun w v v2 h h2 hT => malong_ok (szs ks) xs x (nd ks x) back v v2 (x : Int) w h h2 hw hs hx hla hxl2 hkx hT rfl)
  have D1 := Lib.hid (fun w v v2 h h2 => rturned_any (szs ks) xs x (nd ks x) 0 _ (x : Int) 0 ((n / nd (szs ks) x : Nat) : Int) back v v2 w h h2 hs hw hx hla hxl2 hkx (Nat.zero_le _) (Nat.le_refl _) rfl rfl (by rw [hq]))
  obtain ⟨RA, hRA⟩ : ∃ l, l = tz back (under (szs ks) x) (nd ks x) (pr (szs ks)) 0 (pr ((szs ks).take x) * under (szs ks) x) xs := ⟨_, rfl⟩
  rw [← hRA] at C1 D1
  have hd1 : 1 ≤ nd (szs ks) x := hs.pos _ (nd_mem hxl2)
  have C4 := Lib.hid (fun w v v2 v3 h h2 h3 hT => mcyc_ok ks xs ys v v2 v3 w h h2 h3 hw hs hk10 hx hy hla hlb hT)
  have D4 := Lib.hid (fun w v v2 v3 h h2 h3 => rwrapped_ok ks xs ys v v2 v3 w h h2 h3 hs hx hy hla hlb)
  obtain ⟨RF, hRF⟩ : ∃ l, l = WL false ks (xs.map toF) := ⟨_, rfl⟩
  obtain ⟨RI, hRI⟩ : ∃ l, l = WL true ks (xs.map toF) := ⟨_, rfl⟩
  obtain ⟨RC, hRC⟩ : ∃ l, l = cysL ks (xs.map toF) (ys.map toF) := ⟨_, rfl⟩
  rw [← hRF] at C2 D2
  rw [← hRI] at C3 D3
  rw [← hRC] at C4 D4
  obtain ⟨a, cap, sb, so, rfl, hcap, hm, hsx, hcx⟩ := h.opened
  have LZ := Lib.hid (show (zi (szs ks)).length = ks.length by rw [zi_len, szs_len])
  rw [LZ.out] at hcap hsx hcx X ⊢
  obtain rfl := hsx.resolve_left (by omega)
  have c3 : w.cell? ⟨sb, so + x, none⟩ = some (.int .i64 (nd (szs ks) x)) := by rw [hcx x hxl, gd_zi]
  obtain ⟨a2, cap2, rfl, hcap2, hm2⟩ := h2.shape
  obtain ⟨a3, cap3, rfl, hcap3, hm3⟩ := h3.shape
  rw [show pk ks = pr (szs ks) from rfl, ← hn] at hla hlb h64
  obtain ⟨p, hp⟩ : ∃ p, p = xs.length := ⟨_, rfl⟩
  obtain ⟨q, hq2⟩ : ∃ p, p = ys.length := ⟨_, rfl⟩
  rw [← hp] at hla hcap2 Y ⊢
  rw [← hq2] at hlb hcap3 Z ⊢
  have d3 : decide ((64 : Int) < (n : Int)) = false := by rw [decide_eq_false_iff_not]; omega
  subst hla
  subst hlb
  obtain ⟨N, hN⟩ : ∃ N, N = ks.length := ⟨_, rfl⟩
  rw [← hN] at hN1 hN3 hcap X hxl ⊢
  have el : IntKind.i64.wrap ((N : Int) - 1) = (N : Int) - 1 := IntWalk.i64_in _ (by omega)
  clear h h2 h3 hT hn hs hk10 hcx LZ hN hp hq2 hRF hRI hRC hRA hq hkx hxl2 hax
  generalize nd (szs ks) x = d at *
  have hd0 : ¬ d = 0 := by omega
  have hqle := Nat.div_le_self q d
  have e1 := nat_quo q d
  have e2 : IntKind.i64.wrap ((q / d : Nat) : Int) = ((q / d : Nat) : Int) := wrap_nat (by omega)
  generalize q / d = M at *
  have B0 := Lib.hid (Below.refl w.heap.size w)
  have hsz0 : w.heap.size ≤ w.heap.size := Nat.le_refl _
  go_enter Tryd.func8, Tryd.ntmps8
  go_wp2_with fail
  refine (rshape_any (zi (szs ks)) _ _ X.out hw).mono ?_
  rintro e w' ⟨he, rfl⟩
  obtain rfl := he.ok HS.out
  rw [← HN.out]
  go_wp2_with fail
  refine (in_yes _ _ _ _ (by omega) (by omega)).mono ?_
  rintro e w' ⟨rfl, rfl⟩
  go_wp2_with fail
  refine (D1.out _ _ _ X.out Y.out).mono ?_
  rintro e w1 ⟨v1, rfl, hown, hbel⟩
  have X_1 := Lib.hid (X.out.below hbel)
  have Y_1 := Lib.hid (Y.out.below hbel)
  have Z_1 := Lib.hid (Z.out.below hbel)
  have T_1 := Lib.hid (T.out.below hbel)
  have r1_1 := Lib.hid (hown.mono hsz0)
  have B1 := Lib.hid (B0.out.trans (hbel.mono hsz0))
  have hsz1 := B1.out.size
  clear X Y Z T hown hbel
  go_wp2_with fail
  refine (D2.out _ _ _ X_1.out Y_1.out).mono ?_
  rintro e w2 ⟨v2, rfl, hown, hbel⟩
  have X_2 := Lib.hid (X_1.out.below hbel)
  have Y_2 := Lib.hid (Y_1.out.below hbel)
  have Z_2 := Lib.hid (Z_1.out.below hbel)
  have T_2 := Lib.hid (T_1.out.below hbel)
  have r1_2 := Lib.hid (r1_1.out.below hbel)
  have r2_2 := Lib.hid (hown.mono hsz1)
  have B2 := Lib.hid (B1.out.trans (hbel.mono hsz1))
  have hsz2 := B2.out.size
  clear X_1 Y_1 Z_1 T_1 r1_1 hown hbel
  go_wp2_with fail
  refine (D3.out _ _ _ X_2.out Y_2.out).mono ?_
  rintro e w3 ⟨v3, rfl, hown, hbel⟩
  have X_3 := Lib.hid (X_2.out.below hbel)
  have Y_3 := Lib.hid (Y_2.out.below hbel)
  have Z_3 := Lib.hid (Z_2.out.below hbel)
  have T_3 := Lib.hid (T_2.out.below hbel)
  have r1_3 := Lib.hid (r1_2.out.below hbel)
  have r2_3 := Lib.hid (r2_2.out.below hbel)
  have r3_3 := Lib.hid (hown.mono hsz2)
  have B3 := Lib.hid (B2.out.trans (hbel.mono hsz2))
  have hsz3 := B3.out.size
  clear X_2 Y_2 Z_2 T_2 r1_2 r2_2 hown hbel
  go_wp2_with fail
  refine (D4.out _ _ _ _ X_3.out Y_3.out Z_3.out).mono ?_
  rintro e w4 ⟨v4, rfl, hown, hbel⟩
  have X_4 := Lib.hid (X_3.out.below hbel)
  have Y_4 := Lib.hid (Y_3.out.below hbel)
  have Z_4 := Lib.hid (Z_3.out.below hbel)
  have T_4 := Lib.hid (T_3.out.below hbel)
  have r1_4 := Lib.hid (r1_3.out.below hbel)
  have r2_4 := Lib.hid (r2_3.out.below hbel)
  have r3_4 := Lib.hid (r3_3.out.below hbel)
  have r4_4 := Lib.hid (hown.mono hsz3)
  have B4 := Lib.hid (B3.out.trans (hbel.mono hsz3))
  have hsz4 := B4.out.size
  clear X_3 Y_3 Z_3 T_3 r1_3 r2_3 r3_3 hown hbel
  go_wp2_with fail
  refine (C1.out _ _ _ X_4.out Y_4.out T_4.out).mono ?_
  rintro e w5 ⟨v5, rfl, hown, hbel⟩
  have X_5 := Lib.hid (X_4.out.below hbel)
  have Y_5 := Lib.hid (Y_4.out.below hbel)
  have Z_5 := Lib.hid (Z_4.out.below hbel)
  have T_5 := Lib.hid (T_4.out.below hbel)
  have r1_5 := Lib.hid (r1_4.out.below hbel)
  have r2_5 := Lib.hid (r2_4.out.below hbel)
  have r3_5 := Lib.hid (r3_4.out.below hbel)
  have r4_5 := Lib.hid (r4_4.out.below hbel)
  have p1_5 := Lib.hid (hown.mono hsz4)
  have B5 := Lib.hid (B4.out.trans (hbel.mono hsz4))
  have hsz5 := B5.out.size
  clear X_4 Y_4 Z_4 T_4 r1_4 r2_4 r3_4 r4_4 hown hbel
  go_wp2_with fail
  refine (C2.out _ _ _ X_5.out Y_5.out T_5.out).mono ?_
  rintro e w6 ⟨v6, rfl, hown, hbel⟩
  have X_6 := Lib.hid (X_5.out.below hbel)
  have Y_6 := Lib.hid (Y_5.out.below hbel)
  have Z_6 := Lib.hid (Z_5.out.below hbel)
  have T_6 := Lib.hid (T_5.out.below hbel)
  have r1_6 := Lib.hid (r1_5.out.below hbel)
  have r2_6 := Lib.hid (r2_5.out.below hbel)
  have r3_6 := Lib.hid (r3_5.out.below hbel)
  have r4_6 := Lib.hid (r4_5.out.below hbel)
  have p1_6 := Lib.hid (p1_5.out.below hbel)
  have p2_6 := Lib.hid (hown.mono hsz5)
  have B6 := Lib.hid (B5.out.trans (hbel.mono hsz5))
  have hsz6 := B6.out.size
  clear X_5 Y_5 Z_5 T_5 r1_5 r2_5 r3_5 r4_5 p1_5 hown hbel
  go_wp2_with fail
  refine (C3.out _ _ _ X_6.out Y_6.out T_6.out).mono ?_
  rintro e w7 ⟨v7, rfl, hown, hbel⟩
  have X_7 := Lib.hid (X_6.out.below hbel)
  have Y_7 := Lib.hid (Y_6.out.below hbel)
  have Z_7 := Lib.hid (Z_6.out.below hbel)
  have T_7 := Lib.hid (T_6.out.below hbel)
  have r1_7 := Lib.hid (r1_6.out.below hbel)
  have r2_7 := Lib.hid (r2_6.out.below hbel)
  have r3_7 := Lib.hid (r3_6.out.below hbel)
  have r4_7 := Lib.hid (r4_6.out.below hbel)
  have p1_7 := Lib.hid (p1_6.out.below hbel)
  have p2_7 := Lib.hid (p2_6.out.below hbel)
  have p3_7 := Lib.hid (hown.mono hsz6)
  have B7 := Lib.hid (B6.out.trans (hbel.mono hsz6))
  have hsz7 := B7.out.size
  clear X_6 Y_6 Z_6 T_6 r1_6 r2_6 r3_6 r4_6 p1_6 p2_6 hown hbel
  go_wp2_with fail
  refine (C4.out _ _ _ _ X_7.out Y_7.out Z_7.out T_7.out).mono ?_
  rintro e w8 ⟨v8, rfl, hown, hbel⟩
  have X_8 := Lib.hid (X_7.out.below hbel)
  have Y_8 := Lib.hid (Y_7.out.below hbel)
  have Z_8 := Lib.hid (Z_7.out.below hbel)
  have T_8 := Lib.hid (T_7.out.below hbel)
  have r1_8 := Lib.hid (r1_7.out.below hbel)
  have r2_8 := Lib.hid (r2_7.out.below hbel)
  have r3_8 := Lib.hid (r3_7.out.below hbel)
  have r4_8 := Lib.hid (r4_7.out.below hbel)
  have p1_8 := Lib.hid (p1_7.out.below hbel)
  have p2_8 := Lib.hid (p2_7.out.below hbel)
  have p3_8 := Lib.hid (p3_7.out.below hbel)
  have p4_8 := Lib.hid (hown.mono hsz7)
  have B8 := Lib.hid (B7.out.trans (hbel.mono hsz7))
  have hsz8 := B8.out.size
  clear X_7 Y_7 Z_7 T_7 r1_7 r2_7 r3_7 r4_7 p1_7 p2_7 p3_7 hown hbel
  go_wp2_with fail
  refine (equal_yes RA _ _ _ (p1_8.out.rd) (r1_8.out.rd)).mono ?_
  rintro e w9 ⟨rfl, hbel⟩
  have X_9 := Lib.hid (X_8.out.below hbel)
  have Y_9 := Lib.hid (Y_8.out.below hbel)
  have Z_9 := Lib.hid (Z_8.out.below hbel)
  have T_9 := Lib.hid (T_8.out.below hbel)
  have r1_9 := Lib.hid (r1_8.out.below hbel)
  have r2_9 := Lib.hid (r2_8.out.below hbel)
  have r3_9 := Lib.hid (r3_8.out.below hbel)
  have r4_9 := Lib.hid (r4_8.out.below hbel)
  have p1_9 := Lib.hid (p1_8.out.below hbel)
  have p2_9 := Lib.hid (p2_8.out.below hbel)
  have p3_9 := Lib.hid (p3_8.out.below hbel)
  have p4_9 := Lib.hid (p4_8.out.below hbel)
  have B9 := Lib.hid (B8.out.trans (hbel.mono hsz8))
  have hsz9 := B9.out.size
  clear X_8 Y_8 Z_8 T_8 r1_8 r2_8 r3_8 r4_8 p1_8 p2_8 p3_8 p4_8 hbel
  go_wp2_with fail
  refine (equal_yes (RF.map vl) _ _ _ (Rd.ofow p2_9.out) (Rd.ofow r2_9.out)).mono ?_
  rintro e w10 ⟨rfl, hbel⟩
  have X_10 := Lib.hid (X_9.out.below hbel)
  have Y_10 := Lib.hid (Y_9.out.below hbel)
  have Z_10 := Lib.hid (Z_9.out.below hbel)
  have T_10 := Lib.hid (T_9.out.below hbel)
  have r1_10 := Lib.hid (r1_9.out.below hbel)
  have r2_10 := Lib.hid (r2_9.out.below hbel)
  have r3_10 := Lib.hid (r3_9.out.below hbel)
  have r4_10 := Lib.hid (r4_9.out.below hbel)
  have p1_10 := Lib.hid (p1_9.out.below hbel)
  have p2_10 := Lib.hid (p2_9.out.below hbel)
  have p3_10 := Lib.hid (p3_9.out.below hbel)
  have p4_10 := Lib.hid (p4_9.out.below hbel)
  have B10 := Lib.hid (B9.out.trans (hbel.mono hsz9))
  have hsz10 := B10.out.size
  clear X_9 Y_9 Z_9 T_9 r1_9 r2_9 r3_9 r4_9 p1_9 p2_9 p3_9 p4_9 hbel
  go_wp2_with fail
  refine (equal_yes (RI.map vl) _ _ _ (Rd.ofow p3_10.out) (Rd.ofow r3_10.out)).mono ?_
  rintro e w11 ⟨rfl, hbel⟩
  have X_11 := Lib.hid (X_10.out.below hbel)
  have Y_11 := Lib.hid (Y_10.out.below hbel)
  have Z_11 := Lib.hid (Z_10.out.below hbel)
  have T_11 := Lib.hid (T_10.out.below hbel)
  have r1_11 := Lib.hid (r1_10.out.below hbel)
  have r2_11 := Lib.hid (r2_10.out.below hbel)
  have r3_11 := Lib.hid (r3_10.out.below hbel)
  have r4_11 := Lib.hid (r4_10.out.below hbel)
  have p1_11 := Lib.hid (p1_10.out.below hbel)
  have p2_11 := Lib.hid (p2_10.out.below hbel)
  have p3_11 := Lib.hid (p3_10.out.below hbel)
  have p4_11 := Lib.hid (p4_10.out.below hbel)
  have B11 := Lib.hid (B10.out.trans (hbel.mono hsz10))
  have hsz11 := B11.out.size
  clear X_10 Y_10 Z_10 T_10 r1_10 r2_10 r3_10 r4_10 p1_10 p2_10 p3_10 p4_10 hbel
  go_wp2_with fail
  refine (equal_yes (RC.map vl) _ _ _ (Rd.ofow p4_11.out) (Rd.ofow r4_11.out)).mono ?_
  rintro e w12 ⟨rfl, hbel⟩
  have X_12 := Lib.hid (X_11.out.below hbel)
  have Y_12 := Lib.hid (Y_11.out.below hbel)
  have Z_12 := Lib.hid (Z_11.out.below hbel)
  have T_12 := Lib.hid (T_11.out.below hbel)
  have r1_12 := Lib.hid (r1_11.out.below hbel)
  have r2_12 := Lib.hid (r2_11.out.below hbel)
  have r3_12 := Lib.hid (r3_11.out.below hbel)
  have r4_12 := Lib.hid (r4_11.out.below hbel)
  have p1_12 := Lib.hid (p1_11.out.below hbel)
  have p2_12 := Lib.hid (p2_11.out.below hbel)
  have p3_12 := Lib.hid (p3_11.out.below hbel)
  have p4_12 := Lib.hid (p4_11.out.below hbel)
  have B12 := Lib.hid (B11.out.trans (hbel.mono hsz11))
  have hsz12 := B12.out.size
  clear X_11 Y_11 Z_11 T_11 r1_11 r2_11 r3_11 r4_11 p1_11 p2_11 p3_11 p4_11 hbel
  go_wp2
  go_ret
  exact ⟨rfl, B12.out⟩
theorem wManyTurns (zs : List Int) (xs ys : List Int) (z : Int) (back : Bool) (v v2 v3 : Value) (w : World) (h : Rd .i64 w v zs) (h2 : Rd .u64 w v2 xs) (h3 : Rd .u64 w v3 ys) (hw : W64 zs) (hx : B64 xs) (hy : B64 ys) (hT : Tb w) :
    Calls Tryd.prog 8 #[v, v2, v3, .int .i64 z, .bool back] w (RetV w (.bool true)) := by
  rcases shape_cases zs with hb | hb | ⟨ds, rfl, hs⟩
  · exact mt_bad zs xs ys z back v v2 v3 w 1 h h2 h3 hw (.inl ⟨rfl, hb⟩)
  · exact mt_bad zs xs ys z back v v2 v3 w 2 h h2 h3 hw (.inr ⟨rfl, hb⟩)
  obtain ⟨ks, rfl, hk10⟩ := shp_ks hs
  by_cases h64 : 64 < pk ks
  · exact mt_more ks xs ys z back v v2 v3 w h h2 h3 hw hs hk10 hx hy hT h64
  have h64 : pk ks ≤ 64 := by omega
  by_cases hla : xs.length = pk ks
  · by_cases hax : 0 ≤ z ∧ z < (ks.length : Int)
    · by_cases hlb : ys.length = pk ks
      · exact mt_aib ks xs ys z back v v2 v3 w h h2 h3 hw hs hk10 hx hy hT h64 hla hlb hax
      · exact mt_aix ks xs ys z back v v2 v3 w h h2 h3 hw hs hk10 hx hy hT h64 hla hlb hax
    · by_cases hlb : ys.length = pk ks
      · exact mt_aob ks xs ys z back v v2 v3 w h h2 h3 hw hs hk10 hx hy hT h64 hla hlb (by omega)
      · exact mt_aox ks xs ys z back v v2 v3 w h h2 h3 hw hs hk10 hx hy hT h64 hla hlb (by omega)
  · by_cases hlb : ys.length = pk ks
    · exact mt_xob ks xs ys z back v v2 v3 w h h2 h3 hw hs hk10 hx hy hT h64 hla hlb
    · exact mt_xox ks xs ys z back v v2 v3 w h h2 h3 hw hs hk10 hx hy hT h64 hla hlb
end Go.Proofs.YtkcfnbfkbmgchaaDoor.Gm
