/- The walk of the law SealSays. (Its lines are printed by wip/mk_XLss.py.) -/
import Derived.Test.YtjljndnpefdifaaCs
import Derived.Test.YtjljndnpefdifaaSx
import Derived.Test.YtjljndnpefdifaaRk
import Derived.Test.YtjljndnpefdifaaRy
import Derived.Test.YtjljndnpefdifaaRp
namespace Go.Proofs.Ytjljndnpefdifaa.Gm
open Go.RowKit
set_option linter.unusedVariables false
theorem Rd.ofow {B : Nat} {w : World} {v : Value} {l : List F} (h : Ow B w v l) : Rd .u64 w v (l.map vl) := h.rd
theorem corners_err (v v2 : Value) (w : World) (n : Int) (hn : (n == 0) = false) (CC : Calls Try.prog 55 #[v, v2] w (fun e w' => e = .returned (.int .i64 n) ∧ w = w')) :
    Calls Try.prog 26 #[v, v2] w (RetLE w [] n) := by
  go_enter Try.func26, Try.ntmps26
  go_wp2_with fail
  refine CC.mono ?_
  rintro e w' ⟨rfl, rfl⟩
  go_wp2
  go_ret2
  exact ⟨_, rfl, Ow.nil _ _, Below.refl _ _⟩
theorem of_err (v v2 : Value) (x : Int) (w : World) (n : Int) (hn : (n == 0) = false) (CC : Calls Try.prog 55 #[v, v2] w (fun e w' => e = .returned (.int .i64 n) ∧ w = w')) :
    Calls Try.prog 25 #[v, v2, .int .u64 x] w (RetV w (.tuple #[.int .u64 0, .int .i64 n])) := by
  go_enter Try.func25, Try.ntmps25
  go_wp2_with fail
  refine CC.mono ?_
  rintro e w' ⟨rfl, rfl⟩
  go_wp2
  go_ret2
  exact ⟨rfl, Below.refl _ _⟩
theorem shift_err (v v2 v3 : Value) (w : World) (n : Int) (hn : (n == 0) = false) (CC : Calls Try.prog 55 #[v, v2] w (fun e w' => e = .returned (.int .i64 n) ∧ w = w')) :
    Calls Try.prog 27 #[v, v2, v3] w (RetLE w [] n) := by
  go_enter Try.func27, Try.ntmps27
  go_wp2_with fail
  refine CC.mono ?_
  rintro e w' ⟨rfl, rfl⟩
  go_wp2
  go_ret2
  exact ⟨_, rfl, Ow.nil _ _, Below.refl _ _⟩
theorem shift_arg (zs bs : List Int) (v v2 v3 : Value) (w : World) (n : Int) (hn : n = 0) (h : Rd .i64 w v zs) (h3 : Rd .i64 w v3 bs) (hl : bs.length ≠ zs.length) (CC : Calls Try.prog 55 #[v, v2] w (fun e w' => e = .returned (.int .i64 n) ∧ w = w')) :
    Calls Try.prog 27 #[v, v2, v3] w (RetLE w [] 1) := by
  subst hn
  obtain ⟨a1, c1, rfl, hc1, hm1⟩ := h.shape
  obtain ⟨a3, c3, rfl, hc3, hm3⟩ := h3.shape
  have g : decide ((bs.length : Int) = (zs.length : Int)) = false := decide_eq_false (by omega)
  have g2 : ((bs.length : Int) != (zs.length : Int)) = true := by simp; omega
  generalize bs.length = p at *
  generalize zs.length = q at *
  go_enter Try.func27, Try.ntmps27
  go_wp2_with fail
  refine CC.mono ?_
  rintro e w' ⟨rfl, rfl⟩
  go_wp2
  go_ret2
  exact ⟨_, rfl, Ow.nil _ _, Below.refl _ _⟩
set_option maxHeartbeats 8000000 in
set_option maxRecDepth 100000 in
theorem ss_bad (zs : List Int) (xs : List Int) (x : Int) (bs : List Int) (v v2 v3 : Value) (w : World) (n : Int) (h : Rd .i64 w v zs) (h2 : Rd .u64 w v2 xs) (h3 : Rd .i64 w v3 bs) (hw : W64 zs) (hn : n = 1 ∧ Bad zs ∨ n = 2 ∧ Big zs) :
    Calls Try.prog 6 #[v, v2, .int .u64 x, v3] w (RetV w (.bool true)) := by
  have hn0 : (n == 0) = false := by rcases hn with ⟨rfl, _⟩ | ⟨rfl, _⟩ <;> rfl
  have hnn : (n == n) = true := by simp
  have CC := Lib.hid (show ∀ w v v2, Rd .i64 w v zs → Rd .u64 w v2 xs → Calls Try.prog 55 #[v, v2] w (fun e w' => e = .returned (.int .i64 n) ∧ w = w') from fun w v v2 h h2 => by
    rcases hn with ⟨rfl, hb⟩ | ⟨rfl, hb⟩
    · exact form_bad zs xs v v2 w h h2 hw hb
    · exact form_big zs xs v v2 w h h2 hw hb)
  have HN := Lib.hid hn
  have H0 := Lib.hid hn0
  have X := Lib.hid h
  have Y := Lib.hid h2
  have Z := Lib.hid h3
  clear h h2 h3 hn
  have B0 := Lib.hid (Below.refl w.heap.size w)
  have hsz0 : w.heap.size ≤ w.heap.size := Nat.le_refl _
  go_enter Try.func6, Try.ntmps6
  go_wp2_with fail
  refine (rshape_any zs _ _ X.out hw).mono ?_
  rintro e w' ⟨he, rfl⟩
  have he : e = .returned (.tuple #[.int .i64 0, .int .i64 n]) := by
    rcases HN.out with ⟨rfl, hb⟩ | ⟨rfl, hb⟩
    · exact he.bad hb
    · exact he.big hb
  subst he
  go_wp2_with fail
  refine (of_err _ _ x _ n H0.out (CC.out _ _ _ X.out Y.out)).mono ?_
  rintro e w1 ⟨rfl, hbel⟩
  have X_1 := Lib.hid (X.out.below hbel)
  have Y_1 := Lib.hid (Y.out.below hbel)
  have Z_1 := Lib.hid (Z.out.below hbel)
  have B1 := Lib.hid (B0.out.trans (hbel.mono hsz0))
  have hsz1 := B1.out.size
  clear X Y Z hbel
  go_wp2_with fail
  refine (corners_err _ _ _ n H0.out (CC.out _ _ _ X_1.out Y_1.out)).mono ?_
  rintro e w2 ⟨v2, rfl, hown, hbel⟩
  have X_2 := Lib.hid (X_1.out.below hbel)
  have Y_2 := Lib.hid (Y_1.out.below hbel)
  have Z_2 := Lib.hid (Z_1.out.below hbel)
  have p1_2 := Lib.hid (hown.mono hsz1)
  have B2 := Lib.hid (B1.out.trans (hbel.mono hsz1))
  have hsz2 := B2.out.size
  clear X_1 Y_1 Z_1 hown hbel
  go_wp2_with fail
  refine (shift_err _ _ v3 _ n H0.out (CC.out _ _ _ X_2.out Y_2.out)).mono ?_
  rintro e w3 ⟨v3, rfl, hown, hbel⟩
  have X_3 := Lib.hid (X_2.out.below hbel)
  have Y_3 := Lib.hid (Y_2.out.below hbel)
  have Z_3 := Lib.hid (Z_2.out.below hbel)
  have p1_3 := Lib.hid (p1_2.out.below hbel)
  have p2_3 := Lib.hid (hown.mono hsz2)
  have B3 := Lib.hid (B2.out.trans (hbel.mono hsz2))
  have hsz3 := B3.out.size
  clear X_2 Y_2 Z_2 p1_2 hown hbel
  go_wp2_with fail
  refine (equal_yes ([].map vl) _ _ _ (Rd.ofow p1_3.out) (Rd.nil _ _)).mono ?_
  rintro e w4 ⟨rfl, hbel⟩
  have X_4 := Lib.hid (X_3.out.below hbel)
  have Y_4 := Lib.hid (Y_3.out.below hbel)
  have Z_4 := Lib.hid (Z_3.out.below hbel)
  have p1_4 := Lib.hid (p1_3.out.below hbel)
  have p2_4 := Lib.hid (p2_3.out.below hbel)
  have B4 := Lib.hid (B3.out.trans (hbel.mono hsz3))
  have hsz4 := B4.out.size
  clear X_3 Y_3 Z_3 p1_3 p2_3 hbel
  go_wp2_with fail
  refine (equal_yes ([].map vl) _ _ _ (Rd.ofow p2_4.out) (Rd.nil _ _)).mono ?_
  rintro e w5 ⟨rfl, hbel⟩
  have X_5 := Lib.hid (X_4.out.below hbel)
  have Y_5 := Lib.hid (Y_4.out.below hbel)
  have Z_5 := Lib.hid (Z_4.out.below hbel)
  have p1_5 := Lib.hid (p1_4.out.below hbel)
  have p2_5 := Lib.hid (p2_4.out.below hbel)
  have B5 := Lib.hid (B4.out.trans (hbel.mono hsz4))
  have hsz5 := B5.out.size
  clear X_4 Y_4 Z_4 p1_4 p2_4 hbel
  go_wp2
  go_ret
  exact ⟨rfl, B5.out⟩
set_option maxHeartbeats 8000000 in
set_option maxRecDepth 100000 in
theorem ss_more (ks : List Nat) (xs : List Int) (x : Int) (bs : List Int) (v v2 v3 : Value) (w : World) (h : Rd .i64 w v (zi (szs ks))) (h2 : Rd .u64 w v2 xs) (h3 : Rd .i64 w v3 bs) (hw : W64 (zi (szs ks))) (hs : Shp (szs ks)) (hk10 : ∀ k ∈ ks, k ≤ 10) (hx : B64 xs) (hwb : W64 bs) (x0 : 0 ≤ x) (x1 : x < 18446744073709551616) (h64 : 64 < pk ks) :
    Calls Try.prog 6 #[v, v2, .int .u64 x, v3] w (RetV w (.bool true)) := by
  obtain ⟨n, hn⟩ : ∃ n, n = pr (szs ks) := ⟨_, rfl⟩
  have HN := Lib.hid hn
  have HS := Lib.hid hs
  have X := Lib.hid h
  rw [show pk ks = pr (szs ks) from rfl, ← hn] at h64
  have hb : (64 : Int) < (n : Int) := by omega
  clear h h2 h3 hn hs
  go_enter Try.func6, Try.ntmps6
  go_wp2_with fail
  refine (rshape_any (zi (szs ks)) _ _ X.out hw).mono ?_
  rintro e w' ⟨he, rfl⟩
  obtain rfl := he.ok HS.out
  rw [← HN.out]
  go_wp2
  go_ret
  exact ⟨rfl, Below.refl _ _⟩
set_option maxHeartbeats 8000000 in
set_option maxRecDepth 100000 in
theorem ss_xx (ks : List Nat) (xs : List Int) (x : Int) (bs : List Int) (v v2 v3 : Value) (w : World) (h : Rd .i64 w v (zi (szs ks))) (h2 : Rd .u64 w v2 xs) (h3 : Rd .i64 w v3 bs) (hw : W64 (zi (szs ks))) (hs : Shp (szs ks)) (hk10 : ∀ k ∈ ks, k ≤ 10) (hx : B64 xs) (hwb : W64 bs) (x0 : 0 ≤ x) (x1 : x < 18446744073709551616) (h64 : pk ks ≤ 64) (hla : xs.length ≠ pk ks) :
    Calls Try.prog 6 #[v, v2, .int .u64 x, v3] w (RetV w (.bool true)) := by
  obtain ⟨n, hn⟩ : ∃ n, n = pr (szs ks) := ⟨_, rfl⟩
  have HN := Lib.hid hn
  have HS := Lib.hid hs
  have X := Lib.hid h
  have Y := Lib.hid h2
  have Z := Lib.hid h3
  have hn1 : 1 ≤ n := by rw [hn]; exact hs.pr1
  have hN1 : 1 ≤ ks.length := by have := hs.len0; rwa [szs_len] at this
  have hN3 : ks.length ≤ 3 := by have := hs.len3; rwa [szs_len] at this
  have CC := Lib.hid (fun w v v2 h h2 => form_len (zi (szs ks)) xs (szs ks) v v2 w h h2 hw rfl hs hla)
  obtain ⟨a, cap, rfl, hcap, hm⟩ := h.shape
  have LZ := Lib.hid (show (zi (szs ks)).length = ks.length by rw [zi_len, szs_len])
  rw [LZ.out] at hcap X ⊢
  obtain ⟨a2, cap2, rfl, hcap2, hm2⟩ := h2.shape
  obtain ⟨a3, cap3, rfl, hcap3, hm3⟩ := h3.shape
  rw [show pk ks = pr (szs ks) from rfl, ← hn] at hla h64
  obtain ⟨p, hp⟩ : ∃ p, p = xs.length := ⟨_, rfl⟩
  obtain ⟨q, hq2⟩ : ∃ p, p = bs.length := ⟨_, rfl⟩
  rw [← hp] at hla hcap2 Y ⊢
  rw [← hq2] at hcap3 Z ⊢
  have d3 : decide ((64 : Int) < (n : Int)) = false := by rw [decide_eq_false_iff_not]; omega
  have p1 : decide ((p : Int) = (n : Int)) = false := by rw [decide_eq_false_iff_not]; omega
  have p2 : ((p : Int) != (n : Int)) = true := by simp; omega
  obtain ⟨N, hN⟩ : ∃ N, N = ks.length := ⟨_, rfl⟩
  rw [← hN] at hN1 hN3 hcap X ⊢
  clear h h2 h3 hn hs hk10 LZ hN hp hq2
  have B0 := Lib.hid (Below.refl w.heap.size w)
  have hsz0 : w.heap.size ≤ w.heap.size := Nat.le_refl _
  go_enter Try.func6, Try.ntmps6
  go_wp2_with fail
  refine (rshape_any (zi (szs ks)) _ _ X.out hw).mono ?_
  rintro e w' ⟨he, rfl⟩
  obtain rfl := he.ok HS.out
  rw [← HN.out]
  go_wp2_with fail
  refine (of_err _ _ x _ 5 rfl (CC.out _ _ _ X.out Y.out)).mono ?_
  rintro e w1 ⟨rfl, hbel⟩
  have X_1 := Lib.hid (X.out.below hbel)
  have Y_1 := Lib.hid (Y.out.below hbel)
  have Z_1 := Lib.hid (Z.out.below hbel)
  have B1 := Lib.hid (B0.out.trans (hbel.mono hsz0))
  have hsz1 := B1.out.size
  clear X Y Z hbel
  go_wp2_with fail
  refine (corners_err _ _ _ 5 rfl (CC.out _ _ _ X_1.out Y_1.out)).mono ?_
  rintro e w2 ⟨v2, rfl, hown, hbel⟩
  have X_2 := Lib.hid (X_1.out.below hbel)
  have Y_2 := Lib.hid (Y_1.out.below hbel)
  have Z_2 := Lib.hid (Z_1.out.below hbel)
  have p1_2 := Lib.hid (hown.mono hsz1)
  have B2 := Lib.hid (B1.out.trans (hbel.mono hsz1))
  have hsz2 := B2.out.size
  clear X_1 Y_1 Z_1 hown hbel
  go_wp2_with fail
  refine (shift_err _ _ _ _ 5 rfl (CC.out _ _ _ X_2.out Y_2.out)).mono ?_
  rintro e w3 ⟨v3, rfl, hown, hbel⟩
  have X_3 := Lib.hid (X_2.out.below hbel)
  have Y_3 := Lib.hid (Y_2.out.below hbel)
  have Z_3 := Lib.hid (Z_2.out.below hbel)
  have p1_3 := Lib.hid (p1_2.out.below hbel)
  have p2_3 := Lib.hid (hown.mono hsz2)
  have B3 := Lib.hid (B2.out.trans (hbel.mono hsz2))
  have hsz3 := B3.out.size
  clear X_2 Y_2 Z_2 p1_2 hown hbel
  go_wp2_with fail
  refine (equal_yes ([].map vl) _ _ _ (Rd.ofow p1_3.out) (Rd.nil _ _)).mono ?_
  rintro e w4 ⟨rfl, hbel⟩
  have X_4 := Lib.hid (X_3.out.below hbel)
  have Y_4 := Lib.hid (Y_3.out.below hbel)
  have Z_4 := Lib.hid (Z_3.out.below hbel)
  have p1_4 := Lib.hid (p1_3.out.below hbel)
  have p2_4 := Lib.hid (p2_3.out.below hbel)
  have B4 := Lib.hid (B3.out.trans (hbel.mono hsz3))
  have hsz4 := B4.out.size
  clear X_3 Y_3 Z_3 p1_3 p2_3 hbel
  go_wp2_with fail
  refine (equal_yes ([].map vl) _ _ _ (Rd.ofow p2_4.out) (Rd.nil _ _)).mono ?_
  rintro e w5 ⟨rfl, hbel⟩
  have X_5 := Lib.hid (X_4.out.below hbel)
  have Y_5 := Lib.hid (Y_4.out.below hbel)
  have Z_5 := Lib.hid (Z_4.out.below hbel)
  have p1_5 := Lib.hid (p1_4.out.below hbel)
  have p2_5 := Lib.hid (p2_4.out.below hbel)
  have B5 := Lib.hid (B4.out.trans (hbel.mono hsz4))
  have hsz5 := B5.out.size
  clear X_4 Y_4 Z_4 p1_4 p2_4 hbel
  go_wp2
  go_ret
  exact ⟨rfl, B5.out⟩
set_option maxHeartbeats 8000000 in
set_option maxRecDepth 100000 in
theorem ss_ax (ks : List Nat) (xs : List Int) (x : Int) (bs : List Int) (v v2 v3 : Value) (w : World) (h : Rd .i64 w v (zi (szs ks))) (h2 : Rd .u64 w v2 xs) (h3 : Rd .i64 w v3 bs) (hw : W64 (zi (szs ks))) (hs : Shp (szs ks)) (hk10 : ∀ k ∈ ks, k ≤ 10) (hx : B64 xs) (hwb : W64 bs) (x0 : 0 ≤ x) (x1 : x < 18446744073709551616) (h64 : pk ks ≤ 64) (hla : xs.length = pk ks) (hlb : bs.length ≠ ks.length) :
    Calls Try.prog 6 #[v, v2, .int .u64 x, v3] w (RetV w (.bool true)) := by
  obtain ⟨n, hn⟩ : ∃ n, n = pr (szs ks) := ⟨_, rfl⟩
  have HN := Lib.hid hn
  have HS := Lib.hid hs
  have X := Lib.hid h
  have Y := Lib.hid h2
  have Z := Lib.hid h3
  have hn1 : 1 ≤ n := by rw [hn]; exact hs.pr1
  have hN1 : 1 ≤ ks.length := by have := hs.len0; rwa [szs_len] at this
  have hN3 : ks.length ≤ 3 := by have := hs.len3; rwa [szs_len] at this
  have hpk : pk ks ≤ 1024 := hs.le
  have CO := Lib.hid (fun w v v2 h h2 => of_ok (zi (szs ks)) xs (szs ks) x v v2 w h h2 hw rfl hs hla hx x0 x1)
  have CV := Lib.hid (fun w v2 h2 => reval_any xs v2 x w h2 hx x0 x1)
  have CN := Lib.hid (fun w v v2 h h2 => corners_ok ks xs v v2 w h h2 hw hs hx hla)
  have CM := Lib.hid (fun w v v2 h h2 => rcorners_ok ks xs v v2 w h h2 hw hs hx hla)
  obtain ⟨EV, hEV⟩ : ∃ y, y = evl (xs.map toF) (toF x) := ⟨_, rfl⟩
  obtain ⟨RC, hRC⟩ : ∃ l, l = crn ks (xs.map toF) (2 ^ ks.length) := ⟨_, rfl⟩
  rw [← hEV] at CO CV
  rw [corners_all hk10, ← hRC] at CM
  rw [← hRC] at CN
  have CS := Lib.hid (fun w v v2 v3 h h2 h3 => shift_arg (zi (szs ks)) bs v v2 v3 w 0 rfl h h3 (by rw [zi_len, szs_len]; exact hlb) (form_ok (zi (szs ks)) xs (szs ks) v v2 w h h2 hw rfl hs hla))
  obtain ⟨a, cap, rfl, hcap, hm⟩ := h.shape
  have LZ := Lib.hid (show (zi (szs ks)).length = ks.length by rw [zi_len, szs_len])
  rw [LZ.out] at hcap X ⊢
  obtain ⟨a2, cap2, rfl, hcap2, hm2⟩ := h2.shape
  obtain ⟨a3, cap3, rfl, hcap3, hm3⟩ := h3.shape
  rw [show pk ks = pr (szs ks) from rfl, ← hn] at hla h64
  obtain ⟨p, hp⟩ : ∃ p, p = xs.length := ⟨_, rfl⟩
  obtain ⟨q, hq2⟩ : ∃ p, p = bs.length := ⟨_, rfl⟩
  rw [← hp] at hla hcap2 Y ⊢
  rw [← hq2] at hlb hcap3 Z ⊢
  have d3 : decide ((64 : Int) < (n : Int)) = false := by rw [decide_eq_false_iff_not]; omega
  subst hla
  obtain ⟨N, hN⟩ : ∃ N, N = ks.length := ⟨_, rfl⟩
  rw [← hN] at hN1 hN3 hcap X hlb ⊢
  have q1 : decide ((q : Int) = (N : Int)) = false := by rw [decide_eq_false_iff_not]; omega
  have q2 : ((q : Int) != (N : Int)) = true := by simp; omega
  clear h h2 h3 hn hs hk10 LZ hN hp hq2 hEV hRC
  have B0 := Lib.hid (Below.refl w.heap.size w)
  have hsz0 : w.heap.size ≤ w.heap.size := Nat.le_refl _
  go_enter Try.func6, Try.ntmps6
  go_wp2_with fail
  refine (rshape_any (zi (szs ks)) _ _ X.out hw).mono ?_
  rintro e w' ⟨he, rfl⟩
  obtain rfl := he.ok HS.out
  rw [← HN.out]
  go_wp2_with fail
  refine (CV.out _ _ Y.out).mono ?_
  rintro e w' ⟨rfl, rfl⟩
  go_wp2_with fail
  refine (CM.out _ _ _ X.out Y.out).mono ?_
  rintro e w1 ⟨v1, rfl, hown, hbel⟩
  have X_1 := Lib.hid (X.out.below hbel)
  have Y_1 := Lib.hid (Y.out.below hbel)
  have Z_1 := Lib.hid (Z.out.below hbel)
  have r1_1 := Lib.hid (hown.mono hsz0)
  have B1 := Lib.hid (B0.out.trans (hbel.mono hsz0))
  have hsz1 := B1.out.size
  clear X Y Z hown hbel
  go_wp2_with fail
  refine (CO.out _ _ _ X_1.out Y_1.out).mono ?_
  rintro e w2 ⟨rfl, hbel⟩
  have X_2 := Lib.hid (X_1.out.below hbel)
  have Y_2 := Lib.hid (Y_1.out.below hbel)
  have Z_2 := Lib.hid (Z_1.out.below hbel)
  have r1_2 := Lib.hid (r1_1.out.below hbel)
  have B2 := Lib.hid (B1.out.trans (hbel.mono hsz1))
  have hsz2 := B2.out.size
  clear X_1 Y_1 Z_1 r1_1 hbel
  go_wp2_with fail
  refine (CN.out _ _ _ X_2.out Y_2.out).mono ?_
  rintro e w3 ⟨v3, rfl, hown, hbel⟩
  have X_3 := Lib.hid (X_2.out.below hbel)
  have Y_3 := Lib.hid (Y_2.out.below hbel)
  have Z_3 := Lib.hid (Z_2.out.below hbel)
  have r1_3 := Lib.hid (r1_2.out.below hbel)
  have p1_3 := Lib.hid (hown.mono hsz2)
  have B3 := Lib.hid (B2.out.trans (hbel.mono hsz2))
  have hsz3 := B3.out.size
  clear X_2 Y_2 Z_2 r1_2 hown hbel
  go_wp2_with fail
  refine (CS.out _ _ _ _ X_3.out Y_3.out Z_3.out).mono ?_
  rintro e w4 ⟨v4, rfl, hown, hbel⟩
  have X_4 := Lib.hid (X_3.out.below hbel)
  have Y_4 := Lib.hid (Y_3.out.below hbel)
  have Z_4 := Lib.hid (Z_3.out.below hbel)
  have r1_4 := Lib.hid (r1_3.out.below hbel)
  have p1_4 := Lib.hid (p1_3.out.below hbel)
  have p2_4 := Lib.hid (hown.mono hsz3)
  have B4 := Lib.hid (B3.out.trans (hbel.mono hsz3))
  have hsz4 := B4.out.size
  clear X_3 Y_3 Z_3 r1_3 p1_3 hown hbel
  go_wp2_with fail
  refine (equal_yes (RC.map vl) _ _ _ (Rd.ofow p1_4.out) (Rd.ofow r1_4.out)).mono ?_
  rintro e w5 ⟨rfl, hbel⟩
  have X_5 := Lib.hid (X_4.out.below hbel)
  have Y_5 := Lib.hid (Y_4.out.below hbel)
  have Z_5 := Lib.hid (Z_4.out.below hbel)
  have r1_5 := Lib.hid (r1_4.out.below hbel)
  have p1_5 := Lib.hid (p1_4.out.below hbel)
  have p2_5 := Lib.hid (p2_4.out.below hbel)
  have B5 := Lib.hid (B4.out.trans (hbel.mono hsz4))
  have hsz5 := B5.out.size
  clear X_4 Y_4 Z_4 r1_4 p1_4 p2_4 hbel
  go_wp2_with fail
  refine (equal_yes ([].map vl) _ _ _ (Rd.ofow p2_5.out) (Rd.nil _ _)).mono ?_
  rintro e w6 ⟨rfl, hbel⟩
  have X_6 := Lib.hid (X_5.out.below hbel)
  have Y_6 := Lib.hid (Y_5.out.below hbel)
  have Z_6 := Lib.hid (Z_5.out.below hbel)
  have r1_6 := Lib.hid (r1_5.out.below hbel)
  have p1_6 := Lib.hid (p1_5.out.below hbel)
  have p2_6 := Lib.hid (p2_5.out.below hbel)
  have B6 := Lib.hid (B5.out.trans (hbel.mono hsz5))
  have hsz6 := B6.out.size
  clear X_5 Y_5 Z_5 r1_5 p1_5 p2_5 hbel
  go_wp2
  go_ret
  exact ⟨rfl, B6.out⟩
set_option maxHeartbeats 8000000 in
set_option maxRecDepth 100000 in
theorem ss_ab (ks : List Nat) (xs : List Int) (x : Int) (bs : List Int) (v v2 v3 : Value) (w : World) (h : Rd .i64 w v (zi (szs ks))) (h2 : Rd .u64 w v2 xs) (h3 : Rd .i64 w v3 bs) (hw : W64 (zi (szs ks))) (hs : Shp (szs ks)) (hk10 : ∀ k ∈ ks, k ≤ 10) (hx : B64 xs) (hwb : W64 bs) (x0 : 0 ≤ x) (x1 : x < 18446744073709551616) (h64 : pk ks ≤ 64) (hla : xs.length = pk ks) (hlb : bs.length = ks.length) :
    Calls Try.prog 6 #[v, v2, .int .u64 x, v3] w (RetV w (.bool true)) := by
  obtain ⟨n, hn⟩ : ∃ n, n = pr (szs ks) := ⟨_, rfl⟩
  have HN := Lib.hid hn
  have HS := Lib.hid hs
  have X := Lib.hid h
  have Y := Lib.hid h2
  have Z := Lib.hid h3
  have hn1 : 1 ≤ n := by rw [hn]; exact hs.pr1
  have hN1 : 1 ≤ ks.length := by have := hs.len0; rwa [szs_len] at this
  have hN3 : ks.length ≤ 3 := by have := hs.len3; rwa [szs_len] at this
  have hpk : pk ks ≤ 1024 := hs.le
  have CO := Lib.hid (fun w v v2 h h2 => of_ok (zi (szs ks)) xs (szs ks) x v v2 w h h2 hw rfl hs hla hx x0 x1)
  have CV := Lib.hid (fun w v2 h2 => reval_any xs v2 x w h2 hx x0 x1)
  have CN := Lib.hid (fun w v v2 h h2 => corners_ok ks xs v v2 w h h2 hw hs hx hla)
  have CM := Lib.hid (fun w v v2 h h2 => rcorners_ok ks xs v v2 w h h2 hw hs hx hla)
  obtain ⟨EV, hEV⟩ : ∃ y, y = evl (xs.map toF) (toF x) := ⟨_, rfl⟩
  obtain ⟨RC, hRC⟩ : ∃ l, l = crn ks (xs.map toF) (2 ^ ks.length) := ⟨_, rfl⟩
  rw [← hEV] at CO CV
  rw [corners_all hk10, ← hRC] at CM
  rw [← hRC] at CN
  have CS := Lib.hid (fun w v v2 v3 h h2 h3 => shift_ok ks xs bs v v2 v3 w h h2 h3 hw hs hx hla hlb)
  have CT := Lib.hid (fun w v v2 v3 h h2 h3 => rshifted_ok ks xs bs v v2 v3 w h h2 h3 hw hs hx hla hlb hwb)
  obtain ⟨RS, hRS⟩ : ∃ l, l = shL ks bs (xs.map toF) (pk ks) := ⟨_, rfl⟩
  rw [← hRS] at CS CT
  obtain ⟨a, cap, rfl, hcap, hm⟩ := h.shape
  have LZ := Lib.hid (show (zi (szs ks)).length = ks.length by rw [zi_len, szs_len])
  rw [LZ.out] at hcap X ⊢
  obtain ⟨a2, cap2, rfl, hcap2, hm2⟩ := h2.shape
  obtain ⟨a3, cap3, rfl, hcap3, hm3⟩ := h3.shape
  rw [show pk ks = pr (szs ks) from rfl, ← hn] at hla h64
  obtain ⟨p, hp⟩ : ∃ p, p = xs.length := ⟨_, rfl⟩
  obtain ⟨q, hq2⟩ : ∃ p, p = bs.length := ⟨_, rfl⟩
  rw [← hp] at hla hcap2 Y ⊢
  rw [← hq2] at hlb hcap3 Z ⊢
  have d3 : decide ((64 : Int) < (n : Int)) = false := by rw [decide_eq_false_iff_not]; omega
  subst hla
  obtain ⟨N, hN⟩ : ∃ N, N = ks.length := ⟨_, rfl⟩
  rw [← hN] at hN1 hN3 hcap X hlb ⊢
  subst hlb
  clear h h2 h3 hn hs hk10 LZ hN hp hq2 hEV hRC hRS
  have B0 := Lib.hid (Below.refl w.heap.size w)
  have hsz0 : w.heap.size ≤ w.heap.size := Nat.le_refl _
  go_enter Try.func6, Try.ntmps6
  go_wp2_with fail
  refine (rshape_any (zi (szs ks)) _ _ X.out hw).mono ?_
  rintro e w' ⟨he, rfl⟩
  obtain rfl := he.ok HS.out
  rw [← HN.out]
  go_wp2_with fail
  refine (CV.out _ _ Y.out).mono ?_
  rintro e w' ⟨rfl, rfl⟩
  go_wp2_with fail
  refine (CM.out _ _ _ X.out Y.out).mono ?_
  rintro e w1 ⟨v1, rfl, hown, hbel⟩
  have X_1 := Lib.hid (X.out.below hbel)
  have Y_1 := Lib.hid (Y.out.below hbel)
  have Z_1 := Lib.hid (Z.out.below hbel)
  have r1_1 := Lib.hid (hown.mono hsz0)
  have B1 := Lib.hid (B0.out.trans (hbel.mono hsz0))
  have hsz1 := B1.out.size
  clear X Y Z hown hbel
  go_wp2_with fail
  refine (CT.out _ _ _ _ X_1.out Y_1.out Z_1.out).mono ?_
  rintro e w2 ⟨v2, rfl, hown, hbel⟩
  have X_2 := Lib.hid (X_1.out.below hbel)
  have Y_2 := Lib.hid (Y_1.out.below hbel)
  have Z_2 := Lib.hid (Z_1.out.below hbel)
  have r1_2 := Lib.hid (r1_1.out.below hbel)
  have r2_2 := Lib.hid (hown.mono hsz1)
  have B2 := Lib.hid (B1.out.trans (hbel.mono hsz1))
  have hsz2 := B2.out.size
  clear X_1 Y_1 Z_1 r1_1 hown hbel
  go_wp2_with fail
  refine (CO.out _ _ _ X_2.out Y_2.out).mono ?_
  rintro e w3 ⟨rfl, hbel⟩
  have X_3 := Lib.hid (X_2.out.below hbel)
  have Y_3 := Lib.hid (Y_2.out.below hbel)
  have Z_3 := Lib.hid (Z_2.out.below hbel)
  have r1_3 := Lib.hid (r1_2.out.below hbel)
  have r2_3 := Lib.hid (r2_2.out.below hbel)
  have B3 := Lib.hid (B2.out.trans (hbel.mono hsz2))
  have hsz3 := B3.out.size
  clear X_2 Y_2 Z_2 r1_2 r2_2 hbel
  go_wp2_with fail
  refine (CN.out _ _ _ X_3.out Y_3.out).mono ?_
  rintro e w4 ⟨v4, rfl, hown, hbel⟩
  have X_4 := Lib.hid (X_3.out.below hbel)
  have Y_4 := Lib.hid (Y_3.out.below hbel)
  have Z_4 := Lib.hid (Z_3.out.below hbel)
  have r1_4 := Lib.hid (r1_3.out.below hbel)
  have r2_4 := Lib.hid (r2_3.out.below hbel)
  have p1_4 := Lib.hid (hown.mono hsz3)
  have B4 := Lib.hid (B3.out.trans (hbel.mono hsz3))
  have hsz4 := B4.out.size
  clear X_3 Y_3 Z_3 r1_3 r2_3 hown hbel
  go_wp2_with fail
  refine (CS.out _ _ _ _ X_4.out Y_4.out Z_4.out).mono ?_
  rintro e w5 ⟨v5, rfl, hown, hbel⟩
  have X_5 := Lib.hid (X_4.out.below hbel)
  have Y_5 := Lib.hid (Y_4.out.below hbel)
  have Z_5 := Lib.hid (Z_4.out.below hbel)
  have r1_5 := Lib.hid (r1_4.out.below hbel)
  have r2_5 := Lib.hid (r2_4.out.below hbel)
  have p1_5 := Lib.hid (p1_4.out.below hbel)
  have p2_5 := Lib.hid (hown.mono hsz4)
  have B5 := Lib.hid (B4.out.trans (hbel.mono hsz4))
  have hsz5 := B5.out.size
  clear X_4 Y_4 Z_4 r1_4 r2_4 p1_4 hown hbel
  go_wp2_with fail
  refine (equal_yes (RC.map vl) _ _ _ (Rd.ofow p1_5.out) (Rd.ofow r1_5.out)).mono ?_
  rintro e w6 ⟨rfl, hbel⟩
  have X_6 := Lib.hid (X_5.out.below hbel)
  have Y_6 := Lib.hid (Y_5.out.below hbel)
  have Z_6 := Lib.hid (Z_5.out.below hbel)
  have r1_6 := Lib.hid (r1_5.out.below hbel)
  have r2_6 := Lib.hid (r2_5.out.below hbel)
  have p1_6 := Lib.hid (p1_5.out.below hbel)
  have p2_6 := Lib.hid (p2_5.out.below hbel)
  have B6 := Lib.hid (B5.out.trans (hbel.mono hsz5))
  have hsz6 := B6.out.size
  clear X_5 Y_5 Z_5 r1_5 r2_5 p1_5 p2_5 hbel
  go_wp2_with fail
  refine (equal_yes (RS.map vl) _ _ _ (Rd.ofow p2_6.out) (Rd.ofow r2_6.out)).mono ?_
  rintro e w7 ⟨rfl, hbel⟩
  have X_7 := Lib.hid (X_6.out.below hbel)
  have Y_7 := Lib.hid (Y_6.out.below hbel)
  have Z_7 := Lib.hid (Z_6.out.below hbel)
  have r1_7 := Lib.hid (r1_6.out.below hbel)
  have r2_7 := Lib.hid (r2_6.out.below hbel)
  have p1_7 := Lib.hid (p1_6.out.below hbel)
  have p2_7 := Lib.hid (p2_6.out.below hbel)
  have B7 := Lib.hid (B6.out.trans (hbel.mono hsz6))
  have hsz7 := B7.out.size
  clear X_6 Y_6 Z_6 r1_6 r2_6 p1_6 p2_6 hbel
  go_wp2
  go_ret
  exact ⟨rfl, B7.out⟩
theorem wSealSays (zs : List Int) (xs : List Int) (x : Int) (bs : List Int) (v v2 v3 : Value) (w : World) (h : Rd .i64 w v zs) (h2 : Rd .u64 w v2 xs) (h3 : Rd .i64 w v3 bs) (hw : W64 zs) (hx : B64 xs) (hwb : W64 bs) (wx : (Lit.int .u64 x).wf = true) :
    Calls Try.prog 6 #[v, v2, .int .u64 x, v3] w (RetV w (.bool true)) := by
  obtain ⟨x0, x1⟩ := u64_bounds wx
  rcases shape_cases zs with hb | hb | ⟨ds, rfl, hs⟩
  · exact ss_bad zs xs x bs v v2 v3 w 1 h h2 h3 hw (.inl ⟨rfl, hb⟩)
  · exact ss_bad zs xs x bs v v2 v3 w 2 h h2 h3 hw (.inr ⟨rfl, hb⟩)
  obtain ⟨ks, rfl, hk10⟩ := shp_ks hs
  by_cases h64 : 64 < pk ks
  · exact ss_more ks xs x bs v v2 v3 w h h2 h3 hw hs hk10 hx hwb x0 x1 h64
  have h64 : pk ks ≤ 64 := by omega
  by_cases hla : xs.length = pk ks
  · by_cases hlb : bs.length = ks.length
    · exact ss_ab ks xs x bs v v2 v3 w h h2 h3 hw hs hk10 hx hwb x0 x1 h64 hla hlb
    · exact ss_ax ks xs x bs v v2 v3 w h h2 h3 hw hs hk10 hx hwb x0 x1 h64 hla hlb
  · exact ss_xx ks xs x bs v v2 v3 w h h2 h3 hw hs hk10 hx hwb x0 x1 h64 hla
end Go.Proofs.Ytjljndnpefdifaa.Gm
