/- conv.Linear. -/
import Derived.Test.YtdhmmllpldjkbaaGreatDoorVc
import Derived.Test.YtdhmmllpldjkbaaGreatDoorSh1
namespace Go.Proofs.YtdhmmllpldjkbaaGreatDoor.Gm
open Go.RowKit
set_option linter.unusedVariables false
/-- a call's end: a list to be read, an error's number -/
def RetRE (w : World) (l : List F) (n : Int) (e : Ending) (w' : World) : Prop := ∃ v, e = .returned (.tuple #[v, .int .i64 n]) ∧ Rd .u64 w' v (l.map vl) ∧ Below w.heap.size w w' ∧ Rw w.heap.size w' v
def TooBig (m n : Nat) : Prop := 1024 < m ∨ 1024 < n ∨ (0 < m ∧ 0 < n ∧ 1025 < m + n)
theorem lin_big (zs ys : List Int) (v v2 : Value) (w : World) (h : Rd .u64 w v zs) (h2 : Rd .u64 w v2 ys) (hb : TooBig zs.length ys.length) (hN : zs.length ≤ 17592186044416) (hN2 : ys.length ≤ 17592186044416) :
    Calls Tryz.prog 55 #[v, v2] w (RetRE w [] 2) := by
  obtain ⟨a, cap, rfl, hcap, hm⟩ := h.shape
  obtain ⟨a2, cap2, rfl, hcap2, hm2⟩ := h2.shape
  clear h h2
  generalize zs.length = m at *
  generalize ys.length = n at *
  unfold TooBig at hb
  rcases (show (1024 < m) ∨ (m ≤ 1024 ∧ 1024 < n) ∨ (m ≤ 1024 ∧ n ≤ 1024 ∧ 0 < m ∧ 0 < n ∧ 1025 < m + n) by omega) with h1 | ⟨h1, h2⟩ | ⟨h1, h2, h3, h4, h5⟩
  · clear hb
    go_enter Tryz.func55, Tryz.ntmps55
    go_wp2
    go_ret2
    exact ⟨_, rfl, Rd.nil _ _, Below.refl _ _, Rw.nil _ _⟩
  · clear hb
    have d1 : decide (1024 < m) = false := by rw [decide_eq_false_iff_not]; omega
    go_enter Tryz.func55, Tryz.ntmps55
    go_wp2
    go_ret2
    exact ⟨_, rfl, Rd.nil _ _, Below.refl _ _, Rw.nil _ _⟩
  · clear hb
    have d1 : decide (1024 < m) = false := by rw [decide_eq_false_iff_not]; omega
    have d2 : decide (1024 < n) = false := by rw [decide_eq_false_iff_not]; omega
    have e1 : IntKind.i64.wrap ((m : Int) + (n : Int)) = (m : Int) + (n : Int) := IntWalk.i64_in _ (by omega)
    have d3 : (1025 : Int) < (m : Int) + (n : Int) := by omega
    go_enter Tryz.func55, Tryz.ntmps55
    go_wp2
    go_ret2
    exact ⟨_, rfl, Rd.nil _ _, Below.refl _ _, Rw.nil _ _⟩
theorem lin_none (zs ys : List Int) (v v2 : Value) (w : World) (h : Rd .u64 w v zs) (h2 : Rd .u64 w v2 ys) (hb : ¬ TooBig zs.length ys.length) (he : zs.length = 0 ∨ ys.length = 0) :
    Calls Tryz.prog 55 #[v, v2] w (RetRE w [] 0) := by
  obtain ⟨a, cap, rfl, hcap, hm⟩ := h.shape
  obtain ⟨a2, cap2, rfl, hcap2, hm2⟩ := h2.shape
  clear h h2
  generalize zs.length = m at *
  generalize ys.length = n at *
  unfold TooBig at hb
  have d1 : decide (1024 < m) = false := by rw [decide_eq_false_iff_not]; omega
  have d2 : decide (1024 < n) = false := by rw [decide_eq_false_iff_not]; omega
  have l1 : m ≤ 1024 := by omega
  have l2 : n ≤ 1024 := by omega
  rcases (show m = 0 ∨ (0 < m ∧ n = 0) by omega) with rfl | ⟨h1, rfl⟩
  · clear hb he
    go_enter Tryz.func55, Tryz.ntmps55
    go_wp2
    go_ret2
    exact ⟨_, rfl, Rd.nil _ _, Below.refl _ _, Rw.nil _ _⟩
  · clear hb he
    have h0 : (m == 0) = false := by rw [beq_eq_false_iff_ne]; omega
    go_enter Tryz.func55, Tryz.ntmps55
    go_wp2
    go_ret2
    exact ⟨_, rfl, Rd.nil _ _, Below.refl _ _, Rw.nil _ _⟩
theorem map_ne {zs : List Int} (h : 0 < zs.length) : zs.map toF ≠ [] := fun e => by
  rw [List.map_eq_nil_iff] at e
  rw [e] at h
  exact absurd h (Nat.lt_irrefl 0)
theorem Rd.cutTo {k : IntKind} {w : World} {a : Option Addr} {n cap : Nat} {l : List Int} (h : Rd k w (.slice a n cap) l) (t c : Nat) (ht : t ≤ l.length) (hc : t ≤ c) (hc2 : c ≤ 9223372036854775807) : Rd k w (.slice a t c) (l.take t) := by
  obtain ⟨a2, cap2, b, off, e, h1, h2, h3, h4⟩ := h
  injection e with e1 e2 e3
  subst e1
  have hl : (l.take t).length = t := by rw [List.length_take]; omega
  refine ⟨a, c, b, off, by rw [hl], by rw [hl]; exact hc, hc2, ?_, fun i hi => ?_⟩
  · rcases h3 with h3 | h3
    · left; rw [h3]; simp
    · exact .inr h3
  · rw [hl] at hi
    rw [gd_eq, List.getElem?_take_of_lt hi, ← gd_eq]
    exact h4 i (by omega)
theorem siz_cf (zs : List Int) (n i : Nat) (h : zs.length ≤ n) : cf ((siz zs n).map toF) i = cf (zs.map toF) i := by
  rw [cf_map, cf_map]
  congr 1
  unfold siz
  rw [gd_eq, gd_eq, List.take_of_length_le h]
  by_cases hi : i < zs.length
  · rw [List.getElem?_append_left hi]
  · rw [List.getElem?_append_right (by omega), List.getElem?_eq_none (l := zs) (by omega), List.getElem?_replicate]
    split <;> rfl
theorem lin_list (zs ys : List Int) (c t : Nat) (hm : 0 < zs.length) (hn : 0 < ys.length) (ht : t + 1 = zs.length + ys.length) (hc : t ≤ 2 ^ c) :
    ((cycL c ((siz zs (2 ^ c)).map toF) ((siz ys (2 ^ c)).map toF)).map vl).take t = (mulL (zs.map toF) (ys.map toF)).map vl := by
  have hz := map_ne hm
  have hy := map_ne hn
  rw [← List.map_take]
  congr 1
  have hl : (mulL (zs.map toF) (ys.map toF)).length = t := by rw [mulL_len hz hy, List.length_map, List.length_map]; omega
  refine ext_cf (by rw [List.length_take, cycL_len, hl]; omega) (fun i hi => ?_)
  rw [List.length_take, cycL_len] at hi
  have ge1 : ∀ j, zs.length ≤ j → cf (zs.map toF) j = 0 := fun j hj => cf_ge (by rw [List.length_map]; exact hj)
  have ge2 : ∀ j, ys.length ≤ j → cf (ys.map toF) j = 0 := fun j hj => cf_ge (by rw [List.length_map]; exact hj)
  have e1 : cyc (2 ^ c) (cf ((siz zs (2 ^ c)).map toF)) (cf ((siz ys (2 ^ c)).map toF)) i = cyc (2 ^ c) (cf (zs.map toF)) (cf (ys.map toF)) i := S_congr (fun j _ => by
    rw [siz_cf _ _ _ (by omega), siz_cf _ _ _ (by omega)])
  rw [cf_take _ _ _ (by omega), cf_cycL _ _ _ (by omega), e1, cyc_cv (fun j hj => ge1 j (by omega)) (fun j hj => ge2 j (by omega)) (by omega), cf_mulL]
  rw [cv_zero (m := zs.length) (n := ys.length) (k := i + 2 ^ c) ge1 ge2 (by omega)]
  grind
set_option maxHeartbeats 4000000 in
set_option maxRecDepth 100000 in
theorem lin_ok (zs ys : List Int) (v v2 : Value) (w : World) (h : Rd .u64 w v zs) (h2 : Rd .u64 w v2 ys) (hz : B64 zs) (hy : B64 ys) (hb : ¬ TooBig zs.length ys.length) (h0 : 0 < zs.length) (h1 : 0 < ys.length) (hT : Tb w) :
    Calls Tryz.prog 55 #[v, v2] w (RetRE w (mulL (zs.map toF) (ys.map toF)) 0) := by
  have X := Lib.hid h
  have Y := Lib.hid h2
  have T := Lib.hid hT
  have bX := hz
  have bY := hy
  obtain ⟨a, cap, rfl, hcap, hm⟩ := h.shape
  obtain ⟨a2, cap2, rfl, hcap2, hm2⟩ := h2.shape
  have hbig := hb
  unfold TooBig at hbig
  obtain ⟨t, ht⟩ : ∃ t, t + 1 = zs.length + ys.length := ⟨zs.length + ys.length - 1, by omega⟩
  have LL := Lib.hid (fun c hc => lin_list zs ys c t h0 h1 ht hc)
  have LM := Lib.hid (show (mulL (zs.map toF) (ys.map toF)).length = t by
    rw [mulL_len (map_ne h0) (map_ne h1), List.length_map, List.length_map]; omega)
  have CT := Lib.hid (fun c (hc : c ≤ 10) v v2 w h h2 hT => times_ok c (siz zs (2 ^ c)) (siz ys (2 ^ c)) v v2 w h h2 (siz_64 hz _) (siz_64 hy _) hc (siz_len _ _) (siz_len _ _) hT)
  obtain ⟨R, hR⟩ : ∃ R, R = mulL (zs.map toF) (ys.map toF) := ⟨_, rfl⟩
  rw [← hR] at LL LM ⊢
  clear h h2 hT hb hR hz hy
  obtain ⟨m, hme⟩ : ∃ m, m = zs.length := ⟨_, rfl⟩
  obtain ⟨n, hne⟩ : ∃ n, n = ys.length := ⟨_, rfl⟩
  have HM := Lib.hid hme
  have HN := Lib.hid hne
  rw [← hme, ← hne] at ht hbig
  rw [← hme] at hcap h0 ⊢
  rw [← hne] at hcap2 h1 ⊢
  clear hme hne
  have l1 : m ≤ 1024 := by omega
  have l2 : n ≤ 1024 := by omega
  have d1 : decide (1024 < m) = false := by rw [decide_eq_false_iff_not]; omega
  have d2 : decide (1024 < n) = false := by rw [decide_eq_false_iff_not]; omega
  have ht2 : t ≤ 1024 := by omega
  have e1 : IntKind.i64.wrap ((m : Int) + (n : Int)) = (m : Int) + (n : Int) := IntWalk.i64_in _ (by omega)
  have d3 : decide ((1025 : Int) < (m : Int) + (n : Int)) = false := by rw [decide_eq_false_iff_not]; omega
  have d4 : (m : Int) + (n : Int) ≤ 1025 := by omega
  have d5 : m + n ≤ 1025 := by omega
  have d6 : decide (1025 < m + n) = false := by rw [decide_eq_false_iff_not]; omega
  have z1 : (m == 0) = false := by rw [beq_eq_false_iff_ne]; omega
  have z3 : ((m : Int) == 0) = false := by rw [beq_eq_false_iff_ne]; omega
  have z4 : ((n : Int) == 0) = false := by rw [beq_eq_false_iff_ne]; omega
  have z2 : (n == 0) = false := by rw [beq_eq_false_iff_ne]; omega
  have e2 : IntKind.i64.wrap ((m : Int) + (n : Int) - 1) = (t : Int) := by rw [show (m : Int) + (n : Int) - 1 = (t : Int) by omega]; exact wrap_nat (by omega)
  have e3 : (m : Int) + (n : Int) - 1 = (t : Int) := by omega
  clear hbig
  have HT := Lib.hid ht
  clear ht
  go_enter Tryz.func55, Tryz.ntmps55
  go_wp2
  go_loop [6] (fun s => ∃ c : Nat, c ≤ 10 ∧ s = .int .i64 ((2 ^ c : Nat) : Int) ∧ ∀ d, d < c → 2 ^ d < t) (fun s => 2048 - (intOf s).toNat)
  case atStart => exact ⟨0, by omega, rfl, fun d hd => absurd hd (by omega)⟩
  case round =>
    obtain ⟨c, hc, rfl, hlow⟩ := hrel
    have HLO := Lib.hid hlow
    clear hlow
    obtain ⟨s, hs⟩ : ∃ s, s = 2 ^ c := ⟨_, rfl⟩
    have hs1 : 1 ≤ s := by rw [hs]; exact Nat.two_pow_pos c
    have hs2 : s ≤ 1024 := by rw [hs]; exact Nat.pow_le_pow_right (by omega) hc
    have HS := Lib.hid hs
    rw [← hs]
    by_cases hlt : s < t
    · have hc9 : c < 10 := by
        apply Classical.byContradiction
        intro hn'
        have : c = 10 := by omega
        subst this
        omega
      have hlt2 : (s : Int) < (t : Int) := by omega
      have HC := Lib.hid hc
      clear hs hc
      go_wp2
      go_round
      case rel => exact ⟨c + 1, by omega, by rw [Nat.pow_succ, ← HS.out]; go_num, fun d hd => by
        by_cases h : d = c
        · subst h; rw [← HS.out]; exact hlt
        · exact HLO.out d (by omega)⟩
      case measure => simp [intOf] <;> omega
    · have hge : ¬ (s : Int) < (t : Int) := by omega
      have hge2 : decide ((s : Int) < (t : Int)) = false := by rw [decide_eq_false_iff_not]; exact hge
      have hnm : s ≤ 1000000 := by omega
      have hmk := run_mk s hnm
      have L1 := Lib.hid (LL.out c (by omega))
      have C1 := Lib.hid (fun v v2 w h h2 hT => CT.out c hc v v2 w h h2 hT)
      rw [← hs] at L1 C1
      have LC := Lib.hid (fun l m => (cycL_len c l m).trans hs.symm)
      have hts : t ≤ s := by omega
      have LSX := Lib.hid (siz_len zs s)
      have LSY := Lib.hid (siz_len ys s)
      obtain ⟨sx, hsx⟩ : ∃ l, l = siz zs s := ⟨_, rfl⟩
      obtain ⟨sy, hsy⟩ : ∃ l, l = siz ys s := ⟨_, rfl⟩
      have HSX := Lib.hid hsx
      have HSY := Lib.hid hsy
      rw [← hsx] at L1 C1 LSX
      rw [← hsy] at L1 C1 LSY
      clear hs LL CT hsx hsy HLO hlt
      obtain ⟨x, hx⟩ : ∃ x, x = w.heap.size := ⟨_, rfl⟩
      obtain ⟨y, hy⟩ : ∃ y, y = w.heap.size + 1 := ⟨_, rfl⟩
      have P1 := Lib.hid (show Oz .u64 51 w.heap.size (((w.alloc (.cells (madeCells #[.int .u64 0] s) 51)).alloc (.cells (madeCells #[.int .u64 0] s) 51)).drew) (.slice (some ⟨x, 0, none⟩) s s) (List.replicate s 0) by rw [hx]; exact ((oz_made _ s w (Nat.le_refl _) hnm).alloc _).drew)
      have P2 := Lib.hid (show Oz .u64 51 w.heap.size (((w.alloc (.cells (madeCells #[.int .u64 0] s) 51)).alloc (.cells (madeCells #[.int .u64 0] s) 51)).drew) (.slice (some ⟨y, 0, none⟩) s s) (List.replicate s 0) by
        have h := oz_made w.heap.size s (w.alloc (.cells (madeCells #[.int .u64 0] s) 51)) (by simp) hnm
        rw [hy]
        simpa using h.drew)
      have M0 := Lib.hid (below_drewN (((Below.refl w.heap.size w).alloc (Nat.le_refl _) (.cells (madeCells #[.int .u64 0] s) 51)).alloc (by simp) (.cells (madeCells #[.int .u64 0] s) 51)) 1)
      have hxy : x ≠ y := by omega
      go_wp2
      go_region
      · rw [← hy, ← hx]
        have Q1 := Lib.hid P1.out
        have Q2 := Lib.hid P2.out
        have M1 : Below w.heap.size w (((w.alloc (.cells (madeCells #[.int .u64 0] s) 51)).alloc (.cells (madeCells #[.int .u64 0] s) 51)).drew) := M0.out
        have M2 := Lib.hid M1
        clear P1 P2 M0 M1 hx hy hmk
        generalize (((w.alloc (.cells (madeCells #[.int .u64 0] s) 51)).alloc (.cells (madeCells #[.int .u64 0] s) 51)).drew) = wq at *
        have X1 := Lib.hid (show Rd .u64 wq (.slice a m cap) zs by rw [HM.out]; exact X.out.below M2.out)
        have hrep : (List.replicate s (0 : Int)).length = s := by simp
        have hub : Tryz.prog.underlying 44 = some (.slice 51) := Tryz.underlying44
        have hin : (Tryz.prog.info? 51).map (·.size) = some 1 := by kernel_rfl
        clear X
        have HREP := Lib.hid hrep
        clear hrep
        go_wp2_with (refine wl_copyO .u64 51 44 hub hin _ rfl (.tmp 59) (.tmp 60) rfl w.heap.size x s s (List.replicate s 0) zs _ rfl rfl Q1.out HREP.out X1.out ?_)
        intro z1' w5 hown5 ho5
        have O5 := Lib.hid (show Oz .u64 51 w.heap.size w5 (.slice (some ⟨x, 0, none⟩) s s) sx by rw [HSX.out]; exact hown5)
        have hbw : w.heap.size ≤ wq.heap.size := M2.out.size
        have hg1 := Q1.out.base.1
        have hg2 := Q2.out.base.1
        have Q5 := Lib.hid (Q2.out.only ho5 (fun gg e eg => by
          have e1 : y = gg := by simpa [Value.ownBlock] using e
          omega))
        have M5 := Lib.hid (M2.out.trans (ho5.below hbw (fun gg e => by omega)))
        have hbw5 := M5.out.size
        have Y5 := Lib.hid (show Rd .u64 w5 (.slice a2 n cap2) ys by rw [HN.out]; exact Y.out.below M5.out)
        clear hown5 ho5 Q1 Q2 X1 Y
        go_wp2_with (refine wl_copyO .u64 51 44 hub hin _ rfl (.tmp 62) (.tmp 63) rfl w.heap.size y s s (List.replicate s 0) ys _ rfl rfl Q5.out HREP.out Y5.out ?_)
        intro z2' w6 hown6 ho6
        have O6 := Lib.hid (show Oz .u64 51 w.heap.size w6 (.slice (some ⟨y, 0, none⟩) s s) sy by rw [HSY.out]; exact hown6)
        have Q6 := Lib.hid (O5.out.only ho6 (fun gg e eg => by
          have e1 : x = gg := by simpa [Value.ownBlock] using e
          omega))
        have M6 := Lib.hid (M5.out.trans (ho6.below hbw5 (fun gg e => by omega)))
        have hbw6 := M6.out.size
        have T6 := Lib.hid (T.out.below M6.out)
        have R1 := Lib.hid Q6.out.rd
        have R2 := Lib.hid O6.out.rd
        clear hown6 ho6 O5 Q5 Y5
        go_wp2_with fail
        refine (C1.out _ _ _ (by exact R1.out) (by exact R2.out) T6.out).mono ?_
        rintro e w7 ⟨v7, rfl, ho, hb⟩
        have M7 := Lib.hid (M6.out.trans (hb.mono hbw6))
        obtain ⟨g7, c7, rfl, h7, h7m⟩ := Ow.opened ho (by rw [LC.out]; exact hs1)
        have R7 := Lib.hid (Ow.rd ho)
        have RW7 := Lib.hid (Rw.of_own (ho.mono hbw6))
        rw [LC.out] at h7 R7
        have t7 : (t : Int) ≤ (c7 : Int) := by omega
        clear ho hb
        rw [LC.out]
        go_wp2
        go_ret2
        refine ⟨_, rfl, ?_, M7.out, RW7.out.cut t t (Nat.le_refl _) (by omega)⟩
        rw [← L1.out]
        have hcy : ((cycL c (sx.map toF) (sy.map toF)).map vl).length = s := by rw [List.length_map, LC.out]
        exact R7.out.cutTo t t (by rw [hcy]; exact hts) (Nat.le_refl _) (by omega)
      · rw [← hy, ← hx]
        have Q1 := Lib.hid P2.out
        have Q2 := Lib.hid P1.out
        have M1 : Below w.heap.size w (((w.alloc (.cells (madeCells #[.int .u64 0] s) 51)).alloc (.cells (madeCells #[.int .u64 0] s) 51)).drew) := M0.out
        have M2 := Lib.hid M1
        clear P1 P2 M0 M1 hx hy hmk
        generalize (((w.alloc (.cells (madeCells #[.int .u64 0] s) 51)).alloc (.cells (madeCells #[.int .u64 0] s) 51)).drew) = wq at *
        have X1 := Lib.hid (show Rd .u64 wq (.slice a m cap) zs by rw [HM.out]; exact X.out.below M2.out)
        have hrep : (List.replicate s (0 : Int)).length = s := by simp
        have hub : Tryz.prog.underlying 44 = some (.slice 51) := Tryz.underlying44
        have hin : (Tryz.prog.info? 51).map (·.size) = some 1 := by kernel_rfl
        clear X
        have HREP := Lib.hid hrep
        clear hrep
        go_wp2_with (refine wl_copyO .u64 51 44 hub hin _ rfl (.tmp 59) (.tmp 60) rfl w.heap.size y s s (List.replicate s 0) zs _ rfl rfl Q1.out HREP.out X1.out ?_)
        intro z1' w5 hown5 ho5
        have O5 := Lib.hid (show Oz .u64 51 w.heap.size w5 (.slice (some ⟨y, 0, none⟩) s s) sx by rw [HSX.out]; exact hown5)
        have hbw : w.heap.size ≤ wq.heap.size := M2.out.size
        have hg1 := Q1.out.base.1
        have hg2 := Q2.out.base.1
        have Q5 := Lib.hid (Q2.out.only ho5 (fun gg e eg => by
          have e1 : x = gg := by simpa [Value.ownBlock] using e
          omega))
        have M5 := Lib.hid (M2.out.trans (ho5.below hbw (fun gg e => by omega)))
        have hbw5 := M5.out.size
        have Y5 := Lib.hid (show Rd .u64 w5 (.slice a2 n cap2) ys by rw [HN.out]; exact Y.out.below M5.out)
        clear hown5 ho5 Q1 Q2 X1 Y
        go_wp2_with (refine wl_copyO .u64 51 44 hub hin _ rfl (.tmp 62) (.tmp 63) rfl w.heap.size x s s (List.replicate s 0) ys _ rfl rfl Q5.out HREP.out Y5.out ?_)
        intro z2' w6 hown6 ho6
        have O6 := Lib.hid (show Oz .u64 51 w.heap.size w6 (.slice (some ⟨x, 0, none⟩) s s) sy by rw [HSY.out]; exact hown6)
        have Q6 := Lib.hid (O5.out.only ho6 (fun gg e eg => by
          have e1 : y = gg := by simpa [Value.ownBlock] using e
          omega))
        have M6 := Lib.hid (M5.out.trans (ho6.below hbw5 (fun gg e => by omega)))
        have hbw6 := M6.out.size
        have T6 := Lib.hid (T.out.below M6.out)
        have R1 := Lib.hid Q6.out.rd
        have R2 := Lib.hid O6.out.rd
        clear hown6 ho6 O5 Q5 Y5
        go_wp2_with fail
        refine (C1.out _ _ _ (by exact R1.out) (by exact R2.out) T6.out).mono ?_
        rintro e w7 ⟨v7, rfl, ho, hb⟩
        have M7 := Lib.hid (M6.out.trans (hb.mono hbw6))
        obtain ⟨g7, c7, rfl, h7, h7m⟩ := Ow.opened ho (by rw [LC.out]; exact hs1)
        have R7 := Lib.hid (Ow.rd ho)
        have RW7 := Lib.hid (Rw.of_own (ho.mono hbw6))
        rw [LC.out] at h7 R7
        have t7 : (t : Int) ≤ (c7 : Int) := by omega
        clear ho hb
        rw [LC.out]
        go_wp2
        go_ret2
        refine ⟨_, rfl, ?_, M7.out, RW7.out.cut t t (Nat.le_refl _) (by omega)⟩
        rw [← L1.out]
        have hcy : ((cycL c (sx.map toF) (sy.map toF)).map vl).length = s := by rw [List.length_map, LC.out]
        exact R7.out.cutTo t t (by rw [hcy]; exact hts) (Nat.le_refl _) (by omega)
end Go.Proofs.YtdhmmllpldjkbaaGreatDoor.Gm
