/- many.Cyclic. -/
import Derived.Test.YtkcfnbfkbmgchaaDoorAn
namespace Go.Proofs.YtkcfnbfkbmgchaaDoor.Gm
open Go.RowKit
set_option linter.unusedVariables false
/-- the product round all axes, as a list -/
@[irreducible] def cysL (ks : List Nat) (l m : List F) : List F := (List.range (pk ks)).map (cycs ks (cf l) (cf m))
theorem cysL_len (ks : List Nat) (l m : List F) : (cysL ks l m).length = pk ks := by unfold cysL; simp
theorem cf_cysL (ks : List Nat) (l m : List F) {p : Nat} (hp : p < pk ks) : cf (cysL ks l m) p = cycs ks (cf l) (cf m) p := by unfold cysL; exact cf_ofFn _ hp
theorem cys_list {ks : List Nat} (hk : ∀ k ∈ ks, k ≤ 20) (l m : List F) : WL true ks (prL (WL false ks l) (WL false ks m) (pk ks)) = cysL ks l m := by
  refine ext_cf (by rw [WL_len, cysL_len]) (fun i hi => ?_)
  rw [WL_len] at hi
  rw [cf_WL _ _ _ hi, cf_cysL _ _ _ hi, ← WT_cycs hk _ _ hi]
  refine WT_congr (fun j hj => ?_) i
  rw [cf_prL _ _ _ (by rw [WL_len]; exact hj), if_pos hj, cf_WL _ _ _ hj, cf_WL _ _ _ hj]
theorem two_form (ds : List Nat) (zs ys : List Int) (v v2 v3 : Value) (w : World) (h : Rd .i64 w v (zi ds)) (h2 : Rd .u64 w v2 zs) (h3 : Rd .u64 w v3 ys) (hw : W64 (zi ds)) (hs : Shp ds) (t : TypeId) :
    Calls Tryd.prog 79 #[v, .slice (some ⟨w.heap.size, 0, none⟩) 2 2] (w.alloc (.cells #[v2, v3] t)) fun e w' => ((zs.length = pr ds ∧ ys.length = pr ds) ∧ e = .returned (.int .i64 0) ∨ ¬ (zs.length = pr ds ∧ ys.length = pr ds) ∧ e = .returned (.int .i64 5)) ∧ Below w.heap.size w w' := by
  have hal := (Below.refl w.heap.size w).alloc (Nat.le_refl _) (.cells #[v2, v3] t)
  obtain ⟨a, cap, rfl, hcap, hm⟩ := h2.shape
  obtain ⟨a3, cap3, rfl, hcap3, hm3⟩ := h3.shape
  have := form_ok ds [zs.length, ys.length] w.heap.size v _ (h.below hal) hw hs (by simp) (by intro d hd; simp at hd; omega) (fun i hi => by
    have : i = 0 ∨ i = 1 := by simp at hi; omega
    rcases this with rfl | rfl
    · exact ⟨a, cap, by rw [World.cell?_alloc_at _ _ _ _ rfl, nd_zero]; rfl⟩
    · exact ⟨a3, cap3, by rw [World.cell?_alloc_at _ _ _ _ rfl, show nd [zs.length, ys.length] 1 = ys.length by rw [nd_succ, nd_zero]]; rfl⟩)
  refine this.mono ?_
  rintro e w' (⟨h1, rfl, hb⟩ | ⟨⟨d, hd, h1⟩, rfl, hb⟩)
  · exact ⟨.inl ⟨⟨h1 _ (by simp), h1 _ (by simp)⟩, rfl⟩, hal.trans (hb.mono (by simp))⟩
  · refine ⟨.inr ⟨fun hh => ?_, rfl⟩, hal.trans (hb.mono (by simp))⟩
    have : d = zs.length ∨ d = ys.length := by simpa using hd
    rcases this with rfl | rfl
    · exact h1 hh.1
    · exact h1 hh.2
theorem mcyc_bad (zs xs ys : List Int) (n : Int) (v v2 v3 : Value) (w : World) (h : Rd .i64 w v zs) (h2 : Rd .u64 w v2 xs) (h3 : Rd .u64 w v3 ys) (hw : W64 zs) (hn : n = 1 ∧ Bad zs ∨ n = 2 ∧ Big zs) :
    Calls Tryd.prog 42 #[v, v2, v3] w (RetLE w [] n) := by
  have hn0 : (n != 0) = true := by rcases hn with ⟨rfl, _⟩ | ⟨rfl, _⟩ <;> rfl
  have CF := Lib.hid (fun w lv h => form_bad zs n v lv w h hw hn)
  have X := Lib.hid h
  obtain ⟨a2, cap2, rfl, hcap2, hm2⟩ := h2.shape
  obtain ⟨a3, cap3, rfl, hcap3, hm3⟩ := h3.shape
  clear h h2 h3 hw hn
  go_enter Tryd.func42, Tryd.ntmps42
  go_wp2_with fail
  have hal := fun t => (Below.refl w.heap.size w).alloc (Nat.le_refl _) (.cells #[.slice a2 xs.length cap2, .slice a3 ys.length cap3] t)
  refine (CF.out _ _ (X.out.below (hal _))).mono ?_
  rintro e w1 ⟨rfl, hb⟩
  have B1 := Lib.hid ((hal _).trans (hb.mono (by simp)))
  clear hb hal
  go_wp2
  go_ret2
  exact ⟨_, rfl, Ow.nil _ _, B1.out⟩
theorem mcyc_len (ds : List Nat) (xs ys : List Int) (v v2 v3 : Value) (w : World) (h : Rd .i64 w v (zi ds)) (h2 : Rd .u64 w v2 xs) (h3 : Rd .u64 w v3 ys) (hw : W64 (zi ds)) (hs : Shp ds) (hne : ¬ (xs.length = pr ds ∧ ys.length = pr ds)) :
    Calls Tryd.prog 42 #[v, v2, v3] w (RetLE w [] 5) := by
  have CF := Lib.hid (fun w h h2 h3 t => two_form ds xs ys v v2 v3 w h h2 h3 hw hs t)
  have X := Lib.hid h
  have Y := Lib.hid h2
  have Z := Lib.hid h3
  have HN := Lib.hid hne
  obtain ⟨a2, cap2, rfl, hcap2, hm2⟩ := h2.shape
  obtain ⟨a3, cap3, rfl, hcap3, hm3⟩ := h3.shape
  clear h h2 h3 hw hs hne
  go_enter Tryd.func42, Tryd.ntmps42
  go_wp2_with fail
  refine (CF.out _ X.out Y.out Z.out _).mono ?_
  rintro e w1 ⟨⟨he, _⟩ | ⟨_, rfl⟩, hb⟩
  · exact absurd he HN.out
  have B1 := Lib.hid hb
  clear hb
  go_wp2
  go_ret2
  exact ⟨_, rfl, Ow.nil _ _, B1.out⟩
set_option maxHeartbeats 4000000 in
set_option maxRecDepth 100000 in
theorem mcyc_ok (ks : List Nat) (xs ys : List Int) (v v2 v3 : Value) (w : World) (h : Rd .i64 w v (zi (szs ks))) (h2 : Rd .u64 w v2 xs) (h3 : Rd .u64 w v3 ys) (hw : W64 (zi (szs ks))) (hs : Shp (szs ks)) (hk : ∀ k ∈ ks, k ≤ 10)
    (hx : B64 xs) (hy : B64 ys) (hl : xs.length = pk ks) (hl2 : ys.length = pk ks) (hT : Tb w) :
    Calls Tryd.prog 42 #[v, v2, v3] w (RetLE w (cysL ks (xs.map toF) (ys.map toF)) 0) := by
  rw [← cys_list (fun k h => by have := hk k h; omega)]
  have X := Lib.hid h
  have Y := Lib.hid h2
  have Z := Lib.hid h3
  have T := Lib.hid hT
  obtain ⟨f, hf⟩ : ∃ l, l = WL false ks (xs.map toF) := ⟨_, rfl⟩
  obtain ⟨g, hg⟩ : ∃ l, l = WL false ks (ys.map toF) := ⟨_, rfl⟩
  obtain ⟨n, hn⟩ : ∃ n, n = pk ks := ⟨_, rfl⟩
  have hn1 : 1 ≤ n := by rw [hn]; exact pk_pos ks
  have lf : f.length = n := by rw [hf, WL_len, hn]
  have lg' : g.length = n := by rw [hg, WL_len, hn]
  have hn2 : n ≤ 1024 := by rw [hn]; exact hs.le
  have CF := Lib.hid (fun w h h2 h3 t => two_form (szs ks) xs ys v v2 v3 w h h2 h3 hw hs t)
  have C1 := Lib.hid (fun w v v2 h h2 hT => by have := all_ok ks xs false v v2 w h h2 hw hs hx hl hT; rwa [← hf] at this)
  have C2 := Lib.hid (fun w v v2 h h2 hT => by have := all_ok ks ys false v v2 w h h2 hw hs hy hl2 hT; rwa [← hg] at this)
  have C3 := Lib.hid (fun w v v2 h h2 hT => by have := all_ok ks ((prL f g n).map vl) true v v2 w h h2 hw hs (B64.vl _) (by rw [List.length_map, prL_len, lf, hn]) hT; rwa [map_toF_vl] at this)
  obtain ⟨a2, cap2, rfl, hcap2, hm2⟩ := h2.shape
  obtain ⟨a3, cap3, rfl, hcap3, hm3⟩ := h3.shape
  have LF := Lib.hid lf
  have LG := Lib.hid lg'
  have PZ := Lib.hid (prL_zero f g)
  have PL := Lib.hid (fun m => (prL_len f g m).trans lf)
  have PS := Lib.hid (fun m (hm : m < n) => prL_step f g (m := m) (by rw [lf]; exact hm))
  have PA := Lib.hid (fun m (hm : m < n) => prL_at f g (m := m) (by rw [lf]; exact hm))
  have HL := Lib.hid (show xs.length = pr (szs ks) ∧ ys.length = pr (szs ks) from ⟨hl, hl2⟩)
  rw [← hf, ← hg, ← hn]
  clear h h2 h3 hw hs hx hy hl hl2 hT hf hg hn lf lg'
  go_enter Tryd.func42, Tryd.ntmps42
  go_wp2_with fail
  refine (CF.out _ X.out Y.out Z.out _).mono ?_
  rintro e w1 ⟨⟨hx1, rfl⟩ | ⟨hne, _⟩, hb⟩
  rotate_left
  · exact absurd HL.out hne
  clear hx1
  have X1 := Lib.hid (X.out.below hb)
  have Y1 := Lib.hid (Y.out.below hb)
  have Z1 := Lib.hid (Z.out.below hb)
  have T1 := Lib.hid (T.out.below hb)
  have B1 := Lib.hid hb
  have hs1 := hb.size
  clear hb
  go_wp2_with fail
  refine (C1.out _ _ _ X1.out Y1.out T1.out).mono ?_
  rintro e w2 ⟨v2', rfl, ho, hb⟩
  have O2 := Lib.hid (Ow.mono (l := f) ho hs1)
  have Z2 := Lib.hid (Z1.out.below hb)
  have X2 := Lib.hid (X1.out.below hb)
  have T2 := Lib.hid (T1.out.below hb)
  have B2 := Lib.hid (B1.out.trans (hb.mono hs1))
  have hs2 := B2.out.size
  clear ho hb
  go_wp2_with fail
  refine (C2.out _ _ _ X2.out Z2.out T2.out).mono ?_
  rintro e w3 ⟨v3', rfl, ho, hb⟩
  obtain ⟨gx, cpx, rfl, hcx, hmx⟩ := Ow.opened O2.out (by rw [LF.out]; exact hn1)
  obtain ⟨gy, cpy, rfl, hcy, hmy⟩ := Ow.opened ho (by rw [LG.out]; exact hn1)
  have hw1 := O2.out.base.2
  have hgy := (Ow.base ho).1
  have hne : gx ≠ gy := by omega
  have O3 := O2.out.below hb
  have P3 := Ow.mono (l := g) ho hs2
  rw [← PZ.out] at O3
  rw [LF.out] at hcx
  rw [PL.out] at O3
  rw [LG.out] at hcy P3
  have O3 := Lib.hid O3
  have P3 := Lib.hid P3
  have B3 := Lib.hid (B2.out.trans (hb.mono hs2))
  clear ho hb O2 B1 B2 X1 Y1 Z1 T1 X2 Z2 T2
  rw [LF.out, LG.out]
  go_wp2
  go_loopw [13, 36] (fun _ i wr => TmRel w n gx cpx f g (.slice (some ⟨gy, 0, none⟩) n cpy) i wr) (fun _ i _ => n - (intOf i).toNat)
  case atStart => exact ⟨0, by omega, rfl, O3.out, P3.out, B3.out⟩
  case round =>
    obtain ⟨m, hm1, rfl, ho1, ho2, hbel⟩ := hrel
    have OO := Lib.hid ho1
    have OP := Lib.hid ho2
    have HB := Lib.hid hbel
    have hwsz := hbel.size
    clear ho1 ho2 hbel O3 P3 B3
    by_cases hml : m < n
    · have LM := Lib.hid (PL.out m)
      have c1 : wr.cell? ⟨gx, m, none⟩ = some (.int .u64 (vl (cf f m))) := by
        rw [← PA.out m hml]; exact Ow.cell (l := prL f g m) (cap := cpx) (by rw [LM.out]; exact OO.out) (by rw [LM.out]; exact hml)
      have c2 : wr.cell? ⟨gy, m, none⟩ = some (.int .u64 (vl (cf g m))) := Ow.cell (l := g) (cap := cpy) (by rw [LG.out]; exact OP.out) (by rw [LG.out]; exact hml)
      have SM := Lib.hid (PS.out m hml)
      generalize cf f m = x at *
      generalize cf g m = y at *
      go_wp2
      go_still_tail 12, (by kernel_rfl)
      still_call (s_same (mul_F x y _))
      repeat still_step
      try refine wpStill_nil ?_
      change wpList _ _ _ _ _ wr.drew
      go_wp2_with (refine wl_storeF _ rfl (.tmp 50) (.tmp 49) rfl w.heap.size gx m n cpx (prL f g m) (x * y) rfl rfl (Ow.drewN OO.out 1) LM.out hml ?_)
      intro w5 hown5 ho5 hs5
      rw [SM.out] at hown5
      have hgB := OO.out.base.1
      have O4 := Lib.hid hown5
      have O5 := Ow.only (OP.out.drewN 1) ho5 (fun gg e eg => by
        have e1 : gy = gg := by simpa [Value.ownBlock] using e
        omega)
      have B5 := Lib.hid ((below_drewN HB.out 1).trans (ho5.below hwsz (fun gg e => by omega)))
      clear hown5 ho5 hs5 c1 c2
      go_wp2
      go_roundw
      case rel => exact ⟨m + 1, by omega, by go_num, O4.out, O5, B5.out⟩
      case measure => simp [intOf] <;> omega
    · obtain rfl : n = m := by omega
      have T3 := Lib.hid (T.out.below HB.out)
      have X3 := Lib.hid (X.out.below HB.out)
      go_wp2_with fail
      refine (C3.out _ _ _ X3.out OO.out.rd T3.out).mono ?_
      rintro e w4 ⟨v4, rfl, ho, hb⟩
      have O6 := Lib.hid (Ow.mono (l := WL true ks (prL f g n)) ho hwsz)
      have B4 := Lib.hid (HB.out.trans (hb.mono hwsz))
      clear ho hb
      go_wp2
      go_ret2
      exact ⟨_, rfl, O6.out, B4.out⟩
end Go.Proofs.YtkcfnbfkbmgchaaDoor.Gm
