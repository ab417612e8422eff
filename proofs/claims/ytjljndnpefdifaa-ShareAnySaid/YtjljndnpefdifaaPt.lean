/- The walk of poly.Through. -/
import Derived.Test.YtjljndnpefdifaaPm
import Derived.Test.YtjljndnpefdifaaLit
import Derived.Test.YtjljndnpefdifaaPla
namespace Go.Proofs.Ytjljndnpefdifaa.Gm
open Go.RowKit
/-- the first k points, the last one first -/
def psk (fx fy : List F) (k : Nat) : List (F × F) := ((fx.zip fy).take k).reverse
theorem psk_zero (fx fy : List F) : psk fx fy 0 = [] := by simp [psk]
theorem psk_succ (fx fy : List F) (k : Nat) (h1 : k < fx.length) (h2 : k < fy.length) : psk fx fy (k+1) = (cf fx k, cf fy k) :: psk fx fy k := by
  unfold psk
  rw [List.take_succ_eq_append_getElem (by rw [List.length_zip]; omega), List.reverse_append, List.getElem_zip, cf_lt h1, cf_lt h2]
  rfl
theorem psk_end (fx fy : List F) (h : fx.length = fy.length) : psk fx fy fx.length = (fx.zip fy).reverse := by
  unfold psk
  rw [List.take_of_length_le (by rw [List.length_zip]; omega)]
theorem psk_len (fx fy : List F) (k : Nat) (h1 : k ≤ fx.length) (h2 : k ≤ fy.length) : (psk fx fy k).length = k := by
  unfold psk; rw [List.length_reverse, List.length_take, List.length_zip]; omega
theorem psk_fst (fx fy : List F) (k : Nat) (h : fx.length = fy.length) : (psk fx fy k).map Prod.fst = (fx.take k).reverse := by
  unfold psk
  rw [List.map_reverse, List.map_take, List.map_fst_zip (by omega)]
theorem base_zero_iff (fx fy : List F) (k : Nat) (h : fx.length = fy.length) (x : F) : evl (newton (psk fx fy k)).1 x = 0 ↔ x ∈ fx.take k := by
  rw [newton_base, psk_fst fx fy k h, List.mem_reverse]
theorem nodup_take_succ (fx : List F) (k : Nat) (h : k < fx.length) (hd : (fx.take k).Nodup) (hn : cf fx k ∉ fx.take k) : (fx.take (k+1)).Nodup := by
  rw [take_snoc_F fx k h, List.nodup_append]
  refine ⟨hd, by simp, ?_⟩
  intro a ha b hb e
  have : b = cf fx k := by simpa using hb
  subst e; rw [this] at ha; exact hn ha
theorem not_nodup_of (fx : List F) (k : Nat) (h : k < fx.length) (hm : cf fx k ∈ fx.take k) : ¬ fx.Nodup := by
  intro hd
  have h1 : (fx.take (k+1)).Nodup := hd.sublist (List.take_sublist _ _)
  rw [take_snoc_F fx k h, List.nodup_append] at h1
  exact h1.2.2 _ hm _ (by simp) rfl
/-- what Through answers of lists that are as long as each other -/
def RetThr (w : World) (fx fy : List F) (e : Ending) (w' : World) : Prop :=
  (fx.Nodup ∧ RetLE w (newton ((fx.zip fy).reverse)).2 0 e w') ∨ (¬ fx.Nodup ∧ RetLE w [] 5 e w')
def ThrRel (w : World) (fx fy : List F) (n : Nat) (out base i : Value) (wr : World) : Prop :=
  ∃ k : Nat, k ≤ n ∧ i = .int .i64 k ∧ (fx.take k).Nodup ∧ Ow w.heap.size wr out (newton (psk fx fy k)).2 ∧ Ow w.heap.size wr base (newton (psk fx fy k)).1 ∧ Below w.heap.size w wr
theorem Ow.lit1 (w : World) (x : F) : Ow w.heap.size (w.alloc (.cells #[.int .u64 (vl x)] 27)) (.slice (some ⟨w.heap.size, 0, none⟩) 1 1) [x] := by
  have h := World.ownsRow_lit (base := w.heap.size) w #[Value.int .u64 (vl x)] (e := 27) (size := 1) 1 (Nat.le_refl _) (by unfold maxLen; omega) rfl
  exact h
theorem pthrough_bad (zs ys : List Int) (v v2 : Value) (w : World) (h : Rd .u64 w v zs) (h2 : Rd .u64 w v2 ys) (hl : zs.length ≤ 2048) (hl2 : ys.length ≤ 2048) (hb : zs.length ≠ ys.length ∨ 128 < zs.length) :
    Calls Try.prog 10 #[v, v2] w (RetLE w [] 5) := by
  obtain ⟨a, cap, rfl, hcap, hm⟩ := h.shape
  obtain ⟨a2, cap2, rfl, hcap2, hm2⟩ := h2.shape
  clear h h2
  obtain ⟨c1, c2⟩ := two_cells w (.slice a zs.length cap) (.slice a2 ys.length cap2) 22
  by_cases hne : zs.length = ys.length
  · have hlt : 128 < zs.length := by rcases hb with hb | hb; exact absurd hne hb; exact hb
    have hd : ((zs.length : Int) != (ys.length : Int)) = false := by rw [hne]; simp
    have hd' : (zs.length != ys.length) = false := by rw [hne]; simp
    clear hb hne
    go_enter Try.func10, Try.ntmps10
    go_wp2_with fail
    refine (large2_no w.heap.size _ _ _ _ _ _ _ c1 c2 hl hl2).mono ?_
    rintro e w' ⟨rfl, rfl⟩
    go_wp2
    go_ret2
    exact ⟨_, rfl, Ow.nil _ _, (Below.refl _ _).alloc (Nat.le_refl _) _⟩
  · have hd : ((zs.length : Int) != (ys.length : Int)) = true := by rw [bne_iff_ne]; omega
    have hd' : (zs.length != ys.length) = true := by rw [bne_iff_ne]; exact hne
    clear hb hne
    go_enter Try.func10, Try.ntmps10
    go_wp2_with fail
    refine (large2_no w.heap.size _ _ _ _ _ _ _ c1 c2 hl hl2).mono ?_
    rintro e w' ⟨rfl, rfl⟩
    go_wp2
    go_ret2
    exact ⟨_, rfl, Ow.nil _ _, (Below.refl _ _).alloc (Nat.le_refl _) _⟩
theorem inv_F (x : F) (w : World) (h : x ≠ 0) :
    Calls Try.prog 41 #[.int .u64 (vl x)] w fun e w' => e = .returned (.tuple #[.int .u64 (vl (inv x)), .int .i64 0]) ∧ w = w' := by
  have h1 := inv_any (vl x) w (vl_lo x) (vl_64 x) (by rw [toF_vl]; exact h)
  rwa [toF_vl] at h1
theorem inv_F0 (x : F) (w : World) (h : x = 0) :
    Calls Try.prog 41 #[.int .u64 (vl x)] w fun e w' => e = .returned (.tuple #[.int .u64 0, .int .i64 4]) ∧ w = w' :=
  inv_none (vl x) w (vl_lo x) (vl_64 x) (by rw [toF_vl]; exact h)
theorem sub_0x (x : Int) (w : World) (hx0 : 0 ≤ x) (hx1 : x < 18446744073709551616) :
    Calls Try.prog 18 #[.int .u64 0, .int .u64 x] w fun e w' => e = .returned (.int .u64 (vl (0 - toF x))) ∧ w = w' := by
  have h := sub_any 0 x w (by omega) (by omega) hx0 hx1
  rwa [toF_zero] at h
theorem mulL_le (l m : List F) : (mulL l m).length ≤ l.length + m.length := by
  unfold mulL
  split
  · simp
  · simp
theorem Rd.lit1 (w : World) (c : F) : Rd .u64 (w.alloc (.cells #[.int .u64 (vl c)] 27)) (.slice (some ⟨w.heap.size, 0, none⟩) 1 1) ([c].map vl) :=
  Rd.lit .u64 w ([c].map vl) 27 1 rfl (by simp)
theorem Rd.lit2 (w : World) (c : F) : Rd .u64 (w.alloc (.cells #[.int .u64 (vl c), .int .u64 1] 27)) (.slice (some ⟨w.heap.size, 0, none⟩) 2 2) ([c, 1].map vl) := by
  have h := Rd.lit .u64 w ([c, 1].map vl) 27 2 rfl (by simp)
  have e : (([c, 1] : List F).map vl).map (Value.int .u64) = [.int .u64 (vl c), .int .u64 1] := by
    show [Value.int .u64 (vl c), Value.int .u64 (vl 1)] = _
    rw [vl_one]
  rw [e] at h
  exact h
set_option maxHeartbeats 4000000 in
set_option maxRecDepth 100000 in
theorem pthrough_any (zs ys : List Int) (v v2 : Value) (w : World) (h : Rd .u64 w v zs) (h2 : Rd .u64 w v2 ys) (hz : B64 zs) (hy : B64 ys) (hle : zs.length = ys.length) (hl : zs.length ≤ 128) :
    Calls Try.prog 10 #[v, v2] w (RetThr w (zs.map toF) (ys.map toF)) := by
  obtain ⟨a, cap, b, off, rfl, hcap, hm, hx, hc⟩ := h.opened
  obtain ⟨a2, cap2, b2, off2, rfl, hcap2, hm2, hx2, hc2⟩ := h2.opened
  have hl2 : ys.length ≤ 128 := by omega
  have hle1 : zs.length ≤ ys.length := by omega
  have hle2 : ys.length ≤ zs.length := by omega
  obtain ⟨c1, c2⟩ := two_cells w (.slice a zs.length cap) (.slice a2 ys.length cap2) 22
  have hd : ((zs.length : Int) != (ys.length : Int)) = false := by rw [hle]; simp
  have hd' : (zs.length != ys.length) = false := by rw [hle]; simp
  obtain ⟨fx, hfx⟩ : ∃ fx, fx = zs.map toF := ⟨_, rfl⟩
  obtain ⟨fy, hfy⟩ : ∃ fy, fy = ys.map toF := ⟨_, rfl⟩
  have Lx := Lib.hid (show fx.length = zs.length by rw [hfx, List.length_map])
  have Ly := Lib.hid (show fy.length = ys.length by rw [hfy, List.length_map])
  have Gx := Lib.hid (show ∀ i, cf fx i = toF (gd zs i) from fun i => by rw [hfx, cf_map])
  have Gy := Lib.hid (show ∀ i, cf fy i = toF (gd ys i) from fun i => by rw [hfy, cf_map])
  have LE := Lib.hid (show fx.length = fy.length by rw [hfx, hfy, List.length_map, List.length_map, hle])
  rw [← hfx, ← hfy]
  have Hc := Lib.hid hc
  have Hc2 := Lib.hid hc2
  clear hfx hfy hc hc2 h h2 hle
  have hbase := Ow.lit1 (w.alloc (.cells #[.slice a zs.length cap, .slice a2 ys.length cap2] 22)) 1
  rw [vl_one, show (w.alloc (.cells #[.slice a zs.length cap, .slice a2 ys.length cap2] 22)).heap.size = w.heap.size + 1 by simp] at hbase
  have Base := Lib.hid (hbase.mono (B' := w.heap.size) (by omega))
  have Bel := Lib.hid (((Below.refl w.heap.size w).alloc (Nat.le_refl _) (.cells #[.slice a zs.length cap, .slice a2 ys.length cap2] 22)).alloc (by simp) (.cells #[.int .u64 1] 27))
  clear hbase
  rcases hx with hx | rfl <;> rcases hx2 with hx2 | rfl
  all_goals
    first
    | (exfalso; omega)
    | (go_enter Try.func10, Try.ntmps10
       go_wp2_with fail
       refine (large2_no w.heap.size _ _ _ _ _ _ _ c1 c2 (by omega) (by omega)).mono ?_
       rintro e w' ⟨rfl, rfl⟩
       clear c1 c2
       go_wp2
       go_loopw [6, 7, 36] (fun out base i wr => ThrRel w fx fy zs.length out base i wr) (fun _ _ i _ => zs.length - (intOf i).toNat)
       case atStart =>
         refine ⟨0, by omega, rfl, by simp, ?_, ?_, Bel.out⟩
         · rw [psk_zero]; exact Ow.nil _ _
         · rw [psk_zero]; exact Base.out
       case round =>
         obtain ⟨k, hk, rfl, hnd, hout, hbas, hbel⟩ := hrel
         have ND := Lib.hid hnd
         have hwsz := hbel.size
         by_cases hkn : k < zs.length
         · first
           | (exfalso; omega)
           | (have hcw := Hc.out k hkn
              have hcx : wr.cell? ⟨b, off + k, none⟩ = some (.int .u64 (gd zs k)) := (hbel.cell (p := ⟨b, off + k, none⟩) (World.block_lt_of_cell? _ _ hcw)).trans hcw
              have hcw2 := Hc2.out k (by omega)
              have Cy := Lib.hid hcw2
              have hby := hy.get k
              have hbx := hz.get k
              have GX := Lib.hid (Gx.out k)
              have GY := Lib.hid (Gy.out k)
              have hlen := newton_base_len (psk fx fy k)
              have hlen2 := newton_sum_len (psk fx fy k)
              rw [psk_len fx fy k (by rw [Lx.out]; omega) (by rw [Ly.out]; omega)] at hlen hlen2
              have hiff := base_zero_iff fx fy k LE.out (cf fx k)
              have hstep : newton (psk fx fy (k+1)) = (mulL (newton (psk fx fy k)).1 [0 - cf fx k, 1], strip (addL (newton (psk fx fy k)).2 (mulL (newton (psk fx fy k)).1 [(cf fy k - evl (newton (psk fx fy k)).2 (cf fx k)) * inv (evl (newton (psk fx fy k)).1 (cf fx k))]))) := by
                rw [psk_succ fx fy k (by rw [Lx.out]; omega) (by rw [Ly.out]; omega)]; rfl
              obtain ⟨bk, hbk⟩ : ∃ bk, bk = (newton (psk fx fy k)).1 := ⟨_, rfl⟩
              obtain ⟨ok, hok⟩ : ∃ ok, ok = (newton (psk fx fy k)).2 := ⟨_, rfl⟩
              rw [← hbk] at hlen hiff hbas
              rw [← hok] at hlen2 hout
              rw [← hbk, ← hok] at hstep
              have hbl : bk.length ≤ 129 := by omega
              have hol : ok.length ≤ 128 := by omega
              have ST := Lib.hid hstep
              have IFF := Lib.hid hiff
              have OB := Lib.hid hbas
              have OO := Lib.hid hout
              have HB := Lib.hid hbel
              have lb1 : (bk.map vl).length ≤ 2048 := by rw [List.length_map]; omega
              have lb2 : (bk.map vl).length ≤ 100000 := by omega
              have lo1 : (ok.map vl).length ≤ 2048 := by rw [List.length_map]; omega
              clear hbk hok hlen hlen2 hiff hstep hbas hout hbel hcw hcw2 hnd
              go_wp2_with fail
              refine (eval_any (bk.map vl) _ (gd zs k) _ OB.out.rd (B64.vl bk) lb1 hbx.1 hbx.2).mono ?_
              rintro e w1 ⟨rfl, hbel1⟩
              rw [map_toF_vl, ← GX.out]
              have OB1 := Lib.hid (OB.out.below hbel1)
              have OO1 := Lib.hid (OO.out.below hbel1)
              have HB1 := Lib.hid (HB.out.trans (hbel1.mono hwsz))
              have hsz1 := HB1.out.size
              clear hbel1 hcx
              by_cases h0 : evl bk (cf fx k) = 0
              · have NN := Lib.hid (not_nodup_of fx k (by rw [Lx.out]; omega) (IFF.out.1 h0))
                have H0 := Lib.hid h0
                clear h0
                go_wp2_with fail
                refine (inv_F0 _ _ H0.out).mono ?_
                rintro e w' ⟨rfl, rfl⟩
                go_wp2
                go_ret2
                exact .inr ⟨NN.out, _, rfl, Ow.nil _ _, HB1.out⟩
              · have ND2 := Lib.hid (nodup_take_succ fx k (by rw [Lx.out]; omega) ND.out (fun hm => h0 (IFF.out.2 hm)))
                have H0 := Lib.hid h0
                clear h0
                go_wp2_with fail
                refine (inv_F _ _ H0.out).mono ?_
                rintro e w' ⟨rfl, rfl⟩
                go_wp2_with fail
                refine (eval_any (ok.map vl) _ (gd zs k) _ OO1.out.rd (B64.vl ok) lo1 hbx.1 hbx.2).mono ?_
                rintro e w2 ⟨rfl, hbel2⟩
                rw [map_toF_vl, ← GX.out]
                have OB2 := Lib.hid (OB1.out.below hbel2)
                have OO2 := Lib.hid (OO1.out.below hbel2)
                have HB2 := Lib.hid (HB1.out.trans (hbel2.mono hsz1))
                have hsz2 := HB2.out.size
                have hcy : w2.cell? ⟨b2, off2 + k, none⟩ = some (.int .u64 (gd ys k)) := (HB2.out.cell (p := ⟨b2, off2 + k, none⟩) (World.block_lt_of_cell? _ _ Cy.out)).trans Cy.out
                clear hbel2 OB1 OO1 OB OO
                go_wp2_with fail
                refine (sub_xF (gd ys k) (evl ok (cf fx k)) _ hby.1 hby.2).mono ?_
                rintro e w' ⟨rfl, rfl⟩
                rw [← GY.out]
                go_wp2_with fail
                refine (mul_F _ _ _).mono ?_
                rintro e w' ⟨rfl, rfl⟩
                clear hcy
                obtain ⟨c, hc⟩ : ∃ c, c = (cf fy k - evl ok (cf fx k)) * inv (evl bk (cf fx k)) := ⟨_, rfl⟩
                rw [← hc]
                have C := Lib.hid hc
                clear hc
                have lc : ([c].map vl).length ≤ 100000 := by simp
                go_wp2_with fail
                refine (mul_list (bk.map vl) ([c].map vl) _ _ _ (OB2.out.rd.alloc _) (Rd.lit1 w2 c) (B64.vl bk) (B64.vl [c]) lb2 lc).mono ?_
                rintro e w3 ⟨v3, rfl, hown3, hbel3⟩
                rw [map_toF_vl, map_toF_vl] at hown3
                have hB3 : Below w2.heap.size w2 w3 := ((Below.refl w2.heap.size w2).alloc (Nat.le_refl _) (.cells #[.int .u64 (vl c)] 27)).trans (hbel3.mono (B' := w2.heap.size) (by simp))
                have OB3 := Lib.hid (OB2.out.below hB3)
                have OO3 := Lib.hid (OO2.out.below hB3)
                have OM3 := Lib.hid (hown3.mono (B' := w.heap.size) (by simp; omega))
                have HB3 := Lib.hid (HB2.out.trans (hB3.mono hsz2))
                have hsz3 := HB3.out.size
                have lm : ((mulL bk [c]).map vl).length ≤ 2048 := by rw [List.length_map]; have h5 := mulL_le bk [c]; simp only [List.length_singleton] at h5; omega
                clear hown3 hbel3 hB3 OB2 OO2
                go_wp2_with fail
                refine (padd_any (ok.map vl) ((mulL bk [c]).map vl) _ _ _ OO3.out.rd OM3.out.rd (B64.vl ok) (B64.vl _) lo1 lm).mono ?_
                rintro e w4 ⟨v4, rfl, hown4, hbel4⟩
                rw [map_toF_vl, map_toF_vl] at hown4
                have OB4 := Lib.hid (OB3.out.below hbel4)
                have OS4 := Lib.hid (hown4.mono hsz3)
                have HB4 := Lib.hid (HB3.out.trans (hbel4.mono hsz3))
                have hsz4 := HB4.out.size
                clear hown4 hbel4 OB3 OO3 OM3
                go_wp2_with fail
                refine (sub_0x (gd zs k) _ hbx.1 hbx.2).mono ?_
                rintro e w' ⟨rfl, rfl⟩
                rw [← GX.out]
                have lc2 : ([0 - cf fx k, 1].map vl).length ≤ 100000 := by simp
                go_wp2_with fail
                refine (mul_list (bk.map vl) ([0 - cf fx k, 1].map vl) _ _ _ (OB4.out.rd.alloc _) (Rd.lit2 w4 (0 - cf fx k)) (B64.vl bk) (B64.vl _) lb2 lc2).mono ?_
                rintro e w5 ⟨v5, rfl, hown5, hbel5⟩
                rw [map_toF_vl, map_toF_vl] at hown5
                have hB5 : Below w4.heap.size w4 w5 := ((Below.refl w4.heap.size w4).alloc (Nat.le_refl _) (.cells #[.int .u64 (vl (0 - cf fx k)), .int .u64 1] 27)).trans (hbel5.mono (B' := w4.heap.size) (by simp))
                have OS5 := Lib.hid (OS4.out.below hB5)
                have OM5 := Lib.hid (hown5.mono (B' := w.heap.size) (by simp; omega))
                have HB5 := Lib.hid (HB4.out.trans (hB5.mono hsz4))
                clear hown5 hbel5 hB5 OB4 OS4
                go_wp2
                go_roundw
                case rel => exact ⟨k + 1, by omega, by go_num, ND2.out, by rw [ST.out, ← C.out]; exact OS5.out, by rw [ST.out]; exact OM5.out, HB5.out⟩
                case measure => simp [intOf] <;> omega)
         · obtain hkn2 : k = zs.length := by omega
           have hnx : fx.Nodup := by
             have := ND.out
             rwa [List.take_of_length_le (by rw [Lx.out]; omega)] at this
           have NX := Lib.hid hnx
           have PE := Lib.hid (show psk fx fy k = (fx.zip fy).reverse by rw [← psk_end fx fy LE.out, Lx.out, hkn2])
           have OO := Lib.hid hout
           have HB := Lib.hid hbel
           clear hnx hkn2 hout hbel hbas hnd
           go_wp2
           go_ret2
           exact .inl ⟨NX.out, _, rfl, by have h9 := OO.out; rw [PE.out] at h9; exact h9, HB.out⟩
       )
end Go.Proofs.Ytjljndnpefdifaa.Gm
