/- The walk of the law PolyPoints. (Its lines are printed by wip/mk_XLq.py.) -/
import Derived.Test.YtjljndnpefdifaaRt
import Derived.Test.YtjljndnpefdifaaPu
import Derived.Test.YtjljndnpefdifaaShort
import Derived.Test.YtjljndnpefdifaaRp
namespace Go.Proofs.Ytjljndnpefdifaa.Gm
open Go.RowKit
theorem cf_two0 (x y : F) : cf [x, y] 0 = x := rfl
theorem toF_small {a : Int} (h0 : 0 ≤ a) (h1 : a < 18446744069414584321) : vl (toF a) = a := toF_id h0 h1
theorem lit_nodup : ([0, 1].map toF).Nodup := by
  show [toF 0, toF 1].Nodup
  rw [toF_zero, toF_one, List.nodup_cons]
  exact ⟨fun h => one_ne (List.mem_singleton.1 h).symm, List.nodup_cons.2 ⟨List.not_mem_nil, List.nodup_nil⟩⟩
theorem lit_thr : (newton ((([0, 1].map toF).zip ([5, 7].map toF)).reverse)).2.map vl = [5, 2] := by
  have e2 : ([toF 5, toF 2]).map vl = [5, 2] := by
    show [vl (toF 5), vl (toF 2)] = _
    rw [toF_small (by omega) (by omega), toF_small (by omega) (by omega)]
  rw [← e2]
  congr 1
  rw [← newton_normal]
  have hs : strip [toF 5, toF 2] = [toF 5, toF 2] := strip_of (.inr (by
    show toF 2 ≠ 0
    exact toF_ne (by omega) (by omega)))
  rw [← hs]
  refine strip_through (xs := [0, 1].map toF) (Nat.le_trans (newton_sum_len _) (by simp)) (by simp) lit_nodup (fun x hx => ?_)
  have hz : (((([0, 1].map toF).zip ([5, 7].map toF)).reverse).map Prod.fst).Nodup := by
    show [toF 1, toF 0].Nodup
    rw [toF_zero, toF_one, List.nodup_cons]
    exact ⟨fun h => one_ne (List.mem_singleton.1 h), List.nodup_cons.2 ⟨List.not_mem_nil, List.nodup_nil⟩⟩
  have h0 := newton_through _ hz (toF 0, toF 5) (by show _ ∈ [(toF 1, toF 7), (toF 0, toF 5)]; simp)
  have h1 := newton_through _ hz (toF 1, toF 7) (by show _ ∈ [(toF 1, toF 7), (toF 0, toF 5)]; simp)
  have hx' : x = toF 0 ∨ x = toF 1 := by simpa using hx
  rcases hx' with rfl | rfl
  · rw [h0, evl_two, toF_zero]; show toF 5 = toF 5 + toF 2 * 0; grind
  · rw [h1, evl_two, toF_one]
    show toF 7 = toF 5 + toF 2 * 1
    have : toF 7 = toF 5 + toF 2 := by rw [← toF_add]; rfl
    rw [this]; grind
theorem points_back {fa fx fy : List F} (hd : fx.Nodup) (hl : fx.length = fy.length) (hla : fa.length ≤ fx.length) (h : ∀ i, i < fx.length → cf fy i = evl fa (cf fx i)) :
    (newton ((fx.zip fy).reverse)).2 = strip fa := by
  rw [← newton_normal]
  have hz : ((fx.zip fy).reverse.map Prod.fst) = fx.reverse := by
    rw [List.map_reverse, List.map_fst_zip (by omega)]
  refine strip_through (xs := fx) ?_ hla hd (fun x hx => ?_)
  · refine Nat.le_trans (newton_sum_len _) ?_
    rw [List.length_reverse, List.length_zip]; omega
  · obtain ⟨m, hm, rfl⟩ := List.getElem_of_mem hx
    have h1 := newton_through ((fx.zip fy).reverse) (by rw [hz]; exact nodup_rev hd) (fx[m], fy[m]) (by
      rw [List.mem_reverse]
      have := List.getElem_mem (l := fx.zip fy) (n := m) (by rw [List.length_zip]; omega)
      rwa [List.getElem_zip] at this)
    have h2 := h m hm
    rw [cf_lt hm, cf_lt (by omega)] at h2
    rw [h1, ← h2]
def PtRel (ws : World) (fa fx : List F) (n : Nat) (ys i : Value) (wr : World) : Prop :=
  ∃ (k : Nat) (l : List F), k ≤ n ∧ i = .int .i64 k ∧ l.length = k ∧ (∀ j, j < k → cf l j = evl fa (cf fx j)) ∧ Ow ws.heap.size wr ys l ∧ Below ws.heap.size ws wr
theorem ptrel_step {fa fx l : List F} {k : Nat} (hl : l.length = k) (h : ∀ j, j < k → cf l j = evl fa (cf fx j)) : (l ++ [evl fa (cf fx k)]).length = k + 1 ∧ ∀ j, j < k + 1 → cf (l ++ [evl fa (cf fx k)]) j = evl fa (cf fx j) := by
  refine ⟨by simp [hl], fun j hj => ?_⟩
  by_cases h1 : j < k
  · rw [cf_append_lt (by omega)]; exact h j h1
  · have : j = l.length := by omega
    rw [this, cf_append_at, hl]
set_option maxHeartbeats 4000000 in
set_option maxRecDepth 100000 in
theorem wPolyPoints (za zx : List Int) (v v2 : Value) (w : World) (h : Rd .u64 w v za) (h2 : Rd .u64 w v2 zx) (hz : B64 za) (hy : B64 zx) :
    Calls Try.prog 4 #[v, v2] w (RetV w (.bool true)) := by
  obtain ⟨a1, k1, rfl, hk1, hm1⟩ := h.shape
  obtain ⟨a2, k2, rfl, hk2, hm2⟩ := h2.shape
  have X := Lib.hid h
  have Y := Lib.hid h2
  clear h h2
  obtain ⟨xz, hxz⟩ : ∃ xz, xz = zx.take 30 := ⟨_, rfl⟩
  have Hxz := Lib.hid hxz
  have lx : xz.length ≤ 30 := by rw [hxz, List.length_take]; omega
  have bx : B64 xz := by rw [hxz]; exact hy.take 30
  obtain ⟨az, haz⟩ : ∃ az, az = za.take xz.length := ⟨_, rfl⟩
  have Haz := Lib.hid haz
  have la : az.length ≤ xz.length := by rw [haz, List.length_take]; omega
  have ba : B64 az := by rw [haz]; exact hz.take _
  clear hxz haz
  obtain ⟨fx, hfx⟩ : ∃ fx, fx = xz.map toF := ⟨_, rfl⟩
  obtain ⟨fa, hfa⟩ : ∃ fa, fa = az.map toF := ⟨_, rfl⟩
  have Fx := Lib.hid hfx
  have Fa := Lib.hid hfa
  have Lx := Lib.hid (show fx.length = xz.length by rw [hfx, List.length_map])
  have La := Lib.hid (show fa.length = az.length by rw [hfa, List.length_map])
  have Gx := Lib.hid (show ∀ i, cf fx i = toF (gd xz i) from fun i => by rw [hfx, cf_map])
  clear hfx hfa
  have lit1 : Rd .u64 (w.alloc (.cells #[.int .u64 0, .int .u64 1] 27)) (.slice (some ⟨w.heap.size, 0, none⟩) 2 2) [0, 1] := Rd.lit .u64 w [0, 1] 27 2 rfl (by simp)
  have lit2 : Rd .u64 ((w.alloc (.cells #[.int .u64 0, .int .u64 1] 27)).alloc (.cells #[.int .u64 5, .int .u64 7] 27)) (.slice (some ⟨w.heap.size + 1, 0, none⟩) 2 2) [5, 7] := by have h := Rd.lit .u64 (w.alloc (.cells #[.int .u64 0, .int .u64 1] 27)) [5, 7] 27 2 rfl (by simp); rw [show (w.alloc (.cells #[.int .u64 0, .int .u64 1] 27)).heap.size = w.heap.size + 1 by simp] at h; exact h
  have Lit1 := Lib.hid (lit1.alloc (.cells #[.int .u64 5, .int .u64 7] 27))
  have Lit2 := Lib.hid lit2
  have Bl := Lib.hid (((Below.refl w.heap.size w).alloc (Nat.le_refl _) (.cells #[.int .u64 0, .int .u64 1] 27)).alloc (by simp) (.cells #[.int .u64 5, .int .u64 7] 27))
  have b1 : B64 [0, 1] := by intro z hz; simp at hz; omega
  have b2 : B64 [5, 7] := by intro z hz; simp at hz; omega
  clear lit1 lit2
  go_enter Try.func4, Try.ntmps4
  go_wp2_with fail
  refine (pthrough_any [0, 1] [5, 7] _ _ _ Lit1.out Lit2.out b1 b2 rfl (by simp)).mono ?_
  rintro e w1 hthr
  obtain ⟨v1, rfl, hown, hbel⟩ := hthr.resolve_right (fun h => h.1 lit_nodup) |>.2
  clear hthr
  have P1 := Lib.hid (hown.mono (B' := w.heap.size) (by simp; omega))
  have B1 := Lib.hid (Bl.out.trans (hbel.mono (B' := w.heap.size) (by simp; omega)))
  have X1 := Lib.hid (X.out.below B1.out)
  have Y1 := Lib.hid (Y.out.below B1.out)
  have hsz1 := B1.out.size
  clear hown hbel Lit1 Lit2 Bl X Y
  have lit3 : Rd .u64 (w1.alloc (.cells #[.int .u64 5, .int .u64 2] 27)) (.slice (some ⟨w1.heap.size, 0, none⟩) 2 2) [5, 2] := Rd.lit .u64 w1 [5, 2] 27 2 rfl (by simp)
  have Lit3 := Lib.hid lit3
  have Pq := Lib.hid (by have h := (P1.out.below ((Below.refl w1.heap.size w1).alloc (Nat.le_refl _) (.cells #[.int .u64 5, .int .u64 2] 27))).rd; rw [lit_thr] at h; exact h)
  have Xq := Lib.hid (X1.out.alloc (.cells #[.int .u64 5, .int .u64 2] 27))
  have Yq := Lib.hid (Y1.out.alloc (.cells #[.int .u64 5, .int .u64 2] 27))
  have Bq := Lib.hid (B1.out.alloc hsz1 (.cells #[.int .u64 5, .int .u64 2] 27))
  clear lit3 P1 X1 Y1
  go_wp2_with fail
  refine (equal_yes [5, 2] _ _ _ Pq.out Lit3.out).mono ?_
  rintro e w2 ⟨rfl, hbel⟩
  have X_0 := Lib.hid (Xq.out.below hbel)
  have Y_0 := Lib.hid (Yq.out.below hbel)
  have B0 := Lib.hid (Bq.out.trans (hbel.mono (B' := w.heap.size) (by simp; omega)))
  have hsz0 : w.heap.size ≤ w2.heap.size := B0.out.size
  clear hbel Xq Yq Bq Pq Lit3 B1 hsz1
  go_wp2_with fail
  refine (short_z zx 30 30 _ _ Y_0.out (by omega) rfl).mono ?_
  rintro e w' ⟨⟨vx, rfl, hr⟩, rfl⟩
  rw [← Hxz.out] at hr
  have SX := Lib.hid hr
  obtain ⟨qx, cx, bx1, ox1, rfl, hcx, hmx, hxa, hxc⟩ := hr.opened
  have HXC := Lib.hid hxc
  clear hr Y_0 hxc
  go_wp2_with fail
  refine (short_z za xz.length xz.length _ _ X_0.out (by omega) rfl).mono ?_
  rintro e w' ⟨⟨va, rfl, hr⟩, rfl⟩
  rw [← Haz.out] at hr
  have SA := Lib.hid hr
  obtain ⟨qa, ca, rfl, _, _⟩ := SA.out.shape
  clear hr X_0
  rcases hxa with hxa | rfl
  all_goals
    go_wp2
    go_loopw [7, 38] (fun ys i wr => PtRel w2 fa fx xz.length ys i wr) (fun _ i _ => xz.length - (intOf i).toNat)
    case atStart => exact ⟨0, [], by omega, rfl, rfl, by omega, Ow.nil _ _, Below.refl _ _⟩
    case round =>
      obtain ⟨k, l, hk, rfl, hll, hlv, hown, hbw⟩ := hrel
      have LL := Lib.hid hll
      have LV := Lib.hid hlv
      have OY := Lib.hid hown
      have HW := Lib.hid hbw
      have SA2 := Lib.hid (SA.out.below hbw)
      have SX2 := Lib.hid (SX.out.below hbw)
      have hwsz := hbw.size
      clear hll hlv hown
      by_cases hkn : k < xz.length
      · first
        | (exfalso; omega)
        | (have hcw := HXC.out k hkn
           have hck : wr.cell? ⟨bx1, ox1 + k, none⟩ = some (.int .u64 (gd xz k)) := (hbw.cell (p := ⟨bx1, ox1 + k, none⟩) (World.block_lt_of_cell? _ _ hcw)).trans hcw
           have hbk := bx.get k
           have GK := Lib.hid (Gx.out k)
           have ST := Lib.hid (ptrel_step LL.out LV.out)
           have hl1 : l.length ≤ 1000000 := by have := LL.out; omega
           clear hcw hbw
           go_wp2_with fail
           refine (eval_any az _ (gd xz k) _ SA2.out ba (by omega) hbk.1 hbk.2).mono ?_
           rintro e w3 ⟨rfl, hbel3⟩
           rw [← Fa.out, ← GK.out]
           have OY3 := Lib.hid (OY.out.below hbel3)
           have HW3 := Lib.hid (HW.out.trans (hbel3.mono hwsz))
           have hsz3 := HW3.out.size
           clear hck hbel3
           go_wp2_with (at_builtin; refine wl_app _ rfl (.tmp 48) (.tmp 50) rfl w2.heap.size _ l (evl fa (cf fx k)) w2 rfl rfl OY3.out HW3.out hsz3 hl1 ?_)
           intro v' w4 hown4 hbel4
           have OY4 := Lib.hid hown4
           have HW4 := Lib.hid hbel4
           clear hown4 hbel4
           go_wp2
           go_roundw
           case rel => exact ⟨k + 1, _, by omega, by go_num, ST.out.1, ST.out.2, OY4.out, HW4.out⟩
           case measure => simp [intOf] <;> omega)
      · have hkn2 : k = xz.length := by omega
        have lyv : (l.map vl).length = xz.length := by rw [List.length_map, LL.out, hkn2]
        have LYV := Lib.hid lyv
        have LY0 := Lib.hid (show xz.length = (l.map vl).length from lyv.symm)
        have PB := Lib.hid (fun (hd : fx.Nodup) => points_back (fa := fa) hd (show fx.length = l.length by rw [Lx.out, LL.out, hkn2]) (by rw [La.out, Lx.out]; exact la) (fun i hi => LV.out i (by rw [Lx.out] at hi; omega)))
        have HB := Lib.hid (B0.out.trans (hbw.mono hsz0))
        have hszb := HB.out.size
        have hx3 : xz.length ≤ 128 := by omega
        clear lyv hbw
        by_cases c5 : fx.Nodup
        · have C5 := Lib.hid c5
          clear c5
          go_wp2_with fail
          refine (pthrough_any xz (l.map vl) _ _ _ SX2.out OY.out.rd bx (B64.vl l) LY0.out hx3).mono ?_
          rintro e w5 hthr
          rw [← Fx.out, map_toF_vl] at hthr
          obtain ⟨v5, rfl, hown5, hbel5⟩ := hthr.resolve_right (fun h => h.1 C5.out) |>.2
          rw [PB.out C5.out] at hown5
          have P5 := Lib.hid (hown5.mono hszb)
          have SA5 := Lib.hid (SA2.out.below hbel5)
          have HB5 := Lib.hid (HB.out.trans (hbel5.mono hszb))
          have hsz5 := HB5.out.size
          clear hthr hown5 hbel5
          go_wp2_with fail
          refine (pnorm_any az _ _ SA5.out ba (by omega)).mono ?_
          rintro e w6 ⟨v6, rfl, hown6, hbel6⟩
          rw [← Fa.out] at hown6
          have N6 := Lib.hid hown6
          have P6 := Lib.hid (P5.out.below hbel6)
          have HB6 := Lib.hid (HB5.out.trans (hbel6.mono hsz5))
          have hsz6 := HB6.out.size
          clear hown6 hbel6
          go_wp2_with fail
          refine (equal_yes ((strip fa).map vl) _ _ _ P6.out.rd N6.out.rd).mono ?_
          rintro e w7 ⟨rfl, hbel7⟩
          have HB7 := Lib.hid (HB6.out.trans (hbel7.mono hsz6))
          clear hbel7
          go_wp2
          go_ret
          exact ⟨rfl, HB7.out⟩
        · have C5 := Lib.hid c5
          clear c5
          go_wp2_with fail
          refine (pthrough_any xz (l.map vl) _ _ _ SX2.out OY.out.rd bx (B64.vl l) LY0.out hx3).mono ?_
          rintro e w5 hthr
          rw [← Fx.out, map_toF_vl] at hthr
          obtain ⟨v5, rfl, hown5, hbel5⟩ := hthr.resolve_left (fun h => C5.out h.1) |>.2
          have SX5 := Lib.hid (SX2.out.below hbel5)
          have OY5 := Lib.hid (OY.out.below hbel5)
          have HB5 := Lib.hid (HB.out.trans (hbel5.mono hszb))
          have hsz5 := HB5.out.size
          clear hthr hown5 hbel5
          go_wp2_with fail
          refine (points_any xz (l.map vl) _ _ _ SX5.out OY5.out.rd bx LY0.out hx3).mono ?_
          rintro e w6 ⟨hpt, hbel6⟩
          rw [← Fx.out] at hpt
          obtain ⟨_, rfl⟩ := hpt.resolve_left (fun h => C5.out h.1)
          have HB6 := Lib.hid (HB5.out.trans (hbel6.mono hsz5))
          clear hpt hbel6
          go_wp2
          go_ret
          exact ⟨rfl, HB6.out⟩
end Go.Proofs.Ytjljndnpefdifaa.Gm
