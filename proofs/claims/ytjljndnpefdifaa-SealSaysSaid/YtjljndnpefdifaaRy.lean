/- The reference's Shifted. -/
import Derived.Test.YtjljndnpefdifaaAd
import Derived.Test.YtjljndnpefdifaaRest
import Derived.Test.YtjljndnpefdifaaRf
namespace Go.Proofs.Ytjljndnpefdifaa.Gm
open Go.RowKit
set_option linter.unusedVariables false
theorem zi_set' (l : List Nat) (i y : Nat) : (zi l).set i (y : Int) = zi (l.set i y) := by unfold zi; rw [List.map_set]
theorem turn_back {p d r : Nat} {z : Int} (hd : 0 < d) (hr : (r : Int) = (-z) % (d : Int)) : ((p : Int) - z % (d : Int)) % (d : Int) = (((p + r) % d : Nat) : Int) := by
  rw [Int.natCast_emod, Int.natCast_add, hr, Int.add_emod_emod, Int.sub_emod, Int.emod_emod_of_dvd _ (Int.dvd_refl _), ← Int.sub_emod]
  rfl
def SyA (w : World) (ks : List Nat) (bs : List Int) (l : List F) (n : Nat) (out i : Value) (wr : World) : Prop :=
  ∃ a : Nat, a ≤ n ∧ i = .int .i64 a ∧ Ow w.heap.size wr out ((shL ks bs l n).take a) ∧ Below w.heap.size w wr
def SyB (w4 : World) (B : Nat) (ds : List Nat) (a b N gq cq : Nat) (k : Value) (wr : World) : Prop :=
  ∃ m : Nat, m ≤ N ∧ k = .int .i64 m ∧ Oz .i64 3 B wr (.slice (some ⟨gq, 0, none⟩) N cq) (zi (adP ds a b m)) ∧ Only (fun k => k = gq) w4 wr
set_option maxHeartbeats 4000000 in
set_option maxRecDepth 100000 in
theorem rshifted_ok (ks : List Nat) (xs bs : List Int) (v v2 v3 : Value) (w : World) (h : Rd .i64 w v (zi (szs ks))) (h2 : Rd .u64 w v2 xs) (h3 : Rd .i64 w v3 bs) (hw : W64 (zi (szs ks))) (hs : Shp (szs ks)) (hx : B64 xs) (hl : xs.length = pk ks) (hbl : bs.length = ks.length) (hwb : W64 bs) :
    Calls Try.prog 24 #[v, v2, v3] w (RetL w (shL ks bs (xs.map toF) (pk ks))) := by
  have hn1 : 1 ≤ pk ks := hs.pr1
  have hn2 : pk ks ≤ 1024 := hs.le
  have hN1 : 1 ≤ ks.length := by have := hs.len0; rwa [szs_len] at this
  have hN3 : ks.length ≤ 3 := by have := hs.len3; rwa [szs_len] at this
  have CP := Lib.hid (fun k (hk : k < pk ks) v w h => rplaces_any (szs ks) k (k : Int) v w h hs (by omega) rfl)
  have CA := Lib.hid (fun k v v2 w h h2 => rplace_any (szs ks) (adP (szs ks) (BI ks (ngB bs)) k ks.length) v v2 w h h2 hs (adP_len _ _ _ _) (fun x hx => adP_lt _ _ _ hx))
  have PA := Lib.hid (show ∀ k, plc (szs ks) (adP (szs ks) (BI ks (ngB bs)) k ks.length) = AD ks (BI ks (ngB bs)) k from fun k => by have := plc_adP ks (BI ks (ngB bs)) k; rwa [szs_len] at this)
  obtain ⟨sa, scap, sb, so, rfl, hscap, hsm, hsx, hsc⟩ := h.opened
  obtain ⟨xa, xcap, xb, xo, rfl, hxcap, hxm, hxx, hxc⟩ := h2.opened
  obtain ⟨ya, ycap, yb, yo, rfl, hycap, hym, hyx, hyc⟩ := h3.opened
  have LZ := Lib.hid (show (zi (szs ks)).length = ks.length by rw [zi_len, szs_len])
  rw [LZ.out] at hscap hsx hsc ⊢
  rw [hl] at hxcap hxx hxc ⊢
  rw [hbl] at hycap hyx hyc ⊢
  obtain rfl := hsx.resolve_left (by omega)
  obtain rfl := hxx.resolve_left (by omega)
  obtain rfl := hyx.resolve_left (by omega)
  have SC := Lib.hid (show ∀ x, x < ks.length → w.cell? ⟨sb, so + x, none⟩ = some (.int .i64 (nd (szs ks) x : Int)) from fun x hx => by rw [hsc x hx, gd_zi])
  have XC := Lib.hid hxc
  have YC := Lib.hid hyc
  have HX := Lib.hid hx
  obtain ⟨l, hle⟩ : ∃ l, l = xs.map toF := ⟨_, rfl⟩
  have GX := Lib.hid (show ∀ i, cf l i = toF (gd xs i) from fun i => by rw [hle, cf_map])
  rw [← hle]
  have SL := Lib.hid (fun m => shL_len ks bs l m)
  have ALT := Lib.hid (fun b => AD_lt ks (BI ks (ngB bs)) b)
  have PLL := Lib.hid (fun k => show (zi (plcs (szs ks) k)).length = ks.length by rw [zi_len, plcs_len, szs_len])
  have PLM := Lib.hid (fun k x => show gd (zi (plcs (szs ks) k)) x = (nd (plcs (szs ks) k) x : Int) from gd_zi _ x)
  have PLT := Lib.hid (show ∀ k x, x < ks.length → nd (plcs (szs ks) k) x < nd (szs ks) x ∧ nd (szs ks) x ≤ 1024 from fun k x hx => ⟨plcs_lt _ k x (by rw [szs_len]; exact hx) (hs.nd1 (by rw [szs_len]; exact hx)), hs.ndle (by rw [szs_len]; exact hx)⟩)
  have AD0 := Lib.hid (fun k => adP_zero (szs ks) (BI ks (ngB bs)) k)
  have ADL := Lib.hid (fun k m => show (zi (adP (szs ks) (BI ks (ngB bs)) k m)).length = ks.length by rw [zi_len, adP_len, szs_len])
  have ADM := Lib.hid (fun k m (hm : m < ks.length) => show gd (zi (adP (szs ks) (BI ks (ngB bs)) k m)) m = (nd (plcs (szs ks) k) m : Int) by rw [gd_zi, nd_adP _ _ _ _ (by rw [szs_len]; exact hm), if_neg (by omega)])
  have ADS := Lib.hid (fun k m (hm : m < ks.length) => show (zi (adP (szs ks) (BI ks (ngB bs)) k m)).set m (((nd (plcs (szs ks) k) m + nd (byp (szs ks) (ngB bs)) m) % nd (szs ks) m : Nat) : Int) = zi (adP (szs ks) (BI ks (ngB bs)) k (m + 1)) by rw [zi_set', ← nd_BI ks (ngB bs) (by rw [szs_len]; exact hm), adP_succ _ _ _ (by rw [szs_len]; exact hm)])
  have BYI := Lib.hid (show ∀ x, x < ks.length → ((nd (byp (szs ks) (ngB bs)) x : Int) = (- gd bs x) % (nd (szs ks) x : Int)) ∧ nd (byp (szs ks) (ngB bs)) x < nd (szs ks) x from fun x hx => ⟨by rw [nd_byp_int (ngB bs) (by rw [szs_len]; exact hx) (hs.nd1 (by rw [szs_len]; exact hx)), gd_ngB], byp_lt (ngB bs) (by rw [szs_len]; exact hx) (hs.nd1 (by rw [szs_len]; exact hx))⟩)
  have WB := Lib.hid (show ∀ x, x < ks.length → -9223372036854775808 ≤ gd bs x ∧ gd bs x ≤ 9223372036854775807 from fun x hx => hwb.get (by rw [hbl]; exact hx))
  have SF := Lib.hid (fun m (hm : m < pk ks) => (shL_take ks bs l hm).symm)
  have X := Lib.hid (show Rd .i64 w (.slice (some ⟨sb, so, none⟩) ks.length scap) (zi (szs ks)) by rw [← LZ.out]; exact h)
  obtain ⟨ds, hds⟩ : ∃ ds, ds = szs ks := ⟨_, rfl⟩
  rw [← hds] at CP CA PA SC PLL PLM PLT AD0 ADL ADM ADS BYI X
  obtain ⟨B, hB⟩ : ∃ B, B = BI ks (ngB bs) := ⟨_, rfl⟩
  rw [← hB] at CA PA ALT AD0 ADL ADM ADS SF
  obtain ⟨n, hn⟩ : ∃ n, n = pk ks := ⟨_, rfl⟩
  rw [← hn] at hn1 hn2 hxcap XC CP SL ALT SF ⊢
  obtain ⟨N, hN⟩ : ∃ N, N = ks.length := ⟨_, rfl⟩
  rw [← hN] at hN1 hN3 hscap hycap SC YC X CA PA PLL PLT ADL ADM ADS BYI WB ⊢
  clear h h2 h3 hs hsc hxc hyc hx hl hle hds hn hN LZ hw hbl hB
  have ST := Lib.hid (show ∀ m, m ≤ n → ((shL ks bs l n).take m).length = m from fun m hm => by rw [List.length_take, SL.out]; omega)
  have SN := Lib.hid (show (shL ks bs l n).take n = shL ks bs l n from List.take_of_length_le (by rw [SL.out]; exact Nat.le_refl _))
  go_enter Try.func24, Try.ntmps24
  go_wp2
  go_loopw [7, 8, 9, 10, 11] (fun out i _ _ _ wr => SyA w ks bs l n out i wr) (fun _ i _ _ _ _ => n - (intOf i).toNat)
  case atStart => exact ⟨0, by omega, rfl, Ow.nil _ _, Below.refl _ _⟩
  case round =>
    obtain ⟨a, ha, rfl, ho, hbel⟩ := hrel
    have OO := Lib.hid ho
    have HB := Lib.hid hbel
    have hwsz := hbel.size
    clear ho hbel
    by_cases hal : a < n
    · have XW := Lib.hid (X.out.below HB.out)
      go_wp2_with fail
      refine (CP.out a hal _ _ XW.out).mono ?_
      rintro e w4 ⟨qv, rfl, hq, hb⟩
      obtain ⟨gq, cq, rfl, hcq, hcqm⟩ := hq.opened (by rw [PLL.out]; exact hN1)
      rw [PLL.out] at hq hcq ⊢
      have hqb := hq.base.1
      have Q4 := Lib.hid (show Oz .i64 3 wr.heap.size w4 (.slice (some ⟨gq, 0, none⟩) N cq) (zi (adP ds B a 0)) by rw [AD0.out]; exact hq)
      have O4 := Lib.hid (OO.out.below hb)
      have OLT := Lib.hid (fun g (e : u7.ownBlock = some g) => (World.ownsRow.lt OO.out g e).2)
      have B4 := Lib.hid (HB.out.trans (hb.mono hwsz))
      have hs4 := hb.size
      clear hq hb OO HB XW
      obtain ⟨wq, hwq⟩ : ∃ wq : World, wq = wr := ⟨_, rfl⟩
      subst hwq
      go_wp2
      go_loopw [10, 11] (fun k _ wi => SyB w4 wq.heap.size ds B a N gq cq k wi) (fun k _ _ => N - (intOf k).toNat)
      case atStart => exact ⟨0, by omega, rfl, Q4.out, Only.refl _ _⟩
      case round =>
        obtain ⟨x, hx1, rfl, hq, ho⟩ := hrel
        have Q5 := Lib.hid hq
        have OB := Lib.hid ho
        clear hq ho
        by_cases hxl : x < N
        · have c1 : wr.cell? ⟨gq, x, none⟩ = some (.int .i64 (nd (plcs ds a) x : Int)) := by
            have := Q5.out.cell (i := x) (by rw [ADL.out]; exact hxl)
            rwa [ADM.out a x hxl] at this
          have low : ∀ {b o : Nat} {v : Value}, w.cell? ⟨b, o, none⟩ = some v → wr.cell? ⟨b, o, none⟩ = some v := fun {b o v} h0 => by
            have hlt := World.block_lt_of_cell? _ _ h0
            have hlt : b < w.heap.size := hlt
            exact cell_only OB.out (cell_below B4.out h0) (by omega)
          have c2 : wr.cell? ⟨yb, yo + x, none⟩ = some (.int .i64 (gd bs x)) := low (YC.out x hxl)
          have c3 : wr.cell? ⟨sb, so + x, none⟩ = some (.int .i64 (nd ds x : Int)) := low (SC.out x hxl)
          clear low
          obtain ⟨t1, t3⟩ := PLT.out a x hxl
          obtain ⟨t4, t5⟩ := BYI.out x hxl
          obtain ⟨b1, b2⟩ := WB.out x hxl
          have ADx := Lib.hid (ADS.out a x hxl)
          have ADl := Lib.hid (ADL.out a x)
          generalize nd (plcs ds a) x = p1 at *
          generalize nd (byp ds (ngB bs)) x = p2 at *
          generalize nd ds x = d at *
          generalize gd bs x = z at *
          have hd0 : 0 < d := by omega
          have TB := Lib.hid (turn_back (p := p1) (z := z) hd0 t4)
          have m1 := Int.emod_nonneg z (show (d : Int) ≠ 0 by omega)
          have m2 := Int.emod_lt_of_pos z (show (0 : Int) < (d : Int) by omega)
          have R1 := Lib.hid (fun w => rest_any z (d : Int) w b1 b2 (by omega) (by omega))
          have hrl : (p1 + p2) % d < d := Nat.mod_lt _ (by omega)
          clear t4
          generalize z % (d : Int) = y at *
          have R2 := Lib.hid (fun w => rest_any ((p1 : Int) - y) (d : Int) w (by omega) (by omega) (by omega) (by omega))
          rw [TB.out] at R2
          clear TB
          obtain ⟨y2, hy2⟩ : ∃ y2, y2 = (p1 : Int) - y := ⟨_, rfl⟩
          have e2 : IntKind.i64.wrap ((p1 : Int) - y) = y2 := by rw [hy2]; exact IntWalk.i64_in _ (by omega)
          rw [← hy2] at R2
          clear hy2
          generalize (p1 + p2) % d = r at *
          go_wp2
          go_still_tail 16, (by kernel_rfl)
          repeat still_step
          still_call (s_same (R1.out _))
          repeat still_step
          still_call (s_same (R2.out _))
          repeat still_step
          try refine wpStill_nil ?_
          change wpList _ _ _ _ _ wr.drew
          clear c1
          go_wp2_with (refine wl_storeI .i64 3 _ rfl (.tmp 46) (.tmp 45) (fun _ => rfl) rfl wq.heap.size gq x N cq (zi (adP ds B a x)) (r : Int) rfl rfl Q5.out.drew ADl.out hxl ?_)
          intro w5 hown5 ho5 hs6
          try rw [ADx.out] at hown5
          have Q6 := Lib.hid hown5
          have Q7 := Lib.hid (OB.out.drew.trans ho5)
          clear hown5 ho5 hs6 c2 c3
          go_wp2
          go_roundw
          case rel => exact ⟨x + 1, by omega, by go_num, Q6.out, Q7.out⟩
          case measure => simp [intOf] <;> omega
        · obtain rfl : N = x := by omega
          have hs5 := OB.out.size
          have O5 := Lib.hid (O4.out.only OB.out (fun gg e e' => by have := OLT.out gg e
                                                                    omega))
          have B5 := Lib.hid (B4.out.trans (OB.out.below (by omega) (fun gg e => by omega)))
          have XW := Lib.hid (X.out.below B5.out)
          have hs6 := B5.out.size
          clear O4 B4 OB
          go_wp2_with fail
          refine (CA.out a _ _ _ XW.out Q5.out.rd).mono ?_
          rintro e w6 ⟨rfl, hb⟩
          rw [PA.out a]
          have O6 := Lib.hid (O5.out.below hb)
          have B6 := Lib.hid (B5.out.trans (hb.mono hs6))
          clear hb O5 B5 XW
          have hlt := ALT.out a
          have cx : w6.cell? ⟨xb, xo + AD ks B a, none⟩ = some (.int .u64 (gd xs (AD ks B a))) := cell_below B6.out (XC.out _ hlt)
          have hb1 := HX.out.get (AD ks B a)
          have SFx := SF.out a hal
          rw [GX.out] at SFx
          have SFx := Lib.hid SFx
          have hll : ((shL ks bs l n).take a).length ≤ 1000000 := by rw [ST.out a (by omega)]; omega
          have hs7 := B6.out.size
          generalize AD ks B a = q at *
          generalize gd xs q = y1 at *
          go_wp2_with fail
          refine (rnorm_any y1 _ hb1.1 hb1.2).mono ?_
          rintro e w7 ⟨rfl, rfl⟩
          go_wp2_with (at_builtin; refine wl_app _ rfl (.tmp 47) (.tmp 55) rfl w.heap.size _ ((shL ks bs l n).take a) (toF y1) w rfl rfl O6.out B6.out hs7 hll ?_)
          intro v9 w9 ho9 hb9
          try rw [SFx.out] at ho9
          have O9 := Lib.hid ho9
          have B9 := Lib.hid hb9
          clear ho9 hb9
          go_wp2
          go_roundw
          case rel => exact ⟨a + 1, by omega, by go_num, O9.out, B9.out⟩
          case measure => simp [intOf] <;> omega
    · obtain rfl : n = a := by omega
      rw [SN.out] at OO
      go_wp2
      go_ret
      exact ⟨_, rfl, OO.out, HB.out⟩
end Go.Proofs.Ytjljndnpefdifaa.Gm
