/- seal.Shift. -/
import Derived.Test.YtjljndnpefdifaaSf
import Derived.Test.YtjljndnpefdifaaSg
namespace Go.Proofs.Ytjljndnpefdifaa.Gm
open Go.RowKit
set_option linter.unusedVariables false
/-- the bits below a power of two are the rest, below nothing, too -/
theorem and_rest (z : Int) (d k : Nat) (hd : d = 2 ^ k) (hk : k ≤ 10) : bits .and .i64 z ((d : Int) - 1) = z % (d : Int) := by
  subst hd
  have h1 : (2 : Nat) ^ k ≤ 1024 := by have := Nat.pow_le_pow_right (show 0 < 2 by omega) hk; simpa using this
  have h0 := Nat.two_pow_pos k
  have e1 : ((2 ^ k : Nat) : Int) - 1 = ((2 ^ k - 1 : Nat) : Int) := by omega
  rw [e1]
  show IntKind.i64.wrap ((BitVec.ofInt 64 z &&& BitVec.ofInt 64 ((2 ^ k - 1 : Nat) : Int)).toNat : Int) = _
  have e2 : (BitVec.ofInt 64 ((2 ^ k - 1 : Nat) : Int)).toNat = 2 ^ k - 1 := by
    rw [BitVec.ofInt_natCast, BitVec.toNat_ofNat]; exact Nat.mod_eq_of_lt (by omega)
  rw [BitVec.toNat_and, e2, Nat.and_two_pow_sub_one_eq_mod, BitVec.toNat_ofInt]
  have e3 : (((z % ((2 ^ 64 : Nat) : Int)).toNat % 2 ^ k : Nat) : Int) = z % ((2 ^ k : Nat) : Int) := by
    rw [Int.natCast_emod, Int.toNat_of_nonneg (Int.emod_nonneg _ (by omega))]
    have hdv : ((2 ^ k : Nat) : Int) ∣ ((2 ^ 64 : Nat) : Int) := Int.natCast_dvd_natCast.2 (Nat.pow_dvd_pow 2 (by omega))
    exact Int.emod_emod_of_dvd _ hdv
  rw [e3]
  have h4 := Int.emod_nonneg z (show ((2 ^ k : Nat) : Int) ≠ 0 by omega)
  have h5 := Int.emod_lt_of_pos z (show (0 : Int) < ((2 ^ k : Nat) : Int) by omega)
  exact IntWalk.i64_in _ (by omega)
def ShA (w : World) (ks : List Nat) (bs : List Int) (l : List F) (n g : Nat) (i : Value) (wr : World) : Prop :=
  ∃ a : Nat, a ≤ n ∧ i = .int .i64 a ∧ Ow w.heap.size wr (.slice (some ⟨g, 0, none⟩) n n) (shL ks bs l a) ∧ Below w.heap.size w wr
def ShB (w4 : World) (B : Nat) (ds : List Nat) (a b N gq cq : Nat) (k : Value) (wr : World) : Prop :=
  ∃ m : Nat, m ≤ N ∧ k = .int .i64 m ∧ Oz .i64 3 B wr (.slice (some ⟨gq, 0, none⟩) N cq) (zi (adP ds a b m)) ∧ Only (fun k => k = gq) w4 wr
set_option maxHeartbeats 4000000 in
set_option maxRecDepth 100000 in
theorem shift_ok (ks : List Nat) (xs bs : List Int) (v v2 v3 : Value) (w : World) (h : Rd .i64 w v (zi (szs ks))) (h2 : Rd .u64 w v2 xs) (h3 : Rd .i64 w v3 bs) (hw : W64 (zi (szs ks))) (hs : Shp (szs ks)) (hx : B64 xs) (hl : xs.length = pk ks) (hbl : bs.length = ks.length) :
    Calls Try.prog 27 #[v, v2, v3] w (RetLE w (shL ks bs (xs.map toF) (pk ks)) 0) := by
  have hn1 : 1 ≤ pk ks := hs.pr1
  have hn2 : pk ks ≤ 1024 := hs.le
  have hN1 : 1 ≤ ks.length := by have := hs.len0; rwa [szs_len] at this
  have hN3 : ks.length ≤ 3 := by have := hs.len3; rwa [szs_len] at this
  have CC := Lib.hid (form_ok (zi (szs ks)) xs (szs ks) v v2 w h h2 hw rfl hs hl)
  have CP := Lib.hid (fun k (hk : k < pk ks) v w h => places_any (szs ks) k (k : Int) v w h hs (by omega) rfl)
  have CA := Lib.hid (fun k v v2 w h h2 => at_places (szs ks) (adP (szs ks) (BI ks bs) k ks.length) v v2 w h h2 hs (adP_len _ _ _ _) (fun x hx => adP_lt _ _ _ hx))
  have PA := Lib.hid (show ∀ k, plc (szs ks) (adP (szs ks) (BI ks bs) k ks.length) = AD ks (BI ks bs) k from fun k => by have := plc_adP ks (BI ks bs) k; rwa [szs_len] at this)
  obtain ⟨sa, scap, sb, so, rfl, hscap, hsm, hsx, hsc⟩ := h.opened
  obtain ⟨xa, xcap, xb, xo, rfl, hxcap, hxm, hxx, hxc⟩ := h2.opened
  obtain ⟨ya, ycap, yb, yo, rfl, hycap, hym, hyx, hyc⟩ := h3.opened
  have LZ := Lib.hid (show (zi (szs ks)).length = ks.length by rw [zi_len, szs_len])
  rw [LZ.out] at hscap hsx hsc CC ⊢
  rw [hl] at hxcap hxx hxc CC ⊢
  rw [hbl] at hycap hyx hyc ⊢
  obtain rfl := hsx.resolve_left (by omega)
  obtain rfl := hxx.resolve_left (by omega)
  obtain rfl := hyx.resolve_left (by omega)
  have SC := Lib.hid (show ∀ x, x < ks.length → w.cell? ⟨sb, so + x, none⟩ = some (.int .i64 (nd (szs ks) x : Int)) from fun x hx => by rw [hsc x hx, gd_zi])
  have XC := Lib.hid hxc
  have YC := Lib.hid hyc
  have HX := Lib.hid hx
  obtain ⟨l, hle⟩ : ∃ l, l = xs.map toF := ⟨_, rfl⟩
  have GX := Lib.hid (show ∀ i, cf l i = toF (gd xs i) from fun i => by rw [hle, cf_map])
  rw [← hle]
  have S0 := Lib.hid (shL_zero ks bs l).symm
  have SS := Lib.hid (fun m (hm : m < pk ks) => shL_step ks bs l hm)
  have SL := Lib.hid (fun m => shL_len ks bs l m)
  have ALT := Lib.hid (fun b => AD_lt ks (BI ks bs) b)
  have PLL := Lib.hid (fun k => show (zi (plcs (szs ks) k)).length = ks.length by rw [zi_len, plcs_len, szs_len])
  have PLM := Lib.hid (fun k x => show gd (zi (plcs (szs ks) k)) x = (nd (plcs (szs ks) k) x : Int) from gd_zi _ x)
  have PLT := Lib.hid (show ∀ k x, x < ks.length → nd (plcs (szs ks) k) x < nd (szs ks) x ∧ nd (szs ks) x ≤ 1024 from fun k x hx => ⟨plcs_lt _ k x (by rw [szs_len]; exact hx) (hs.nd1 (by rw [szs_len]; exact hx)), hs.ndle (by rw [szs_len]; exact hx)⟩)
  have AD0 := Lib.hid (fun k => adP_zero (szs ks) (BI ks bs) k)
  have ADL := Lib.hid (fun k m => show (zi (adP (szs ks) (BI ks bs) k m)).length = ks.length by rw [zi_len, adP_len, szs_len])
  have ADM := Lib.hid (fun k m (hm : m < ks.length) => show gd (zi (adP (szs ks) (BI ks bs) k m)) m = (nd (plcs (szs ks) k) m : Int) by rw [gd_zi, nd_adP _ _ _ _ (by rw [szs_len]; exact hm), if_neg (by omega)])
  have ADS := Lib.hid (fun k m (hm : m < ks.length) => show (zi (adP (szs ks) (BI ks bs) k m)).set m (((nd (plcs (szs ks) k) m + nd (byp (szs ks) bs) m) % nd (szs ks) m : Nat) : Int) = zi (adP (szs ks) (BI ks bs) k (m + 1)) by rw [zi_set, ← nd_BI ks bs (by rw [szs_len]; exact hm), adP_succ _ _ _ (by rw [szs_len]; exact hm)])
  have BYI := Lib.hid (show ∀ x, x < ks.length → (gd bs x % (nd (szs ks) x : Int) = (nd (byp (szs ks) bs) x : Int) ∧ nd (byp (szs ks) bs) x < nd (szs ks) x) from fun x hx => ⟨(nd_byp_int bs (by rw [szs_len]; exact hx) (hs.nd1 (by rw [szs_len]; exact hx))).symm, byp_lt bs (by rw [szs_len]; exact hx) (hs.nd1 (by rw [szs_len]; exact hx))⟩)
  have ANDB := Lib.hid (show ∀ (z : Int) x, x < ks.length → bits .and .i64 z ((nd (szs ks) x : Int) - 1) = z % (nd (szs ks) x : Int) from fun z x hx => by
    have hx' : x < (szs ks).length := by rw [szs_len]; exact hx
    exact and_rest z _ _ (nd_szs ks hx) (shp_k hs hx' (nd_szs ks hx)))
  have X := Lib.hid (show Rd .i64 w (.slice (some ⟨sb, so, none⟩) ks.length scap) (zi (szs ks)) by rw [← LZ.out]; exact h)
  obtain ⟨ds, hds⟩ : ∃ ds, ds = szs ks := ⟨_, rfl⟩
  rw [← hds] at CP CA PA SC PLL PLM PLT AD0 ADL ADM ADS BYI ANDB X
  obtain ⟨B, hB⟩ : ∃ B, B = BI ks bs := ⟨_, rfl⟩
  rw [← hB] at CA PA ALT AD0 ADL ADM ADS SS
  obtain ⟨n, hn⟩ : ∃ n, n = pk ks := ⟨_, rfl⟩
  rw [← hn] at hn1 hn2 hxcap XC CC CP S0 SS SL ALT ⊢
  obtain ⟨N, hN⟩ : ∃ N, N = ks.length := ⟨_, rfl⟩
  rw [← hN] at hN1 hN3 hscap hycap SC YC X CC CA PA PLL PLT ADL ADM ADS BYI ANDB ⊢
  clear h h2 h3 hs hsc hxc hyc hx hl hle hds hn hN LZ hw hbl hB
  go_enter Try.func27, Try.ntmps27
  go_wp2_with fail
  refine CC.out.mono ?_
  rintro e w' ⟨rfl, rfl⟩
  go_wp2_with (refine wl_makeF _ rfl (.tmp 27) (.tmp 27) rfl w.heap.size _ _ n w rfl rfl rfl rfl (by omega) (Below.refl _ _) (Nat.le_refl _) ?_)
  intro g w1 _ hown1 hbel1
  rw [S0.out] at hown1
  have O1 := Lib.hid hown1
  have B1 := Lib.hid hbel1
  clear hown1 hbel1
  go_wp2
  go_loopw [10, 11, 12, 13, 14, 31] (fun _ _ _ _ _ i wr => ShA w ks bs l n g i wr) (fun _ _ _ _ _ i _ => n - (intOf i).toNat)
  case atStart => exact ⟨0, by omega, rfl, O1.out, B1.out⟩
  case round =>
    obtain ⟨a, ha, rfl, ho, hbel⟩ := hrel
    have OO := Lib.hid ho
    have HB := Lib.hid hbel
    have hwsz := hbel.size
    have hgw := ho.base.2
    have hgl := ho.base.1
    clear ho hbel
    by_cases hal : a < n
    · have XW := Lib.hid (X.out.below HB.out)
      have cx : wr.cell? ⟨xb, xo + a, none⟩ = some (.int .u64 (gd xs a)) := cell_below HB.out (XC.out a hal)
      go_wp2_with fail
      refine (CP.out a hal _ _ XW.out).mono ?_
      rintro e w4 ⟨qv, rfl, hq, hb⟩
      obtain ⟨gq, cq, rfl, hcq, hcqm⟩ := hq.opened (by rw [PLL.out]; exact hN1)
      rw [PLL.out] at hq hcq ⊢
      have hqb := hq.base.1
      have Q4 := Lib.hid (show Oz .i64 3 wr.heap.size w4 (.slice (some ⟨gq, 0, none⟩) N cq) (zi (adP ds B a 0)) by rw [AD0.out]; exact hq)
      have O4 := Lib.hid (OO.out.below hb)
      have B4 := Lib.hid (HB.out.trans (hb.mono hwsz))
      have hs4 := hb.size
      clear hq hb OO HB XW cx
      obtain ⟨wq, hwq⟩ : ∃ wq : World, wq = wr := ⟨_, rfl⟩
      subst hwq
      go_wp2
      go_loopw [13, 14, 41] (fun _ _ k wi => ShB w4 wq.heap.size ds B a N gq cq k wi) (fun _ _ k _ => N - (intOf k).toNat)
      case atStart => exact ⟨0, by omega, rfl, Q4.out, Only.refl _ _⟩
      case round =>
        obtain ⟨x, hx1, rfl, hq, ho⟩ := hrel
        have Q5 := Lib.hid hq
        have OB := Lib.hid ho
        clear hq ho
        by_cases hxl : x < N
        · have c1 : wr.cell? ⟨gq, x, none⟩ = some (.int .i64 (nd (plcs ds a) x : Int)) := by
            have := Q5.out.cell (i := x) (by rw [ADL.out]; exact hxl)
            rwa [ADM.out a x hxl] at this
          have low : ∀ {b o : Nat} {v : Value}, w.cell? ⟨b, o, none⟩ = some v → wr.cell? ⟨b, o, none⟩ = some v := fun {b o v} h0 => by
            have hlt := World.block_lt_of_cell? _ _ h0
            have hlt : b < w.heap.size := hlt
            exact cell_only OB.out (cell_below B4.out h0) (by omega)
          have c2 : wr.cell? ⟨yb, yo + x, none⟩ = some (.int .i64 (gd bs x)) := low (YC.out x hxl)
          have c3 : wr.cell? ⟨sb, so + x, none⟩ = some (.int .i64 (nd ds x : Int)) := low (SC.out x hxl)
          clear low
          obtain ⟨t1, t3⟩ := PLT.out a x hxl
          obtain ⟨t4, t5⟩ := BYI.out x hxl
          have a1 := ANDB.out (gd bs x) x hxl
          rw [t4] at a1
          have a2 := ANDB.out ((nd (plcs ds a) x + nd (byp ds bs) x : Nat) : Int) x hxl
          have e4 : ((nd (plcs ds a) x + nd (byp ds bs) x : Nat) : Int) % (nd ds x : Int) = (((nd (plcs ds a) x + nd (byp ds bs) x) % nd ds x : Nat) : Int) := rfl
          rw [e4] at a2
          have ADx := Lib.hid (ADS.out a x hxl)
          have ADl := Lib.hid (ADL.out a x)
          clear t4 e4
          generalize nd (plcs ds a) x = p1 at *
          generalize nd (byp ds bs) x = p2 at *
          generalize nd ds x = d at *
          generalize gd bs x = z at *
          have e2 : IntKind.i64.wrap ((p1 : Int) + (p2 : Int)) = ((p1 + p2 : Nat) : Int) := by rw [show (p1 : Int) + (p2 : Int) = ((p1 + p2 : Nat) : Int) by omega]; exact wrap_nat (by omega)
          have e3 : IntKind.i64.wrap ((d : Int) - 1) = (d : Int) - 1 := IntWalk.i64_in _ (by omega)
          have hrl : (p1 + p2) % d < d := Nat.mod_lt _ (by omega)
          generalize (p1 + p2) % d = r at *
          generalize p1 + p2 = s at *
          go_wp2
          go_still_tail 18, (by kernel_rfl)
          repeat still_step
          try refine wpStill_nil ?_
          change wpList _ _ _ _ _ wr.drew
          clear c1
          go_wp2_with (refine wl_storeI .i64 3 _ rfl (.tmp 63) (.tmp 62) (fun _ => rfl) rfl wq.heap.size gq x N cq (zi (adP ds B a x)) (r : Int) rfl rfl Q5.out.drew ADl.out hxl ?_)
          intro w5 hown5 ho5 hs6
          try rw [ADx.out] at hown5
          have Q6 := Lib.hid hown5
          have Q7 := Lib.hid (OB.out.drew.trans ho5)
          clear hown5 ho5 hs6 c2 c3
          go_wp2
          go_roundw
          case rel => exact ⟨x + 1, by omega, by go_num, Q6.out, Q7.out⟩
          case measure => simp [intOf] <;> omega
        · obtain rfl : N = x := by omega
          have hs5 := OB.out.size
          have O5 := Lib.hid (O4.out.only OB.out (fun gg e e' => by have e2 : g = gg := by simpa [Value.ownBlock] using e
                                                                    omega))
          have B5 := Lib.hid (B4.out.trans (OB.out.below (by omega) (fun gg e => by omega)))
          have XW := Lib.hid (X.out.below B5.out)
          have hs6 := B5.out.size
          clear O4 B4 OB
          go_wp2_with fail
          refine (CA.out a _ _ _ XW.out Q5.out.rd).mono ?_
          rintro e w6 ⟨rfl, hb⟩
          rw [PA.out a]
          have O6 := Lib.hid (O5.out.below hb)
          have B6 := Lib.hid (B5.out.trans (hb.mono hs6))
          clear hb O5 B5 XW
          have hlt := ALT.out a
          have hb1 := HX.out.get a
          have SSx := SS.out a hal
          rw [GX.out a] at SSx
          have SSx := Lib.hid SSx
          have SLx := Lib.hid (SL.out a)
          generalize AD ks B a = q at *
          generalize gd xs a = y1 at *
          go_wp2_with fail
          refine (norm_any y1 _ hb1.1 hb1.2).mono ?_
          rintro e w7 ⟨rfl, rfl⟩
          go_wp2_with (refine wl_storeF _ rfl (.tmp 71) (.tmp 70) rfl w.heap.size g q n n (shL ks bs l a) (toF y1) rfl rfl O6.out SLx.out hlt ?_)
          intro w7 hown7 ho7 hs8
          try rw [SSx.out] at hown7
          have O7 := Lib.hid hown7
          have B7 := Lib.hid (B6.out.trans (ho7.below (by have := B6.out.size; exact this) (fun gg e => by omega)))
          clear hown7 ho7
          go_wp2
          go_roundw
          case rel => exact ⟨a + 1, by omega, by go_num, O7.out, B7.out⟩
          case measure => simp [intOf] <;> omega
    · obtain rfl : n = a := by omega
      go_wp2
      go_ret2
      exact ⟨_, rfl, OO.out, HB.out⟩
end Go.Proofs.Ytjljndnpefdifaa.Gm
