/- The reference's Wrapped. -/
import Derived.Test.YtkcfnbfkbmgchaaDoorMc
import Derived.Test.YtkcfnbfkbmgchaaDoorHl
import Derived.Test.YtkcfnbfkbmgchaaDoorOn
import Derived.Test.YtkcfnbfkbmgchaaDoorNu
import Derived.Test.YtkcfnbfkbmgchaaDoorVt
namespace Go.Proofs.YtkcfnbfkbmgchaaDoor.Gm
open Go.RowKit
set_option linter.unusedVariables false
/-- the places of two numbers added, round each axis, the first so many of them -/
def adP (ds : List Nat) (i j m : Nat) : List Nat := (List.range ds.length).map fun x => if x < m then (nd (plcs ds j) x + nd (plcs ds i) x) % nd ds x else nd (plcs ds j) x
theorem adP_len (ds : List Nat) (i j m : Nat) : (adP ds i j m).length = ds.length := by simp [adP]
theorem nd_adP (ds : List Nat) (i j m : Nat) {x : Nat} (hx : x < ds.length) : nd (adP ds i j m) x = if x < m then (nd (plcs ds j) x + nd (plcs ds i) x) % nd ds x else nd (plcs ds j) x := by
  rw [nd_eq, adP, List.getElem?_map, List.getElem?_range hx]; rfl
theorem ext_nd {l m : List Nat} (hl : l.length = m.length) (h : ∀ i, i < l.length → nd l i = nd m i) : l = m := by
  apply List.ext_getElem?
  intro i
  by_cases hi : i < l.length
  · have := h i hi
    rw [nd_eq, nd_eq, List.getElem?_eq_getElem hi, List.getElem?_eq_getElem (by omega)] at this
    rw [List.getElem?_eq_getElem hi, List.getElem?_eq_getElem (by omega)]
    exact congrArg some this
  · rw [List.getElem?_eq_none (by omega), List.getElem?_eq_none (by omega)]
theorem adP_zero (ds : List Nat) (i j : Nat) : adP ds i j 0 = plcs ds j :=
  ext_nd (by rw [adP_len, plcs_len]) (fun x hx => by rw [adP_len] at hx; rw [nd_adP _ _ _ _ hx, if_neg (by omega)])
theorem adP_succ (ds : List Nat) (i j : Nat) {m : Nat} (hm : m < ds.length) : (adP ds i j m).set m ((nd (plcs ds j) m + nd (plcs ds i) m) % nd ds m) = adP ds i j (m + 1) :=
  ext_nd (by rw [List.length_set, adP_len, adP_len]) (fun x hx => by
    rw [List.length_set, adP_len] at hx
    rw [nd_set _ _ _ _ (by rw [adP_len]; exact hm), nd_adP _ _ _ _ hx, nd_adP _ _ _ _ hx]
    by_cases h : m = x
    · subst h; rw [if_pos rfl, if_pos (by omega)]
    · rw [if_neg h]
      by_cases h2 : x < m
      · rw [if_pos h2, if_pos (by omega)]
      · rw [if_neg h2, if_neg (by omega)])
theorem plcs_cons (d : Nat) (l : List Nat) (k : Nat) : plcs (d :: l) k = k / pr l % d :: plcs l k := by
  refine ext_nd (by simp [plcs]) (fun x hx => ?_)
  rw [plcs_len] at hx
  rw [nd_plcs _ _ _ hx]
  cases x with
  | zero => rw [nd_zero, nd_zero]; rfl
  | succ x =>
    rw [nd_succ, nd_succ, nd_plcs _ _ _ (by simpa using hx)]; rfl
theorem adP_cons (d : Nat) (l : List Nat) (i j : Nat) : adP (d :: l) i j (l.length + 1) = (j / pr l % d + i / pr l % d) % d :: adP l i j l.length := by
  refine ext_nd (by simp [adP]) (fun x hx => ?_)
  rw [adP_len] at hx
  rw [nd_adP _ _ _ _ hx, if_pos (by simpa using hx), plcs_cons, plcs_cons]
  cases x with
  | zero => rw [nd_zero, nd_zero, nd_zero, nd_zero]
  | succ x =>
    have hx2 : x < l.length := by simpa using hx
    rw [nd_succ, nd_succ, nd_succ, nd_succ, nd_adP _ _ _ _ hx2, if_pos hx2]
theorem AD_modn : ∀ (ks : List Nat) (i j : Nat), AD ks (i % pk ks) (j % pk ks) = AD ks i j
  | [], _, _ => rfl
  | k :: ks, i, j => by
    have e : ∀ i, i % pk (k :: ks) % pk ks = i % pk ks := fun i => by rw [pk_cons]; exact Nat.mod_mul_left_mod _ _ _
    have e2 : ∀ i, i % pk (k :: ks) / pk ks = i / pk ks % 2 ^ k := fun i => by rw [pk_cons]; exact Nat.mod_mul_left_div_self _ _ _
    simp only [AD]
    rw [e, e, e2, e2, ← Nat.add_mod]
theorem plc_adP : ∀ (ks : List Nat) (i j : Nat), plc (szs ks) (adP (szs ks) i j (szs ks).length) = AD ks i j
  | [], _, _ => rfl
  | k :: ks, i, j => by
    have h := plc_adP ks i j
    rw [show szs (k :: ks) = 2 ^ k :: szs ks from rfl, List.length_cons, adP_cons]
    show _ * pr (szs ks) + plc (szs ks) _ = _
    rw [h]
    simp only [AD]
    rw [AD_modn, ← Nat.add_mod, Nat.add_comm (j / _)]
    rfl
/-- the product round all axes, gathered so far -/
@[irreducible] def wrL (ks : List Nat) (l m : List F) (i j : Nat) : List F := (List.range (pk ks)).map fun p =>
  S i (fun a => S (pk ks) (fun b => if AD ks a b = p then cf l a * cf m b else 0)) + S j (fun b => if AD ks i b = p then cf l i * cf m b else 0)
theorem wrL_len (ks : List Nat) (l m : List F) (i j : Nat) : (wrL ks l m i j).length = pk ks := by unfold wrL; simp
theorem cf_wrL (ks : List Nat) (l m : List F) (i j : Nat) {p : Nat} (hp : p < pk ks) : cf (wrL ks l m i j) p = S i (fun a => S (pk ks) (fun b => if AD ks a b = p then cf l a * cf m b else 0)) + S j (fun b => if AD ks i b = p then cf l i * cf m b else 0) := by
  unfold wrL; exact cf_ofFn _ hp
theorem wrL_zero (ks : List Nat) (l m : List F) : wrL ks l m 0 0 = List.replicate (pk ks) 0 := by
  refine ext_cf (by rw [wrL_len, List.length_replicate]) (fun p hp => ?_)
  rw [wrL_len] at hp
  rw [cf_wrL _ _ _ _ _ hp, cf_replicate, S_zero, S_zero]
  grind
theorem wrL_carry (ks : List Nat) (l m : List F) (i : Nat) : wrL ks l m i (pk ks) = wrL ks l m (i + 1) 0 := by
  refine ext_cf (by rw [wrL_len, wrL_len]) (fun p hp => ?_)
  rw [wrL_len] at hp
  rw [cf_wrL _ _ _ _ _ hp, cf_wrL _ _ _ _ _ hp, S_succ, S_zero]
  grind
theorem wrL_step (ks : List Nat) (l m : List F) (i j : Nat) : (wrL ks l m i j).set (AD ks i j) (cf (wrL ks l m i j) (AD ks i j) + cf l i * cf m j) = wrL ks l m i (j + 1) := by
  have hq := AD_lt ks i j
  refine ext_cf (by rw [List.length_set, wrL_len, wrL_len]) (fun p hp => ?_)
  rw [List.length_set, wrL_len] at hp
  rw [cf_set _ _ _ _ (by rw [wrL_len]; exact hq), cf_wrL _ _ _ _ (j + 1) hp, S_succ]
  split
  · rename_i h
    subst h
    rw [cf_wrL _ _ _ _ _ hq]
    grind
  · rename_i h
    rw [cf_wrL _ _ _ _ _ hp]
    grind
theorem wrL_full (ks : List Nat) (l m : List F) : wrL ks l m (pk ks) 0 = cysL ks l m := by
  refine ext_cf (by rw [wrL_len, cysL_len]) (fun p hp => ?_)
  rw [wrL_len] at hp
  rw [cf_wrL _ _ _ _ _ hp, cf_cysL _ _ _ hp, cycs, S_zero]
  grind
def WrA (w : World) (ks : List Nat) (l m : List F) (n g : Nat) (i : Value) (wr : World) : Prop :=
  ∃ a : Nat, a ≤ n ∧ i = .int .i64 a ∧ Ow w.heap.size wr (.slice (some ⟨g, 0, none⟩) n n) (wrL ks l m a 0) ∧ Below w.heap.size w wr
def WrB (w : World) (B1 : Nat) (ks : List Nat) (l m : List F) (n g a : Nat) (pv : Value) (pl : List Int) (j : Value) (wr : World) : Prop :=
  ∃ b : Nat, b ≤ n ∧ j = .int .i64 b ∧ Ow w.heap.size wr (.slice (some ⟨g, 0, none⟩) n n) (wrL ks l m a b) ∧ Below w.heap.size w wr ∧ Oz .i64 3 B1 wr pv pl ∧ B1 ≤ wr.heap.size
def WrC (w4 : World) (B : Nat) (ds : List Nat) (a b N gq cq : Nat) (k : Value) (wr : World) : Prop :=
  ∃ m : Nat, m ≤ N ∧ k = .int .i64 m ∧ Oz .i64 3 B wr (.slice (some ⟨gq, 0, none⟩) N cq) (zi (adP ds a b m)) ∧ Only (fun k => k = gq) w4 wr
theorem cell_only {w w' : World} {S : Nat → Prop} {b o : Nat} {v : Value} (h : Only S w w') (hc : w.cell? ⟨b, o, none⟩ = some v) (hb : ¬ S b) : w'.cell? ⟨b, o, none⟩ = some v :=
  (World.cell?_of_block (a := ⟨b, o, none⟩) (h.block b (World.block_lt_of_cell? _ _ hc) hb)).trans hc
theorem cell_below {w w' : World} {b o : Nat} {v : Value} (h : Below w.heap.size w w') (hc : w.cell? ⟨b, o, none⟩ = some v) : w'.cell? ⟨b, o, none⟩ = some v :=
  (h.cell (p := ⟨b, o, none⟩) (World.block_lt_of_cell? _ _ hc)).trans hc
set_option maxHeartbeats 4000000 in
set_option maxRecDepth 100000 in
theorem rwrapped_ok (ks : List Nat) (xs ys : List Int) (v v2 v3 : Value) (w : World) (h : Rd .i64 w v (zi (szs ks))) (h2 : Rd .u64 w v2 xs) (h3 : Rd .u64 w v3 ys) (hs : Shp (szs ks)) (hx : B64 xs) (hy : B64 ys) (hl : xs.length = pk ks) (hl2 : ys.length = pk ks) :
    Calls Tryd.prog 38 #[v, v2, v3] w (RetL w (cysL ks (xs.map toF) (ys.map toF))) := by
  have hn1 : 1 ≤ pk ks := hs.pr1
  have hn2 : pk ks ≤ 1024 := hs.le
  have hN1 : 1 ≤ ks.length := by have := hs.len0; rwa [szs_len] at this
  have hN3 : ks.length ≤ 3 := by have := hs.len3; rwa [szs_len] at this
  obtain ⟨sa, scap, sb, so, rfl, hscap, hsm, hsx, hsc⟩ := h.opened
  obtain ⟨xa, xcap, xb, xo, rfl, hxcap, hxm, hxx, hxc⟩ := h2.opened
  obtain ⟨ya, ycap, yb, yo, rfl, hycap, hym, hyx, hyc⟩ := h3.opened
  have LZ := Lib.hid (show (zi (szs ks)).length = ks.length by rw [zi_len, szs_len])
  rw [LZ.out] at hscap hsx hsc
  rw [hl] at hxcap hxx hxc
  rw [hl2] at hycap hyx hyc
  obtain rfl := hsx.resolve_left (by omega)
  obtain rfl := hxx.resolve_left (by omega)
  obtain rfl := hyx.resolve_left (by omega)
  have SC := Lib.hid (show ∀ p, p < ks.length → w.cell? ⟨sb, so + p, none⟩ = some (.int .i64 (nd (szs ks) p)) from fun p hp => by rw [hsc p hp, gd_zi])
  have XC := Lib.hid hxc
  have YC := Lib.hid hyc
  obtain ⟨ds, hds⟩ : ∃ ds, ds = szs ks := ⟨_, rfl⟩
  have HDS := Lib.hid hds
  have CP := Lib.hid (fun (i : Nat) (hi : i ≤ 1048576) w v h => rplaces_any (szs ks) i (i : Int) v w h hs hi rfl)
  have CA := Lib.hid (fun a b w v v2 h h2 => (rplace_any (szs ks) (adP (szs ks) a b ks.length) v v2 w h h2 hs (by rw [adP_len]) (fun i hi => by
    rw [nd_adP _ _ _ _ hi, if_pos (by rw [← szs_len]; exact hi)]
    exact Nat.mod_lt _ (hs.pos _ (nd_mem hi)))))
  have PA := Lib.hid (fun a b => (show plc (szs ks) (adP (szs ks) a b ks.length) = AD ks a b by rw [← szs_len]; exact plc_adP ks a b))
  have PLL := Lib.hid (fun i => (show (zi (plcs (szs ks) i)).length = ks.length by rw [zi_len, plcs_len, szs_len]))
  have ADL := Lib.hid (fun a b m => (show (zi (adP (szs ks) a b m)).length = ks.length by rw [zi_len, adP_len, szs_len]))
  have AD0 := Lib.hid (fun a b => (adP_zero (szs ks) a b))
  have AD1 := Lib.hid (fun a b m (hm : m < ks.length) => (show (zi (adP (szs ks) a b m)).set m (((nd (plcs (szs ks) b) m + nd (plcs (szs ks) a) m) % nd (szs ks) m : Nat) : Int) = zi (adP (szs ks) a b (m + 1)) by
    have := adP_succ (szs ks) a b (m := m) (by rw [szs_len]; exact hm)
    rw [← this]; unfold zi; rw [List.map_set]))
  have ADM := Lib.hid (fun a b m (hm : m < ks.length) => (show gd (zi (adP (szs ks) a b m)) m = (nd (plcs (szs ks) b) m : Int) by
    rw [gd_zi, nd_adP _ _ _ _ (by rw [szs_len]; exact hm), if_neg (by omega)]))
  have PLM := Lib.hid (fun a m => (gd_zi (plcs (szs ks) a) m))
  have PLT := Lib.hid (fun a m (hm : m < ks.length) => (show nd (plcs (szs ks) a) m < nd (szs ks) m ∧ nd (szs ks) m ≤ 1024 from ⟨plcs_lt _ _ _ (by rw [szs_len]; exact hm) (hs.pos _ (nd_mem (by rw [szs_len]; exact hm))), hs.ndle (by rw [szs_len]; exact hm)⟩))
  obtain ⟨l, hle⟩ : ∃ l, l = xs.map toF := ⟨_, rfl⟩
  obtain ⟨m, hme⟩ : ∃ m, m = ys.map toF := ⟨_, rfl⟩
  have GX := Lib.hid (fun i => (show cf l i = toF (gd xs i) by rw [hle, cf_map]))
  have GY := Lib.hid (fun i => (show cf m i = toF (gd ys i) by rw [hme, cf_map]))
  have W0 := Lib.hid (wrL_zero ks l m).symm
  have WL' := Lib.hid (fun a b => wrL_len ks l m a b)
  have WS := Lib.hid (fun a b => wrL_step ks l m a b)
  have WC := Lib.hid (fun a => wrL_carry ks l m a)
  have WF := Lib.hid (wrL_full ks l m)
  have ALT := Lib.hid (fun a b => AD_lt ks a b)
  rw [← hle, ← hme]
  rw [LZ.out, hl, hl2]
  have X := Lib.hid (show Rd .i64 w (.slice (some ⟨sb, so, none⟩) ks.length scap) (zi (szs ks)) by rw [← LZ.out]; exact h)
  rw [← hds] at CP CA PA PLL ADL AD0 AD1 ADM PLM PLT SC X
  obtain ⟨n, hn⟩ : ∃ n, n = pk ks := ⟨_, rfl⟩
  obtain ⟨N, hN⟩ : ∃ N, N = ks.length := ⟨_, rfl⟩
  rw [← hn] at hn1 hn2 hxcap hycap XC YC W0 WL' WC WF ALT ⊢
  rw [← hN] at hN1 hN3 hscap SC X CA PA PLL ADL AD1 ADM PLT ⊢
  clear h h2 h3 hs hsc hxc hyc hl hl2 hle hme hds hn hN LZ
  go_enter Tryd.func38, Tryd.ntmps38
  go_wp2_with (refine wl_makeF _ rfl (.tmp 15) (.tmp 15) rfl w.heap.size _ _ n w rfl rfl rfl rfl (by omega) (Below.refl _ _) (Nat.le_refl _) ?_)
  intro g w1 _ hown1 hbel1
  rw [W0.out] at hown1
  have O1 := Lib.hid hown1
  have B1 := Lib.hid hbel1
  clear hown1 hbel1
  go_wp2
  go_loopw [8, 9, 10, 11, 12, 13] (fun i _ _ _ _ _ wr => WrA w ks l m n g i wr) (fun i _ _ _ _ _ _ => n - (intOf i).toNat)
  case atStart => exact ⟨0, by omega, rfl, O1.out, B1.out⟩
  case round =>
    obtain ⟨a, ha, rfl, ho, hbel⟩ := hrel
    have OO := Lib.hid ho
    have HB := Lib.hid hbel
    have hwsz := hbel.size
    have hgw := ho.base.2
    have hgl := ho.base.1
    clear ho hbel
    by_cases hal : a < n
    · have XW := Lib.hid (X.out.below HB.out)
      go_wp2_with fail
      refine (CP.out a (by omega) _ _ XW.out).mono ?_
      rintro e w3 ⟨pv, rfl, hp, hb⟩
      obtain ⟨gp, cp, rfl, hcp, hcpm⟩ := hp.opened (by rw [PLL.out]; exact hN1)
      rw [PLL.out] at hp hcp ⊢
      have hpb := hp.base.1
      have P3 := Lib.hid hp
      have O3 := Lib.hid (OO.out.below hb)
      have B3 := Lib.hid (HB.out.trans (hb.mono hwsz))
      have hs3 := hb.size
      have hs3w := B3.out.size
      clear hp hb OO HB XW
      obtain ⟨wo, hwo⟩ : ∃ wo : World, wo = wr := ⟨_, rfl⟩
      subst hwo
      go_wp2
      go_loopw [10, 11, 12, 13] (fun j _ _ _ wi => WrB w wo.heap.size ks l m n g a (.slice (some ⟨gp, 0, none⟩) N cp) (zi (plcs ds a)) j wi) (fun j _ _ _ _ => n - (intOf j).toNat)
      case atStart => exact ⟨0, by omega, rfl, O3.out, B3.out, P3.out, hs3⟩
      case round =>
        obtain ⟨b, hbn, rfl, ho, hbel, hp, hsz⟩ := hrel
        have OO := Lib.hid ho
        have HB := Lib.hid hbel
        have HP := Lib.hid hp
        have hwsz2 := hbel.size
        clear ho hbel hp O3 B3 P3
        by_cases hbl : b < n
        · have XW := Lib.hid (X.out.below HB.out)
          go_wp2_with fail
          refine (CP.out b (by omega) _ _ XW.out).mono ?_
          rintro e w4 ⟨qv, rfl, hq, hb⟩
          obtain ⟨gq, cq, rfl, hcq, hcqm⟩ := hq.opened (by rw [PLL.out]; exact hN1)
          rw [PLL.out] at hq hcq ⊢
          have hqb := hq.base.1
          have hgpl := (HP.out.base).2
          have Q4 := Lib.hid (show Oz .i64 3 wr.heap.size w4 (.slice (some ⟨gq, 0, none⟩) N cq) (zi (adP ds a b 0)) by rw [AD0.out]; exact hq)
          have O4 := Lib.hid (OO.out.below hb)
          have P4 := Lib.hid (HP.out.below hb)
          have B4 := Lib.hid (HB.out.trans (hb.mono hwsz2))
          have hs4 := hb.size
          clear hq hb OO HB XW HP
          obtain ⟨wq, hwq⟩ : ∃ wq : World, wq = wr := ⟨_, rfl⟩
          subst hwq
          go_wp2
          go_loopw [12] (fun k wi => WrC w4 wq.heap.size ds a b N gq cq k wi) (fun k _ => N - (intOf k).toNat)
          case atStart => exact ⟨0, by omega, rfl, Q4.out, Only.refl _ _⟩
          case round =>
            obtain ⟨x, hx1, rfl, hq, ho⟩ := hrel
            have Q5 := Lib.hid hq
            have OB := Lib.hid ho
            clear hq ho
            by_cases hxl : x < N
            · have c1 : wr.cell? ⟨gq, x, none⟩ = some (.int .i64 (nd (plcs ds b) x : Int)) := by
                have := Q5.out.cell (i := x) (by rw [ADL.out]; exact hxl)
                rwa [ADM.out a b x hxl] at this
              have c2 : wr.cell? ⟨gp, x, none⟩ = some (.int .i64 (nd (plcs ds a) x : Int)) := by
                have := P4.out.cell (i := x) (by rw [PLL.out]; exact hxl)
                rw [PLM.out] at this
                exact cell_only OB.out this (by omega)
              have c3 : wr.cell? ⟨sb, so + x, none⟩ = some (.int .i64 (nd ds x : Int)) := by
                have h0 := SC.out x hxl
                have hlt := World.block_lt_of_cell? _ _ h0
                have hlt : sb < w.heap.size := hlt
                exact cell_only OB.out (cell_below B4.out h0) (by omega)
              obtain ⟨t2, t3⟩ := PLT.out a x hxl
              have t1 := (PLT.out b x hxl).1
              have ADx := Lib.hid (AD1.out a b x hxl)
              have ADl := Lib.hid (ADL.out a b x)
              generalize nd (plcs ds b) x = p1 at *
              generalize nd (plcs ds a) x = p2 at *
              generalize nd ds x = d at *
              have e1 := nat_rem (p1 + p2) d
              have e4 : ((p1 + p2 : Nat) : Int) % (d : Int) = (((p1 + p2) % d : Nat) : Int) := rfl
              have e2 : IntKind.i64.wrap ((p1 : Int) + (p2 : Int)) = ((p1 + p2 : Nat) : Int) := by rw [show (p1 : Int) + (p2 : Int) = ((p1 + p2 : Nat) : Int) by omega]; exact wrap_nat (by omega)
              have hd0 : ¬ d = 0 := by omega
              generalize (p1 + p2) % d = r at *
              generalize p1 + p2 = s at *
              go_wp2
              go_still_tail 17, (by kernel_rfl)
              repeat still_step
              try refine wpStill_nil ?_
              change wpList _ _ _ _ _ wr.drew
              clear c1
              go_wp2_with (refine wl_storeI .i64 3 _ rfl (.tmp 57) (.tmp 56) (fun _ => rfl) rfl wq.heap.size gq x N cq (zi (adP ds a b x)) (r : Int) rfl rfl Q5.out.drew ADl.out hxl ?_)
              intro w5 hown5 ho5 hs6
              rw [ADx.out] at hown5
              have Q6 := Lib.hid hown5
              have Q7 := Lib.hid (OB.out.drew.trans ho5)
              clear hown5 ho5 hs6 c2 c3
              go_wp2
              go_roundw
              case rel => exact ⟨x + 1, by omega, by go_num, Q6.out, Q7.out⟩
              case measure => simp [intOf] <;> omega
            · obtain rfl : N = x := by omega
              have hs5 := OB.out.size
              have O5 := Lib.hid (O4.out.only OB.out (fun gg e e' => by have e2 : g = gg := by simpa [Value.ownBlock] using e
                                                                        omega))
              have P5 := Lib.hid (P4.out.only OB.out (fun gg e e' => by have e2 : gp = gg := by simpa [Value.ownBlock] using e
                                                                        omega))
              have B5 := Lib.hid (B4.out.trans (OB.out.below (by omega) (fun gg e => by omega)))
              have XW := Lib.hid (X.out.below B5.out)
              have hs6 := B5.out.size
              clear O4 P4 B4 OB
              go_wp2_with fail
              refine (CA.out a b _ _ _ XW.out Q5.out.rd).mono ?_
              rintro e w6 ⟨rfl, hb⟩
              rw [PA.out a b]
              have O6 := Lib.hid (O5.out.below hb)
              have P6 := Lib.hid (P5.out.below hb)
              have B6 := Lib.hid (B5.out.trans (hb.mono hs6))
              have hs7 := hb.size
              clear hb O5 P5 B5 XW
              have hlt := ALT.out a b
              have c1 : w6.cell? ⟨g, AD ks a b, none⟩ = some (.int .u64 (vl (cf (wrL ks l m a b) (AD ks a b)))) := Ow.cell (l := wrL ks l m a b) (cap := n) (by rw [WL'.out]; exact O6.out) (by rw [WL'.out]; exact hlt)
              have c2 : w6.cell? ⟨xb, xo + a, none⟩ = some (.int .u64 (gd xs a)) := cell_below B6.out (XC.out a hal)
              have c3 : w6.cell? ⟨yb, yo + b, none⟩ = some (.int .u64 (gd ys b)) := cell_below B6.out (YC.out b hbl)
              have hb1 := hx.get a
              have hb2 := hy.get b
              have WSx := WS.out a b
              rw [GX.out a, GY.out b] at WSx
              have WSx := Lib.hid WSx
              have WLx := Lib.hid (WL'.out a b)
              generalize gd xs a = y1 at *
              generalize gd ys b = y2 at *
              generalize cf (wrL ks l m a b) (AD ks a b) = z at *
              generalize AD ks a b = q at *
              go_wp2
              go_still_tail 17, (by kernel_rfl)
              repeat still_step
              still_call (s_same (rmul_any y1 y2 _ hb1.1 hb1.2 hb2.1 hb2.2))
              repeat still_step
              still_call (s_same (radd_F z (toF y1 * toF y2) _))
              repeat still_step
              try refine wpStill_nil ?_
              change wpList _ _ _ _ _ w6.drew
              clear c1
              go_wp2_with (refine wl_storeF _ rfl (.tmp 77) (.tmp 76) rfl w.heap.size g q n n (wrL ks l m a b) (z + toF y1 * toF y2) rfl rfl O6.out.drew WLx.out hlt ?_)
              intro w7 hown7 ho7 hs8
              try rw [WSx.out] at hown7
              have O7 := Lib.hid hown7
              have P7 := Lib.hid (P6.out.drew.only ho7 (fun gg e e' => by have e2 : gp = gg := by simpa [Value.ownBlock] using e
                                                                          omega))
              have B7 := Lib.hid (B6.out.drew.trans (ho7.below (by have := B6.out.size; exact this) (fun gg e => by omega)))
              clear hown7 ho7 c2 c3
              go_wp2
              go_roundw
              case rel => exact ⟨b + 1, by omega, by go_num, O7.out, B7.out, P7.out, by rw [hs8]; show _ ≤ w6.heap.size; omega⟩
              case measure => simp [intOf] <;> omega
        · obtain rfl : n = b := by omega
          have OO2 := OO.out
          rw [WC.out a] at OO2
          have OO2 := Lib.hid OO2
          go_wp2
          go_roundw
          case rel => exact ⟨a + 1, by omega, by go_num, OO2.out, HB.out⟩
          case measure => simp [intOf] <;> omega
    · obtain rfl : n = a := by omega
      rw [WF.out] at OO
      go_wp2
      go_ret
      exact ⟨_, rfl, OO.out, HB.out⟩
end Go.Proofs.YtkcfnbfkbmgchaaDoor.Gm
