/- The reference's Turned and Whole. -/
import Derived.Test.YtcakeenfkdhedaaDoorGb
namespace Go.Proofs.YtcakeenfkdhedaaDoor.Gm
open Go.RowKit
set_option linter.unusedVariables false
/-- numbers of a line -/
def gath (zs : List Int) (s d L m : Nat) : List Int := (List.range m).map fun j => gd zs (lineAt s d L + j * s)
theorem gath_succ (zs : List Int) (s d L m : Nat) : gath zs s d L (m + 1) = gath zs s d L m ++ [gd zs (lineAt s d L + m * s)] := by unfold gath; rw [List.range_succ, List.map_append]; rfl
theorem gath_len (zs : List Int) (s d L m : Nat) : (gath zs s d L m).length = m := by simp [gath]
theorem gath_64 {zs : List Int} (h : B64 zs) (s d L m : Nat) : B64 (gath zs s d L m) := by
  intro z hz
  obtain ⟨p, _, rfl⟩ := List.mem_map.1 hz
  exact h.get _
def TuRel (w : World) (B1 : Nat) (back : Bool) (s k n f t g c : Nat) (ll : List (List Int)) (lv : Value) (zs : List Int) (i : Value) (wr : World) : Prop :=
  ∃ m : Nat, f ≤ m ∧ m ≤ t ∧ i = .int .i64 m ∧ Oz .u64 52 w.heap.size wr (.slice (some ⟨g, 0, none⟩) n c) (tz back s k n f m zs) ∧ OL B1 wr lv ll ∧ Below w.heap.size w wr ∧ B1 ≤ wr.heap.size
def ScR2 (w w4 : World) (back : Bool) (s k n f L N g c : Nat) (zs : List Int) (i : Value) (wi : World) : Prop :=
  ∃ j : Nat, j ≤ N ∧ i = .int .i64 j ∧ Oz .u64 52 w.heap.size wi (.slice (some ⟨g, 0, none⟩) n c) (tzPart back s k n f L j zs) ∧ Only (fun k => k = g) w4 wi
def GaRel (w2 : World) (zs : List Int) (s d L : Nat) (x i : Value) (wi : World) : Prop :=
  ∃ m : Nat, m ≤ d ∧ i = .int .i64 m ∧ Oz .u64 52 w2.heap.size wi x (gath zs s d L m) ∧ Below w2.heap.size w2 wi
def ScRel (w : World) (B1 : Nat) (back : Bool) (s k n f L g c : Nat) (ll : List (List Int)) (lv : Value) (xv : Value) (xl : List F) (zs : List Int) (i : Value) (wi : World) : Prop :=
  ∃ m : Nat, m ≤ 2 ^ k ∧ i = .int .i64 m ∧ Oz .u64 52 w.heap.size wi (.slice (some ⟨g, 0, none⟩) n c) (tzPart back s k n f L m zs) ∧ OL B1 wi lv ll ∧ Ow B1 wi xv xl ∧ Below w.heap.size w wi ∧ B1 ≤ wi.heap.size
theorem trL_at {back : Bool} {k : Nat} {zs : List Int} {s L j : Nat} (hj : j < 2 ^ k) : cf (trL back k ((gath zs s (2 ^ k) L (2 ^ k)).map toF)) j = tr back k (fun i => toF (gd zs (lineAt s (2 ^ k) L + i * s))) j := by
  rw [cf_trL _ _ _ hj]
  refine tr_congr (fun i hi => ?_) j
  rw [cf_map, gath, gd_range hi]
set_option maxHeartbeats 4000000 in
set_option maxRecDepth 100000 in
theorem rturned_any (ds : List Nat) (zs : List Int) (x k f t : Nat) (zx zf zt : Int) (back : Bool) (v v2 : Value) (w : World) (h : Rd .i64 w v (zi ds)) (h2 : Rd .u64 w v2 zs) (hs : Shp ds) (hw : W64 (zi ds)) (hz : B64 zs) (hl : zs.length = pr ds)
    (hxl : x < ds.length) (hk : nd ds x = 2 ^ k) (hft : f ≤ t) (ht : t ≤ pr (ds.take x) * under ds x) (ex : zx = x) (ef : zf = f) (et : zt = t) :
    Calls Tryd.prog 60 #[v, v2, .int .i64 zx, .int .i64 zf, .int .i64 zt, .bool back] w (RetZ w (tz back (under ds x) k (pr ds) f t zs)) := by
  subst ex ef et
  have HR := Lib.hid h
  have HR2 := Lib.hid h2
  obtain ⟨a, cap, rfl, hcap, hm⟩ := h.shape
  obtain ⟨a2, cap2, b2, off2, rfl, hcap2, hm2, hx2, hc2⟩ := h2.opened
  have HC2 := Lib.hid hc2
  have HS := Lib.hid hs
  have hpr := hs.le
  have hpr1 := hs.pr1
  have hkle : 2 ^ k ≤ 1024 := by rw [← hk]; exact hs.ndle hxl
  have hk10 : k ≤ 10 := by
    apply Classical.byContradiction
    intro hn
    have := Nat.pow_le_pow_right (show 0 < 2 by omega) (show 11 ≤ k by omega)
    omega
  have N1 : 1 ≤ 2 ^ k := Nat.two_pow_pos k
  have U1 := hs.under1 x
  have UL := hs.underle x
  have hlines : pr (ds.take x) * under ds x ≤ 1024 := by
    have h1 := pr_split ds x
    rw [pr_drop ds x hxl, show pr (ds.drop (x + 1)) = under ds x from rfl, hk] at h1
    have h2 : pr (ds.take x) * under ds x ≤ pr (ds.take x) * (2 ^ k * under ds x) := Nat.mul_le_mul_left _ (Nat.le_mul_of_pos_left _ N1)
    omega
  have EN := Lib.hid (show pr ds = pr (ds.take x) * (2 ^ k * under ds x) by rw [← pr_split ds x, pr_drop ds x hxl, hk]; rfl)
  have LG := Lib.hid (fun i hi => (lns_get hs hxl (i := i) hi).trans (by rw [hk] : zi (line (under ds x) (nd ds x) i) = zi (line (under ds x) (2 ^ k) i)))
  have LGL := Lib.hid (lns_length hs hxl)
  have HL := Lib.hid hl
  have HK := Lib.hid hk
  rw [hl] at hcap2 hx2
  rw [zi_len] at hcap
  have LZ := Lib.hid (zi_len ds)
  rcases hx2 with hx2 | rfl
  · exfalso; omega
  obtain ⟨i0, hi, hz0, hz1, hz2⟩ := info_parts info_u64
  have hnews : ∀ j u, (zs.map (Value.int .u64))[j]? = some u → w.cell? ((⟨b2, off2, none⟩ : Addr).add j) = some u := by
    intro j u hu
    have hj : j < zs.length := by have := (List.getElem?_eq_some_iff.1 hu).1; simpa using this
    have e : ((⟨b2, off2, none⟩ : Addr).add j) = ⟨b2, off2 + j, none⟩ := by unfold Addr.add; by_cases h0 : j = 0 <;> simp [h0]
    rw [e, HC2.out j hj, gd_eq]
    rw [List.getElem?_map, List.getElem?_eq_getElem hj] at hu
    rw [List.getElem?_eq_getElem hj]
    exact hu
  have HN := Lib.hid hnews
  have hnl : (zs.map (Value.int .u64)).length = pr ds * 1 := by rw [List.length_map, hl, Nat.mul_one]
  have HNL := Lib.hid hnl
  have H1 := Lib.hid (show ∀ u ∈ zs.map (Value.int .u64), u.oneCell' = true from fun u hu => by obtain ⟨y, _, rfl⟩ := List.mem_map.1 hu; rfl)
  have hm0 : 0 + pr ds ≤ maxLen := by unfold maxLen; omega
  have hby : (0 + pr ds) * 8 ≤ 140737488355328 := by omega
  have HM := Lib.hid hm0
  have ON := Lib.hid (World.ownsRow_nil w w.heap.size 52 1)
  have TN := Lib.hid (fun m => tz_len back (under ds x) k (pr ds) f m zs)
  have hzs : (Value.int .u64 0).cells.size = 1 := rfl
  have h01 : 0 < 1 := by decide
  have hrefl := Nat.le_refl w.heap.size
  clear h h2 hs hc2 hk hl hnews hnl hm0
  rw [LZ.out, HL.out]
  have TT := Lib.hid (show ∀ L, L < pr (ds.take x) * under ds x → ∀ i, i < 2 ^ k → lineAt (under ds x) (2 ^ k) L + i * under ds x < pr ds from fun L hL i hi => by
    rw [EN.out]; exact lineAt_lt _ _ _ L i (by omega) hL hi)
  have TP := Lib.hid (fun L m (hm : m < 2 ^ k) => tzPart_step back (under ds x) k (pr ds) f L m zs (by omega) hm)
  have TPL := Lib.hid (fun L m => tzPart_len back (under ds x) k (pr ds) f L m zs)
  have TP0 := Lib.hid (fun L => tzPart_zero back (under ds x) k (pr ds) f L zs)
  have TPF := Lib.hid (fun L (hL : f ≤ L) => tzPart_full back (under ds x) k (pr ds) f L zs hL)
  have T0 := Lib.hid (tz_none back (under ds x) k (pr ds) f (zs := zs) HL.out)
  have CLN := Lib.hid (fun w v h => rlines_any ds x (x : Int) v w h HS.out hw hxl rfl)
  have GL := Lib.hid (fun L m => gath_len zs (under ds x) (2 ^ k) L m)
  have GS := Lib.hid (fun L m => gath_succ zs (under ds x) (2 ^ k) L m)
  have CFW := Lib.hid (fun L w v h => rfwd_any k (gath zs (under ds x) (2 ^ k) L (2 ^ k)) v w h (gath_64 hz _ _ _ _) hk10 (gath_len _ _ _ _ _))
  have CBW := Lib.hid (fun L w v h => rbwd_any k (gath zs (under ds x) (2 ^ k) L (2 ^ k)) v w h (gath_64 hz _ _ _ _) hk10 (gath_len _ _ _ _ _))
  have GT := Lib.hid (fun L j (hj : j < 2 ^ k) => (trL_at (back := back) (zs := zs) (s := under ds x) (L := L) hj))
  have LLN := Lib.hid (fun L => (show (zi (line (under ds x) (2 ^ k) L)).length = 2 ^ k by rw [zi_len]; simp [line]))
  have LGD := Lib.hid (fun L i (hi : i < 2 ^ k) => gd_line (under ds x) (2 ^ k) L hi)
  obtain ⟨n, hn⟩ : ∃ n, n = pr ds := ⟨_, rfl⟩
  obtain ⟨s, hs'⟩ : ∃ s, s = under ds x := ⟨_, rfl⟩
  obtain ⟨M, hM⟩ : ∃ M, M = pr (ds.take x) * under ds x := ⟨_, rfl⟩
  obtain ⟨N, hN⟩ : ∃ N, N = 2 ^ k := ⟨_, rfl⟩
  have HNN := Lib.hid hN
  rw [← hM] at LG LGL TT ht hlines
  rw [← hN] at LG TT TP TPF GL GS GT LLN LGD N1 hkle
  have CFW := Lib.hid (show ∀ L w v, Rd .u64 w v (gath zs (under ds x) N L N) → Calls Tryd.prog 80 #[v] w (RetL w (trL false k ((gath zs (under ds x) N L N).map toF))) from fun L w v h => by rw [hN] at h ⊢; exact CFW.out L w v h)
  have CBW := Lib.hid (show ∀ L w v, Rd .u64 w v (gath zs (under ds x) N L N) → Calls Tryd.prog 79 #[v] w (RetL w (trL true k ((gath zs (under ds x) N L N).map toF))) from fun L w v h => by rw [hN] at h ⊢; exact CBW.out L w v h)
  have TP := Lib.hid (show ∀ L m, m < N → (tzPart back (under ds x) k (pr ds) f L m zs).set (lineAt (under ds x) N L + m * under ds x) (vl (cf (trL back k ((gath zs (under ds x) N L N).map toF)) m)) = tzPart back (under ds x) k (pr ds) f L (m + 1) zs from fun L m hm => by
    rw [GT.out L m hm]
    have := TP.out L m hm
    rw [hN]
    rw [hN] at this
    exact this)
  rw [← hs'] at LG TT TP TPL TP0 TPF T0 GL GS LGD LLN CFW CBW ⊢
  rw [← hn] at TT TP TPL TP0 TPF T0 HNL HM hcap2 HL hby hpr hpr1 ⊢
  have X := Lib.hid (show Rd .i64 w (.slice a ds.length cap) (zi ds) by rw [← LZ.out]; exact HR.out)
  have HC3 := Lib.hid (show ∀ i, i < n → w.cell? ⟨b2, off2 + i, none⟩ = some (.int .u64 (gd zs i)) from fun i hi => HC2.out i (by rw [HL.out]; exact hi))
  clear EN HK TN HR HC2 hM hn hs' hN UL U1
  go_enter Tryd.func60, Tryd.ntmps60
  go_wp2_with (at_builtin; refine wpList_append_own _ rfl (.const (.slice none 0 0)) (.tmp 19) 31 rfl w.heap.size 52 i0 (.int .u64 0) 1 8 Tryd.underlying31 hi hz0 hz1 hz2 hzs h01 (.slice none 0 0) 0 [] rfl ON.out ⟨b2, off2, none⟩ n cap2 (zs.map (Value.int .u64)) rfl HNL.out HN.out H1.out HM.out hby hrefl ?_)
  intro v1 w1 hown1 hg1 _
  have O1 : Oz .u64 52 w.heap.size w1 v1 zs := by
    unfold Oz
    rw [HL.out]
    exact hown1
  have B1 : Below w.heap.size w w1 := (Below.refl w.heap.size w).grown hg1 hrefl (fun k hk => by simp [Value.ownBlock] at hk)
  obtain ⟨g, c, rfl, hc, hcm⟩ := O1.opened (by rw [HL.out]; omega)
  rw [HL.out] at O1 hc ⊢
  have hg := O1.base
  have hs1 := B1.size
  have X1 := Lib.hid (X.out.below B1)
  have O1 := Lib.hid O1
  have B1 := Lib.hid B1
  clear hown1 hg1 HN HNL H1 HM ON hzs h01 hi hz0 hz1 hz2 hby
  go_wp2_with fail
  refine (CLN.out _ _ X1.out).mono ?_
  rintro e w2 ⟨lv, rfl, ho, hb⟩
  have hnM : f ≤ M := by omega
  have O2 := O1.out.below hb
  rw [← T0.out] at O2
  have O2 := Lib.hid O2
  have L2 := Lib.hid ho
  have hs2 := hb.size
  have B2 := Lib.hid (B1.out.trans (hb.mono hs1))
  obtain ⟨la, lc, rfl, hlc, hlcm⟩ := OL.shape ho
  rw [LGL.out] at L2 hlc ⊢
  have hwB := B2.out.size
  clear ho hb O1 B1 X1
  go_wp2
  go_loopw [15, 16, 17, 18] (fun i _ _ _ wr => TuRel w w1.heap.size back s k n f t g c (lnz (lns ds x)) (.slice la M lc) zs i wr) (fun i _ _ _ _ => t - (intOf i).toNat)
  case atStart => exact ⟨f, by omega, hft, rfl, O2.out, L2.out, B2.out, hs2⟩
  case round =>
    obtain ⟨m, hm0, hm1, rfl, ho, hol, hbel, hs3⟩ := hrel
    have OO := Lib.hid ho
    have OLN := Lib.hid hol
    have HB := Lib.hid hbel
    have hwsz := hbel.size
    clear ho hol hbel O2 L2 B2
    obtain ⟨wo, hwo⟩ : ∃ wo : World, wo = wr := ⟨_, rfl⟩
    subst hwo
    by_cases hml : m < t
    · have hmM : m < M := by omega
      obtain ⟨gl, cl, el, _, _⟩ := OLN.out.opened (by rw [LGL.out]; omega)
      rw [LGL.out] at el
      injection el with el1 el2 el3
      subst el1 el3
      obtain ⟨u, hcu, hou⟩ := OLN.out.at (i := m) (by rw [LGL.out]; exact hmM)
      rw [LG.out m hmM] at hou
      obtain ⟨ua, uc, ub, uo, rfl, huc, hum, hux, hue⟩ := hou.rd.opened
      rw [LLN.out m] at huc hux hue hcu hou
      obtain rfl := hux.resolve_left (by omega)
      have HU := Lib.hid hou
      have HUE := Lib.hid (show ∀ i, i < N → wo.cell? ⟨ub, uo + i, none⟩ = some (.int .i64 ((lineAt s N m + i * s : Nat) : Int)) from fun i hi => by have := hue i hi; rw [LGD.out m i hi] at this; exact this)
      have GLm := Lib.hid (GL.out m)
      have GSm := Lib.hid (GS.out m)
      have TTm := Lib.hid (TT.out m hmM)
      clear hou hue hux
      go_wp2
      go_loopw [16, 17] (fun xv j wi => GaRel wo zs s N m xv j wi) (fun _ j _ => N - (intOf j).toNat)
      case atStart => exact ⟨0, by omega, rfl, Oz.nil _ _ _ _, Below.refl _ _⟩
      case round =>
        obtain ⟨j, hj1, rfl, hx, hbi⟩ := hrel
        have OX := Lib.hid hx
        have BI := Lib.hid hbi
        have hsi := hbi.size
        clear hx hbi
        have hcu2 : wr.cell? ⟨gl, m, none⟩ = some (.slice (some ⟨ub, uo, none⟩) N uc) := (BI.out.cell (p := ⟨gl, m, none⟩) (World.block_lt_of_cell? _ _ hcu)).trans hcu
        by_cases hjl : j < N
        · have hcl := HUE.out j hjl
          have hcl2 : wr.cell? ⟨ub, uo + j, none⟩ = some (.int .i64 ((lineAt s N m + j * s : Nat) : Int)) := (BI.out.cell (p := ⟨ub, uo + j, none⟩) (World.block_lt_of_cell? _ _ hcl)).trans hcl
          have hin := TTm.out j hjl
          have hca := HC3.out _ hin
          have hca1 : wo.cell? ⟨b2, off2 + (lineAt s N m + j * s), none⟩ = some (.int .u64 (gd zs (lineAt s N m + j * s))) := (HB.out.cell (p := ⟨b2, off2 + (lineAt s N m + j * s), none⟩) (World.block_lt_of_cell? _ _ hca)).trans hca
          have hca2 : wr.cell? ⟨b2, off2 + (lineAt s N m + j * s), none⟩ = some (.int .u64 (gd zs (lineAt s N m + j * s))) := (BI.out.cell (p := ⟨b2, off2 + (lineAt s N m + j * s), none⟩) (World.block_lt_of_cell? _ _ hca1)).trans hca1
          have GSj := Lib.hid (GSm.out j)
          have hll : (gath zs s N m j).length ≤ 1000000 := by rw [GLm.out]; omega
          clear hcl hca hca1
          generalize gd zs (lineAt s N m + j * s) = y at *
          generalize lineAt s N m + j * s = p at *
          go_wp2_with (at_builtin; refine wl_app_u64 _ rfl (.tmp 39) (.tmp 50) rfl wo.heap.size _ (gath zs s N m j) y wo rfl rfl OX.out BI.out hsi hll ?_)
          intro v3 w3 hown3 hbel3
          rw [← GSj.out] at hown3
          have O3 := Lib.hid hown3
          have B3 := Lib.hid hbel3
          clear hown3 hbel3
          go_wp2
          go_roundw
          case rel => exact ⟨j + 1, by omega, by go_num, O3.out, B3.out⟩
          case measure => simp [intOf] <;> omega
        · obtain rfl : N = j := by omega
          have OG := Lib.hid (OO.out.below BI.out)
          have OLL := Lib.hid (OLN.out.below BI.out)
          have HU2 := Lib.hid (HU.out.below BI.out)
          have HB2 := Lib.hid (HB.out.trans (BI.out.mono hwsz))
          have hwr := HB2.out.size
          clear OO OLN HU HB
          obtain ⟨xl, hxle⟩ : ∃ xl, xl = trL back k ((gath zs s N m N).map toF) := ⟨_, rfl⟩
          have hxl := Lib.hid (show xl.length = N by rw [hxle, trL_len, ← HNN.out])
          have TPm := Lib.hid (fun j hj => TP.out m j hj)
          have TLm := Lib.hid (TPL.out m)
          rw [← hxle] at TPm
          cases back
          all_goals
            go_wp2_with fail
            first
              | refine (CFW.out m _ _ OX.out.rd).mono ?_
              | refine (CBW.out m _ _ OX.out.rd).mono ?_
            rintro e w4 ⟨v4, rfl, ho, hb⟩
            have hs4 := hb.size
            have OG4 := OG.out.below hb
            rw [← TP0.out m] at OG4
            have OG4 := Lib.hid OG4
            have OL4 := Lib.hid (OLL.out.below hb)
            have HB4 := Lib.hid (HB2.out.trans (hb.mono hwr))
            have hs5 : w1.heap.size ≤ w4.heap.size := by omega
            have hub : ub ≠ g := by have := (HU2.out.lt ub (by simp [Value.ownBlock])).1; omega
            have hgl : gl ≠ g := by
              obtain ⟨vs, q1, q2, q3⟩ := OLL.out
              have := (World.ownsRow.lt q1 gl (by simp [Value.ownBlock])).1
              omega
            have hcu4 : w4.cell? ⟨gl, m, none⟩ = some (.slice (some ⟨ub, uo, none⟩) N uc) := (hb.cell (p := ⟨gl, m, none⟩) (World.block_lt_of_cell? _ _ hcu2)).trans hcu2
            have HUE4 := Lib.hid (show ∀ i, i < N → w4.cell? ⟨ub, uo + i, none⟩ = some (.int .i64 ((lineAt s N m + i * s : Nat) : Int)) from fun i hi => by
              have h1 := HUE.out i hi
              have h2 := (BI.out.cell (p := ⟨ub, uo + i, none⟩) (World.block_lt_of_cell? _ _ h1)).trans h1
              exact (hb.cell (p := ⟨ub, uo + i, none⟩) (World.block_lt_of_cell? _ _ h2)).trans h2)
            rw [← hxle] at ho
            obtain ⟨gx, cx, rfl, hcx, hmx⟩ := Ow.opened ho (by rw [hxl.out]; exact N1)
            have hgx : gx ≠ g := by have := (Ow.base ho).1; omega
            rw [hxl.out] at ho hcx ⊢
            have OX4 := Lib.hid ho
            clear ho hb OG OLL HU2 HB2 OX BI hcu2 HUE hxle
            go_wp2
            go_loopw [18] (fun i wi => ScR2 w w4 _ s k n f m N g c zs i wi) (fun i _ => N - (intOf i).toNat)
            case atStart => exact ⟨0, by omega, rfl, OG4.out, Only.refl _ _⟩
            case round =>
              obtain ⟨j, hj1, rfl, hq1, hq2⟩ := hrel
              have P1 := Lib.hid hq1
              have P2 := Lib.hid hq2
              have hcw : wr.cell? ⟨gl, m, none⟩ = some (.slice (some ⟨ub, uo, none⟩) N uc) := (World.cell?_of_block (a := ⟨gl, m, none⟩) (hq2.block gl (World.block_lt_of_cell? _ _ hcu4) hgl)).trans hcu4
              clear hq1 hq2
              by_cases hjl : j < N
              · have hcl := HUE4.out j hjl
                have hcl2 : wr.cell? ⟨ub, uo + j, none⟩ = some (.int .i64 ((lineAt s N m + j * s : Nat) : Int)) := (World.cell?_of_block (a := ⟨ub, uo + j, none⟩) (P2.out.block ub (World.block_lt_of_cell? _ _ hcl) hub)).trans hcl
                have hcx1 : w4.cell? ⟨gx, j, none⟩ = some (.int .u64 (vl (cf xl j))) := Ow.cell (l := xl) (cap := cx) (by rw [hxl.out]; exact OX4.out) (by rw [hxl.out]; exact hjl)
                have hcx2 : wr.cell? ⟨gx, j, none⟩ = some (.int .u64 (vl (cf xl j))) := (World.cell?_of_block (a := ⟨gx, j, none⟩) (P2.out.block gx (World.block_lt_of_cell? _ _ hcx1) hgx)).trans hcx1
                have hin := TTm.out j hjl
                have TPj := Lib.hid (TPm.out j hjl)
                have LPj := Lib.hid (TLm.out j)
                clear hcl hcx1
                generalize cf xl j = y at *
                generalize lineAt s N m + j * s = p at *
                go_wp2
                go_still_tail 13, (by kernel_rfl)
                repeat still_step
                try refine wpStill_nil ?_
                change wpList _ _ _ _ _ wr.drew
                go_wp2_with (refine wl_storeI .u64 52 _ rfl (.tmp 78) (.tmp 77) (fun _ => rfl) rfl w.heap.size g p n c (tzPart _ s k n f m j zs) (vl y) rfl rfl P1.out.drew LPj.out hin ?_)
                intro w5 hown5 ho5 hs6
                rw [TPj.out] at hown5
                have Q1 := Lib.hid hown5
                have Q2 := Lib.hid (P2.out.drew.trans ho5)
                clear hown5 ho5 hs6 hcl2 hcx2 hcw
                go_wp2
                go_roundw
                case rel => exact ⟨j + 1, by omega, by go_num, Q1.out, Q2.out⟩
                case measure => simp [intOf] <;> omega
              · obtain rfl : N = j := by omega
                rw [TPF.out m hm0] at P1
                have Q3 := Lib.hid (OL4.out.only P2.out (fun gg h1 h2 e => by omega))
                have hw4 := HB4.out.size
                have Q4 := Lib.hid (HB4.out.trans (P2.out.below hw4 (fun gg e => by omega)))
                have hsz := P2.out.size
                go_wp2
                go_roundw
                case rel => exact ⟨m + 1, by omega, by omega, by go_num, P1.out, Q3.out, Q4.out, by omega⟩
                case measure => simp [intOf] <;> omega
    · obtain rfl : t = m := by omega
      go_wp2
      go_ret
      exact ⟨_, rfl, OO.out, HB.out⟩
end Go.Proofs.YtcakeenfkdhedaaDoor.Gm
