/- ref Plan: line by line. -/
import Derived.Test.YtdhmmllpldjkbaaGreatDoorPhse
namespace Go.Proofs.YtdhmmllpldjkbaaGreatDoor.Gm
open Go.RowKit
set_option linter.unusedVariables false
theorem cntT_zero {c : Nat} (hc : 1 ≤ c) : cntT 0 c = 0 := by
  unfold cntT
  exact Nat.div_eq_of_lt (by omega)
/-- how many tasks i lines take -/
theorem cnt_at {i c : Nat} (hi : 1 ≤ i) (hc : 1 ≤ c) : 1 ≤ cntT i c ∧ (cntT i c - 1) * c < i ∧ i ≤ cntT i c * c := by
  have h0 := cntT_pos hi hc
  refine ⟨h0, (lt_cntT hi hc).1 (by omega), ?_⟩
  apply Classical.byContradiction
  intro h
  have := (lt_cntT (j := cntT i c) hi hc).2 (by omega)
  omega
theorem cntT_same {i c : Nat} (hi : 1 ≤ i) (hc : 1 ≤ c) (h : i < cntT i c * c) : cntT (i + 1) c = cntT i c := by
  obtain ⟨h0, h1, h2⟩ := cnt_at hi hc
  have a := (lt_cntT (lines := i + 1) (j := cntT i c) (by omega) hc).1
  have b := (lt_cntT (lines := i + 1) (j := cntT i c - 1) (by omega) hc).2 (by omega)
  apply Classical.byContradiction
  intro hne
  have := a (by omega)
  omega
theorem cntT_more {i c : Nat} (hc : 1 ≤ c) (h : i = cntT i c * c) : cntT (i + 1) c = cntT i c + 1 := by
  have a := (lt_cntT (lines := i + 1) (j := cntT i c) (by omega) hc).2 (by omega)
  have b := (lt_cntT (lines := i + 1) (j := cntT i c + 1) (by omega) hc).1
  apply Classical.byContradiction
  intro hne
  have h3 := b (by omega)
  rw [Nat.add_mul, Nat.one_mul] at h3
  omega
theorem mk_front (x : Nat) {i i' c j : Nat} (h : j * c ≤ i) (h' : j * c ≤ i') : mkT x i c j = mkT x i' c j := by
  unfold mkT
  refine List.map_congr_left fun k hk => ?_
  have h1 : (k + 1) * c ≤ j * c := Nat.mul_le_mul_right c (by have := List.mem_range.1 hk; omega)
  rw [Nat.min_eq_left (by omega), Nat.min_eq_left (by omega)]
theorem mk_more (x : Nat) {i c J : Nat} (hc : 1 ≤ c) (h : i = J * c) : mkT x (i + 1) c (J + 1) = mkT x i c J ++ [((x : Int), (i : Int), ((i + 1 : Nat) : Int))] := by
  rw [mkT_succ, mk_front x (i := i + 1) (i' := i) (by omega) (by omega), ← h, Nat.min_eq_right (by rw [Nat.add_mul, Nat.one_mul]; omega)]
theorem mk_ext (x : Nat) {i c J' : Nat} (h1 : J' * c < i) (h2 : i < (J' + 1) * c) : mkT x (i + 1) c (J' + 1) = (mkT x i c (J' + 1)).set J' ((x : Int), ((J' * c : Nat) : Int), ((i + 1 : Nat) : Int)) := by
  rw [mkT_succ, mkT_succ, mk_front x (i := i + 1) (i' := i) (by omega) (by omega), List.set_append_right _ _ (by rw [mkT_len]; exact Nat.le_refl _), mkT_len, Nat.sub_self, List.set_cons_zero, Nat.min_eq_right (by omega)]
theorem tcs_set2 (l : List T3) (i : Nat) (y : Int) (h : i < l.length) : (tcs l).set (i * 3 + 2) (.int .i64 y) = tcs (l.set i ((tg l i).1, (tg l i).2.1, y)) := by
  induction l generalizing i with
  | nil => exact absurd h (by simp)
  | cons t l ih =>
    have e : tcs (t :: l) = tc t ++ tcs l := rfl
    have h3 : (tc t).length = 3 := rfl
    cases i with
    | zero =>
      rw [e, tg_eq]
      rfl
    | succ i =>
      have := ih i (by simpa using h)
      rw [e, List.set_append_right _ _ (by rw [h3]; omega), h3, show (i + 1) * 3 + 2 - 3 = i * 3 + 2 by omega, this]
      have et : tg (t :: l) (i + 1) = tg l i := by rw [tg_eq, tg_eq]; rfl
      rw [et, List.set_cons_succ]
      rfl
/-- a store into a task's last line -/
theorem wl_storeT2 {ops : Array Oper} {rest : List Oper} {o : Oper} {a : Act} {Q : Exit → Act → World → Prop} (w : World) (hgd : o.guard = none) (p x : Operand)
    (ho : o.op = .store 3 p x) (B g i n cap : Nat) (l : List T3) (y : Int) (hp : a.eval p = .pointer (some ⟨g, i * 3 + 2, none⟩)) (hx : a.eval x = .int .i64 y)
    (hown : Ot B w (.slice (some ⟨g, 0, none⟩) n cap) l) (hi : i < l.length)
    (h : ∀ w', Ot B w' (.slice (some ⟨g, 0, none⟩) n cap) (l.set i ((tg l i).1, (tg l i).2.1, y)) → Only (fun j => j = g) w w' → w'.heap.size = w.heap.size → wpList Tryz.prog ops Q rest (a.put o.dst undef) w') :
    wpList Tryz.prog ops Q (o :: rest) a w := by
  have hn : n = l.length := by
    obtain ⟨a, c, e, _⟩ := Ot.shape hown
    injection e
  subst hn
  have hc := (hown.cell hi).2.2
  have hf : w.frozen? ⟨g, i * 3 + 2, none⟩ = false := World.ownsRow.frozenAt hown _
  refine wpList_plain hgd fun K hK' => ?_
  have hset : Ot B (w.setCell ⟨g, i * 3 + 2, none⟩ (.int .i64 y)) (.slice (some ⟨g, 0, none⟩) l.length cap) (l.set i ((tg l i).1, (tg l i).2.1, y)) := by
    have := (World.ownsRow.stored hown (i * 3 + 2) (.int .i64 y)).1
    unfold Ot
    rw [List.length_set, ← tcs_set2 l i y hi]
    exact this
  have hk := hK' _ _ (h (w.setCell ⟨g, i * 3 + 2, none⟩ (.int .i64 y)) hset ((Only.refl (fun j => j = g) w).setCell (p := ⟨g, i * 3 + 2, none⟩) (.inl rfl) _) (by simp [World.setCell]))
  unfold Oper.wp
  simp [execOp, ho, hp, hx, Result.andThen]
  go_simp
  exact hk
theorem rplan_bad (zs : List Int) (z : Int) (v : Value) (w : World) (n : Int) (h : Rd .i64 w v zs) (hw : W64 zs) (hn : n = 1 ∧ Bad zs ∨ n = 2 ∧ Big zs) :
    Calls Tryz.prog 82 #[v, .int .i64 z] w (RetPE w [] n) := by
  have HR := Lib.hid h
  have HN := Lib.hid hn
  have hn0 : (n == 0) = false := by rcases hn with ⟨rfl, _⟩ | ⟨rfl, _⟩ <;> rfl
  clear h hn
  go_enter Tryz.func82, Tryz.ntmps82
  go_wp2_with fail
  refine (rshape_any _ _ _ HR.out hw).mono ?_
  rintro e w' ⟨he, rfl⟩
  have he : e = .returned (.tuple #[.int .i64 0, .int .i64 n]) := by
    rcases HN.out with ⟨rfl, hb⟩ | ⟨rfl, hb⟩
    · exact he.bad hb
    · exact he.big hb
  subst he
  go_wp2
  go_ret2
  exact ⟨_, rfl, OP.nil _ _, Below.refl _ _⟩
theorem rplan_cut (ds : List Nat) (cut : Int) (v : Value) (w : World) (h : Rd .i64 w v (zi ds)) (hw : W64 (zi ds)) (hs : Shp ds) (hz : cut < 1) :
    Calls Tryz.prog 82 #[v, .int .i64 cut] w (RetPE w [] 1) := by
  have HR := Lib.hid h
  have HS := Lib.hid hs
  clear h hs
  go_enter Tryz.func82, Tryz.ntmps82
  go_wp2_with fail
  refine (rshape_any _ _ _ HR.out hw).mono ?_
  rintro e w' ⟨he, rfl⟩
  obtain rfl := he.ok HS.out
  go_wp2
  go_ret2
  exact ⟨_, rfl, OP.nil _ _, Below.refl _ _⟩
def RlA (w : World) (ds : List Nat) (cut : Int) (N : Nat) (out ax : Value) (wr : World) : Prop :=
  ∃ x : Nat, x ≤ N ∧ ax = .int .i64 (x : Int) ∧ OP w.heap.size wr out (phs ds cut x) ∧ (∀ y, y < x → cntT (lnX ds y) (cutX ds cut y) ≤ 64) ∧ Below w.heap.size w wr
def RlB (w wo : World) (x lines c : Nat) (p i : Value) (wr : World) : Prop :=
  ∃ j : Nat, j ≤ lines ∧ i = .int .i64 (j : Int) ∧ Ot wo.heap.size wr p (mkT x j c (cntT j c)) ∧ Below wo.heap.size wo wr
def RlP (ds : List Nat) (cut : Int) (w : World) (e : Ending) (w' : World) : Prop :=
  ((∀ x, x < ds.length → cntT (lnX ds x) (cutX ds cut x) ≤ 64) ∧ RetPE w (phs ds cut ds.length) 0 e w') ∨ ((∃ x, x < ds.length ∧ 64 < cntT (lnX ds x) (cutX ds cut x)) ∧ RetPE w [] 2 e w')
set_option maxHeartbeats 4000000 in
set_option maxRecDepth 100000 in
theorem rplan_any (ds : List Nat) (cut : Int) (v : Value) (w : World) (h : Rd .i64 w v (zi ds)) (hw : W64 (zi ds)) (hs : Shp ds) (hc : 1 ≤ cut) (hc2 : cut ≤ 9223372036854775807) :
    Calls Tryz.prog 82 #[v, .int .i64 cut] w (RlP ds cut w) := by
  have HR := Lib.hid h
  have HS := Lib.hid hs
  have hN3 := hs.len3
  have hN1 := hs.len0
  have hn2 := hs.le
  obtain ⟨a, cap, b, off, rfl, hcap, hm, hx, hcx⟩ := h.opened
  have LZ := Lib.hid (zi_len ds)
  rw [LZ.out] at hcap hx hcx HR ⊢
  obtain rfl := hx.resolve_left (by omega)
  have SC := Lib.hid (show ∀ x, x < ds.length → w.cell? ⟨b, off + x, none⟩ = some (.int .i64 (nd ds x : Int)) from fun x hx => by rw [hcx x hx, gd_zi])
  have DD := Lib.hid (show ∀ x, x < ds.length → 1 ≤ nd ds x ∧ nd ds x ≤ 1024 from fun x hx => ⟨hs.nd1 hx, hs.ndle hx⟩)
  have LNP := Lib.hid (fun x (hx : x < ds.length) => lnX_pos hs hx)
  have LNL := Lib.hid (fun x => lnX_le hs x)
  have LNE := Lib.hid (fun x => show pr ds / nd ds x = lnX ds x from rfl)
  have CUP := Lib.hid (fun x (hx : x < ds.length) => cutX_pos hs hc hx)
  have CUE := Lib.hid (fun x => show (min cut (lnX ds x : Int)).toNat = cutX ds cut x from rfl)
  have PZ := Lib.hid (phs_zero ds cut)
  have PS := Lib.hid (fun m => (phs_succ ds cut m).symm)
  have PL := Lib.hid (fun m => phs_len ds cut m)
  have PT := Lib.hid (fun x => show mkT x (lnX ds x) (cutX ds cut x) (cntT (lnX ds x) (cutX ds cut x)) = phT ds cut x by unfold phT; rfl)
  obtain ⟨N, hN⟩ : ∃ N, N = ds.length := ⟨_, rfl⟩
  have HNL := Lib.hid hN
  rw [← hN] at hN1 hN3 hcap HR SC DD LNP CUP ⊢
  obtain ⟨n, hn⟩ : ∃ n, n = pr ds := ⟨_, rfl⟩
  have HNN := Lib.hid hn
  rw [← hn] at hn2 LNE
  clear h hs hcx hx hN hn LZ
  go_enter Tryz.func82, Tryz.ntmps82
  go_wp2_with fail
  refine (rshape_any _ _ _ HR.out hw).mono ?_
  rintro e w' ⟨he, rfl⟩
  obtain rfl := he.ok HS.out
  rw [← HNN.out]
  go_wp2
  go_loopw [8, 9, 10, 11, 12, 13] (fun out x _ _ _ _ wr => RlA w ds cut N out x wr) (fun _ x _ _ _ _ _ => N - (intOf x).toNat)
  case atStart => exact ⟨0, by omega, rfl, by rw [PZ.out]; exact OP.nil _ _, fun x hx => absurd hx (by omega), Below.refl _ _⟩
  case round =>
    obtain ⟨x, hx1, rfl, hop, hall, hbel⟩ := hrel
    have OO := Lib.hid hop
    have HA := Lib.hid hall
    have HB := Lib.hid hbel
    have hwsz := hbel.size
    clear hop hall hbel
    by_cases hxl : x < N
    · obtain ⟨wo, hwo⟩ : ∃ wo : World, wo = wr := ⟨_, rfl⟩
      subst hwo
      have c3 : wo.cell? ⟨b, off + x, none⟩ = some (.int .i64 (nd ds x : Int)) := cell_below HB.out (SC.out x hxl)
      obtain ⟨d1, d2⟩ := DD.out x hxl
      have l1 := LNP.out x hxl
      have l2 := LNL.out x
      have u1 := CUP.out x hxl
      have CE := Lib.hid (CUE.out x)
      have le := LNE.out x
      have PTx := Lib.hid (PT.out x)
      have HA2 := Lib.hid (show cntT (lnX ds x) (cutX ds cut x) ≤ 64 → ∀ y, y < x + 1 → cntT (lnX ds y) (cutX ds cut y) ≤ 64 from fun h y hy => by
        by_cases e : y = x
        · rw [e]; exact h
        · exact HA.out y (by omega))
      have HX := Lib.hid (show 64 < cntT (lnX ds x) (cutX ds cut x) → ∃ y, y < ds.length ∧ 64 < cntT (lnX ds y) (cutX ds cut y) from fun h => ⟨x, by rw [← HNL.out]; exact hxl, h⟩)
      have PHL := Lib.hid (phT_len ds cut x)
      generalize nd ds x = d at *
      generalize lnX ds x = lines at *
      generalize cutX ds cut x = c at *
      have hd0 : ¬ d = 0 := by omega
      have e1 := nat_quo n d
      rw [le] at e1
      have e2 : IntKind.i64.wrap (lines : Int) = (lines : Int) := wrap_nat (by omega)
      have CZ := Lib.hid (cntT_zero u1)
      clear le
      go_wp2
      clear c3 e1
      go_loopw [10, 12, 13] (fun p i _ wr => RlB w wo x lines c p i wr) (fun _ i _ _ => lines - (intOf i).toNat)
      case atStart => exact ⟨0, by omega, rfl, by rw [CZ.out, mkT_zero]; exact Ot.nil _ _, Below.refl _ _⟩
      case round =>
        obtain ⟨j, hj, rfl, hot, hb⟩ := hrel
        have OT := Lib.hid hot
        have BW := Lib.hid hb
        have hsw := hb.size
        clear hot hb
        by_cases hjl : j < lines
        · obtain ⟨J, hJ⟩ : ∃ J, J = cntT j c := ⟨_, rfl⟩
          have ML := Lib.hid (mkT_len x j c J)
          have hJl : J ≤ j := by
            rcases Nat.eq_zero_or_pos j with h0 | h0
            · rw [hJ, h0, CZ.out]; exact Nat.le_refl _
            · rw [hJ]; exact cntT_le h0 u1
          have hsh := OT.out.shape
          rw [← hJ] at OT hsh
          obtain ⟨pa, pc, rfl, p1, p2, p3⟩ := hsh
          rw [ML.out] at p1 p3 OT ⊢
          have ej2 : IntKind.i64.wrap ((j : Int) + 1) = ((j + 1 : Nat) : Int) := IntWalk.i64_in _ (by omega)
          by_cases hext : 1 ≤ j ∧ j < J * c
          · obtain ⟨h0, h1, h2⟩ := cnt_at hext.1 u1
            rw [← hJ] at h0 h1 h2
            have HCS := Lib.hid (cntT_same hext.1 u1 (by rw [← hJ]; exact hext.2))
            obtain ⟨I, hI⟩ : ∃ I, I + 1 = J := ⟨J - 1, by omega⟩
            have h1' : I * c < j := by rw [show I = J - 1 by omega]; exact h1
            have HME := Lib.hid (mk_ext x h1' (by rw [hI]; exact hext.2))
            obtain ⟨g, rfl⟩ := p3 (by omega)
            obtain ⟨k0, k1, k2⟩ := OT.out.cell (i := I) (by rw [ML.out]; omega)
            have HTG := tg_mkT x j c (j := J) (i := I) (by omega)
            rw [Nat.min_eq_right (by rw [hI]; exact h2)] at HTG
            rw [HTG] at k0 k1 k2
            simp only at k0 k1 k2
            have HT := Lib.hid HTG
            have hq : I * c < j := h1'
            have hjq : j < I * c + c := by have := hext.2; rw [← hI, Nat.add_mul, Nat.one_mul] at this; exact this
            have HIJ := Lib.hid hI
            rw [← hJ] at HCS
            have hmle := CE.out
            generalize I * c = q at *
            have hIJ : I < J := by omega
            have hJp : 0 < J := by omega
            have ei : IntKind.i64.wrap ((J : Int) - 1) = (I : Int) := by rw [← hI]; exact (IntWalk.i64_in _ (by omega)).trans (by omega)
            have ew : IntKind.i64.wrap ((j : Int) - (q : Int)) = (j : Int) - (q : Int) := IntWalk.i64_in _ (by omega)
            have hd : decide ((j : Int) - (q : Int) < cut) = true := decide_eq_true (by omega)
            clear hJ hI HTG hext h1 h2 hmle
            go_wp2
            go_quiet (fail)
            have OTd := Lib.hid (OT.out.below (below_drewN (Below.refl wr.heap.size wr) nq))
            have BWd := Lib.hid (below_drewN BW.out nq)
            have hsd : wo.heap.size ≤ (wr.drewN nq).heap.size := hsw
            have hgB := (Ot.lt OTd.out g rfl).1
            clear k0 k1 OT BW
            have k2 : (wr.drewN nq).cell? ⟨g, I * 3 + 2, none⟩ = some (.int .i64 j) := k2
            generalize wr.drewN nq = w2 at *
            have ILT := Lib.hid (show I < (mkT x j c J).length by rw [ML.out]; exact hIJ)
            go_wp2_with (refine wl_storeT2 _ rfl (.tmp 70) (.tmp 68) rfl wo.heap.size g I J pc (mkT x j c J) ((j + 1 : Nat) : Int) rfl rfl OTd.out ILT.out ?_)
            intro w3 hot3 ho3 hs3
            rw [HT.out] at hot3
            simp only at hot3
            have O3 := Lib.hid (show Ot wo.heap.size w3 (.slice (some ⟨g, 0, none⟩) J pc) (mkT x (j + 1) c (cntT (j + 1) c)) by
              have h9 := HME.out
              rw [HIJ.out] at h9
              rw [HCS.out, h9]
              exact hot3)
            have B3 := Lib.hid (BWd.out.trans (ho3.below hsd (fun k e => by rw [e]; exact hgB)))
            clear hot3 ho3 hs3 k2 OTd BWd
            go_wp2
            go_roundw
            case rel => exact ⟨j + 1, by omega, by go_num, O3.out, B3.out⟩
            case measure => simp [intOf] <;> omega
          · have hjJ : j = J * c := by
              rcases Nat.eq_zero_or_pos j with h0 | h0
              · rw [hJ, h0, CZ.out, Nat.zero_mul]
              · obtain ⟨_, h1, h2⟩ := cnt_at h0 u1
                rw [← hJ] at h2
                omega
            have HCS := Lib.hid (cntT_more u1 (by rw [← hJ]; exact hjJ))
            have HME := Lib.hid (mk_more x u1 hjJ)
            rw [← hJ] at HCS
            have hm1 : (mkT x j c J).length ≤ 1000000 := by rw [ML.out]; omega
            have HM1 := Lib.hid hm1
            have HSZ := Lib.hid hsw
            rcases Nat.eq_zero_or_pos J with hJ0 | hJp
            · have hg0 : decide ((0 : Int) < (J : Int)) = false := decide_eq_false (by omega)
              have hg1 : decide (0 < J) = false := decide_eq_false (by omega)
              clear hJ hjJ hext hm1 hJ0
              go_wp2
              go_quiet (fail)
              have OTd := Lib.hid (OT.out.below (below_drewN (Below.refl wr.heap.size wr) nq))
              have BWd := Lib.hid (below_drewN BW.out nq)
              have hsd : wo.heap.size ≤ (wr.drewN nq).heap.size := hsw
              clear OT BW
              generalize wr.drewN nq = w2 at *
              go_wp2_with (at_builtin; refine wl_appT 106 Tryz.underlying106 _ rfl (.tmp 71) (.tmp 77) rfl wo.heap.size _ (mkT x j c J) (x : Int) (j : Int) ((j + 1 : Nat) : Int) rfl rfl OTd.out hsd HM1.out ?_)
              intro v4 w4 ht ho _
              have T4 := Lib.hid (show Ot wo.heap.size w4 v4 (mkT x (j + 1) c (cntT (j + 1) c)) by rw [HCS.out, HME.out]; exact ht)
              have B4 := Lib.hid (BWd.out.trans (ho.below hsd (fun k hk => (Ot.lt OTd.out k hk).1)))
              clear ht ho OTd BWd
              go_wp2
              go_roundw
              case rel => exact ⟨j + 1, by omega, by go_num, T4.out, B4.out⟩
              case measure => simp [intOf] <;> omega
            · obtain ⟨I, hI⟩ : ∃ I, I + 1 = J := ⟨J - 1, by omega⟩
              obtain ⟨g, rfl⟩ := p3 (by omega)
              obtain ⟨k0, k1, k2⟩ := OT.out.cell (i := I) (by rw [ML.out]; omega)
              have HTG := tg_mkT x j c (j := J) (i := I) (by omega)
              rw [Nat.min_eq_right (by rw [hI]; omega)] at HTG
              rw [HTG] at k0 k1 k2
              simp only at k0 k1 k2
              have hjq : j = I * c + c := by rw [hjJ, ← hI, Nat.add_mul, Nat.one_mul]
              have HIJ := Lib.hid hI
              have hmle := CE.out
              generalize I * c = q at *
              have hIJ : I < J := by omega
              have ei : IntKind.i64.wrap ((J : Int) - 1) = (I : Int) := by rw [← hI]; exact (IntWalk.i64_in _ (by omega)).trans (by omega)
              have ew : IntKind.i64.wrap ((j : Int) - (q : Int)) = (j : Int) - (q : Int) := IntWalk.i64_in _ (by omega)
              have hd : decide ((j : Int) - (q : Int) < cut) = false := decide_eq_false (by omega)
              clear hJ hI HTG hext hmle hjJ hjq hm1
              go_wp2
              go_quiet (fail)
              have OTd := Lib.hid (OT.out.below (below_drewN (Below.refl wr.heap.size wr) nq))
              have BWd := Lib.hid (below_drewN BW.out nq)
              have hsd : wo.heap.size ≤ (wr.drewN nq).heap.size := hsw
              clear k0 k1 k2 OT BW
              generalize wr.drewN nq = w2 at *
              go_wp2_with (at_builtin; refine wl_appT 106 Tryz.underlying106 _ rfl (.tmp 71) (.tmp 77) rfl wo.heap.size _ (mkT x j c J) (x : Int) (j : Int) ((j + 1 : Nat) : Int) rfl rfl OTd.out hsd HM1.out ?_)
              intro v4 w4 ht ho _
              have T4 := Lib.hid (show Ot wo.heap.size w4 v4 (mkT x (j + 1) c (cntT (j + 1) c)) by rw [HCS.out, HME.out]; exact ht)
              have B4 := Lib.hid (BWd.out.trans (ho.below hsd (fun k hk => (Ot.lt OTd.out k hk).1)))
              clear ht ho OTd BWd
              go_wp2
              go_roundw
              case rel => exact ⟨j + 1, by omega, by go_num, T4.out, B4.out⟩
              case measure => simp [intOf] <;> omega
        · obtain rfl : lines = j := by omega
          rw [PTx.out] at OT
          have OO5 := Lib.hid (OO.out.below BW.out)
          have B5 := Lib.hid (HB.out.trans (BW.out.mono hwsz))
          have hs5 := B5.out.size
          obtain ⟨ga, gc, hsh, hg1, hg2, _⟩ := OT.out.shape
          rw [PHL.out] at hsh hg1
          subst hsh
          clear PTx BW CZ
          generalize cntT lines c = J at *
          by_cases hJ : J ≤ 64
          · have OP5 := Lib.hid (OT.out.mono hwsz)
            have HA3 := Lib.hid (HA2.out hJ)
            have PSx := Lib.hid (PS.out x)
            have PLx := Lib.hid (PL.out x)
            go_wp2_with (at_builtin; refine wl_appP _ rfl (.tmp 82) (.tmp 84) rfl w.heap.size _ (phs ds cut x) _ (phT ds cut x) w rfl rfl OO5.out OP5.out B5.out hs5 (by rw [PLx.out]; omega) ?_)
            intro v6 w6 hop hb6
            rw [PSx.out] at hop
            have O6 := Lib.hid hop
            have B6 := Lib.hid hb6
            clear hop hb6
            go_wp2
            go_roundw
            case rel => exact ⟨x + 1, by omega, by go_num, O6.out, HA3.out, B6.out⟩
            case measure => simp [intOf] <;> omega
          · have HX2 := Lib.hid (HX.out (by omega))
            have hJ2 : (64 : Int) < (J : Int) := by omega
            go_wp2
            go_ret2
            exact .inr ⟨HX2.out, _, rfl, OP.nil _ _, B5.out⟩
    · obtain rfl : N = x := by omega
      have HF := Lib.hid (show ∀ y, y < ds.length → cntT (lnX ds y) (cutX ds cut y) ≤ 64 from fun y hy => HA.out y (by rw [HNL.out]; exact hy))
      rw [HNL.out] at OO
      go_wp2
      go_ret2
      exact .inl ⟨HF.out, _, rfl, OO.out, HB.out⟩
end Go.Proofs.YtdhmmllpldjkbaaGreatDoor.Gm
