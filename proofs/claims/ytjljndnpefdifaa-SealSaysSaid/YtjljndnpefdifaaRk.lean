/- The reference's Corners. -/
import Derived.Test.YtjljndnpefdifaaCk
import Derived.Test.YtjljndnpefdifaaWh2
namespace Go.Proofs.Ytjljndnpefdifaa.Gm
open Go.RowKit
set_option linter.unusedVariables false
def RkA (w : World) (ks : List Nat) (l : List F) (n : Nat) (out c : Value) (wr : World) : Prop :=
  ∃ m : Nat, m ≤ n ∧ c = .int .i64 m ∧ Ow w.heap.size wr out (crr ks l m) ∧ Below w.heap.size w wr
def RkB (wo : World) (ds : List Nat) (N c : Nat) (ok i : Value) (wr : World) : Prop :=
  ∃ m : Nat, m ≤ N ∧ i = .int .i64 m ∧ ok = .bool (kp ds c m) ∧ Below wo.heap.size wo wr
theorem int_zero (d : Nat) : ((d : Int) == 0) = (d == 0) := by
  rw [Bool.eq_iff_iff]
  simp only [beq_iff_eq]
  omega
theorem int_half (p d : Nat) : ((2 : Int) * (p : Int) == (d : Int)) = (2 * p == d) := by
  rw [Bool.eq_iff_iff]
  simp only [beq_iff_eq]
  omega
set_option maxHeartbeats 4000000 in
set_option maxRecDepth 100000 in
theorem rcorners_ok (ks : List Nat) (xs : List Int) (v v2 : Value) (w : World) (h : Rd .i64 w v (zi (szs ks))) (h2 : Rd .u64 w v2 xs) (hw : W64 (zi (szs ks))) (hs : Shp (szs ks)) (hx : B64 xs) (hl : xs.length = pk ks) :
    Calls Try.prog 23 #[v, v2] w (RetL w (crr ks (WL false ks (xs.map toF)) (pk ks))) := by
  have hn1 : 1 ≤ pk ks := hs.pr1
  have hn2 : pk ks ≤ 1024 := hs.le
  have hN1 : 1 ≤ ks.length := by have := hs.len0; rwa [szs_len] at this
  have hN3 : ks.length ≤ 3 := by have := hs.len3; rwa [szs_len] at this
  have CW := Lib.hid (rwhole_ok ks xs false v v2 w h h2 hw hs hx hl)
  have CP := Lib.hid (fun k (hk : k < pk ks) v w h => rplaces_any (szs ks) k (k : Int) v w h hs (by omega) rfl)
  obtain ⟨sa, scap, sb, so, rfl, hscap, hsm, hsx, hsc⟩ := h.opened
  obtain ⟨xa, xcap, rfl, hxcap, hxm⟩ := h2.shape
  have LZ := Lib.hid (show (zi (szs ks)).length = ks.length by rw [zi_len, szs_len])
  rw [LZ.out] at hscap hsx hsc CW ⊢
  rw [hl] at hxcap CW ⊢
  obtain rfl := hsx.resolve_left (by omega)
  have SC := Lib.hid (show ∀ x, x < ks.length → w.cell? ⟨sb, so + x, none⟩ = some (.int .i64 (nd (szs ks) x : Int)) from fun x hx => by rw [hsc x hx, gd_zi])
  obtain ⟨l, hle⟩ : ∃ l, l = WL false ks (xs.map toF) := ⟨_, rfl⟩
  have WLN := Lib.hid (show l.length = pk ks by rw [hle, WL_len])
  rw [← hle] at CW ⊢
  have C0 := Lib.hid (crr_zero ks l)
  have CY := Lib.hid (fun c (h : okp ks c = true) => (crr_yes l h).symm)
  have CN := Lib.hid (fun c (h : okp ks c = false) => crr_no l h)
  have CLN := Lib.hid (fun c => crr_len ks l c)
  have WF := Lib.hid (fun c (hc : c < pk ks) => kp_full ks c hc)
  have PLL := Lib.hid (fun k => show (zi (plcs (szs ks) k)).length = ks.length by rw [zi_len, plcs_len, szs_len])
  have PLM := Lib.hid (fun k x => show gd (zi (plcs (szs ks) k)) x = (nd (plcs (szs ks) k) x : Int) from gd_zi _ x)
  have PLT := Lib.hid (show ∀ k x, x < ks.length → nd (plcs (szs ks) k) x < nd (szs ks) x ∧ nd (szs ks) x ≤ 1024 from fun k x hx => ⟨plcs_lt _ k x (by rw [szs_len]; exact hx) (hs.nd1 (by rw [szs_len]; exact hx)), hs.ndle (by rw [szs_len]; exact hx)⟩)
  have X := Lib.hid (show Rd .i64 w (.slice (some ⟨sb, so, none⟩) ks.length scap) (zi (szs ks)) by rw [← LZ.out]; exact h)
  obtain ⟨ds, hds⟩ : ∃ ds, ds = szs ks := ⟨_, rfl⟩
  rw [← hds] at CP SC X WF PLL PLM PLT
  obtain ⟨n, hn⟩ : ∃ n, n = pk ks := ⟨_, rfl⟩
  rw [← hn] at hn1 hn2 hxcap CW CP WLN WF ⊢
  obtain ⟨N, hN⟩ : ∃ N, N = ks.length := ⟨_, rfl⟩
  rw [← hN] at hN1 hN3 hscap SC X CW WF PLL PLT ⊢
  clear h h2 hs hsc hx hl hle hds hn hN LZ hw
  go_enter Try.func23, Try.ntmps23
  go_wp2_with fail
  refine CW.out.mono ?_
  rintro e w1 ⟨bv, rfl, hbo, hbel⟩
  obtain ⟨gb, cb, rfl, hcb, hcbm⟩ := hbo.opened (by rw [WLN.out]; exact hn1)
  rw [WLN.out] at hbo hcb ⊢
  have BC := Lib.hid (show ∀ i, i < n → w1.cell? ⟨gb, i, none⟩ = some (.int .u64 (vl (cf l i))) from fun i hi => by
    have hbo' := hbo
    rw [← WLN.out] at hbo'
    exact hbo'.cell (by rw [WLN.out]; exact hi))
  have B1 := Lib.hid hbel
  have hs1 := hbel.size
  have hgb := hbo.base
  clear hbo hbel
  go_wp2
  go_loopw [6, 7, 8, 9, 10] (fun out c _ _ _ wr => ∃ m : Nat, m ≤ n ∧ c = .int .i64 m ∧ Ow w1.heap.size wr out (crr ks l m) ∧ Below w1.heap.size w1 wr) (fun _ c _ _ _ _ => n - (intOf c).toNat)
  case atStart => exact ⟨0, by omega, rfl, by rw [C0.out]; exact Ow.nil _ _, Below.refl _ _⟩
  case round =>
    obtain ⟨a, ha, rfl, ho, hbel⟩ := hrel
    have OO := Lib.hid ho
    have HB := Lib.hid hbel
    have hwsz := hbel.size
    clear ho hbel
    by_cases hal : a < n
    · have XW := Lib.hid ((X.out.below B1.out).below HB.out)
      go_wp2_with fail
      refine (CP.out a hal _ _ XW.out).mono ?_
      rintro e w4 ⟨pv, rfl, hp, hb⟩
      obtain ⟨gp, cp, rfl, hcp, hcpm⟩ := hp.opened (by rw [PLL.out]; exact hN1)
      rw [PLL.out] at hp hcp ⊢
      have PC := Lib.hid (show ∀ x, x < N → w4.cell? ⟨gp, x, none⟩ = some (.int .i64 (nd (plcs ds a) x : Int)) from fun x hx => by rw [hp.cell (by rw [PLL.out]; exact hx), PLM.out])
      have O4 := Lib.hid (OO.out.below hb)
      have B4 := Lib.hid (HB.out.trans (hb.mono hwsz))
      have hs4 := hb.size
      clear hp hb OO HB XW
      go_wp2
      go_loopw [9, 10] (fun ok i wi => RkB w4 ds N a ok i wi) (fun _ i _ => N - (intOf i).toNat)
      case atStart => exact ⟨0, by omega, rfl, by rw [kp_zero], Below.refl _ _⟩
      case round =>
        obtain ⟨x, hx1, rfl, rfl, hb⟩ := hrel
        have B5 := Lib.hid hb
        have hs5 := hb.size
        clear hb
        by_cases hxl : x < N
        · have c1 := cell_below B5.out (PC.out x hxl)
          have c2 : wr.cell? ⟨sb, so + x, none⟩ = some (.int .i64 (nd ds x : Int)) := cell_below B5.out (cell_below B4.out (cell_below B1.out (SC.out x hxl)))
          obtain ⟨t1, t2⟩ := PLT.out a x hxl
          have HS := Lib.hid (kp_succ ds a x)
          generalize kp ds a x = b1 at *
          generalize nd (plcs ds a) x = p at *
          generalize nd ds x = d at *
          have e3 : IntKind.i64.wrap (2 * (p : Int)) = 2 * (p : Int) := IntWalk.i64_in _ (by omega)
          rcases b1 with _ | _
          · go_wp2
            go_quiet (fail)
            go_wp2
            go_roundw
            case rel => exact ⟨x + 1, by omega, by go_num, by rw [HS.out]; rfl, below_drewN B5.out _⟩
            case measure => simp [intOf] <;> omega
          · rcases Nat.eq_zero_or_pos p with hp0 | hp0
            · have HSx := Lib.hid (show kp ds a (x + 1) = true by rw [HS.out, hp0]; rfl)
              subst hp0
              have c1 : wr.cell? ⟨gp, x, none⟩ = some (.int .i64 0) := c1
              go_wp2
              go_quiet (fail)
              go_wp2
              go_roundw
              case rel => exact ⟨x + 1, by omega, by go_num, by rw [HSx.out], below_drewN B5.out _⟩
              case measure => simp [intOf] <;> omega
            · have g1 : decide ((p : Int) = 0) = false := decide_eq_false (by omega)
              have g2 : decide (p = 0) = false := decide_eq_false (by omega)
              have g3 : ((p : Int) == 0) = false := by rw [int_zero]; simpa using Nat.ne_of_gt hp0
              have g4 : (p == 0) = false := by simpa using Nat.ne_of_gt hp0
              by_cases h2 : 2 * p = d
              · have HSx := Lib.hid (show kp ds a (x + 1) = true by rw [HS.out, h2]; simp)
                have h3 : 2 * (p : Int) = (d : Int) := by omega
                go_wp2
                go_quiet (fail)
                go_wp2
                go_roundw
                case rel => exact ⟨x + 1, by omega, by go_num, by rw [HSx.out], below_drewN B5.out _⟩
                case measure => simp [intOf] <;> omega
              · have h4 : (2 * p == d) = false := by simpa using h2
                have HSx := Lib.hid (show kp ds a (x + 1) = false by rw [HS.out, h4, g4]; rfl)
                have g5 : decide (2 * (p : Int) = (d : Int)) = false := decide_eq_false (by omega)
                have g6 : decide (2 * p = d) = false := decide_eq_false (by omega)
                have g7 : (2 * (p : Int) == (d : Int)) = false := by rw [int_half]; exact h4
                go_wp2
                go_quiet (fail)
                go_wp2
                go_roundw
                case rel => exact ⟨x + 1, by omega, by go_num, by rw [HSx.out], below_drewN B5.out _⟩
                case measure => simp [intOf] <;> omega
        · obtain rfl : N = x := by omega
          have HWF := WF.out a hal
          have O6 := Lib.hid (O4.out.below B5.out)
          have B6 := Lib.hid (B4.out.trans (B5.out.mono B4.out.size))
          have hs6 := B6.out.size
          cases hok : okp ks a with
          | false =>
            have CNc := CN.out a hok
            rw [hok] at HWF
            rw [HWF]
            go_wp2
            go_roundw
            case rel => exact ⟨a + 1, by omega, by go_num, by rw [CNc]; exact O6.out, B6.out⟩
            case measure => simp [intOf] <;> omega
          | true =>
            have CYc := Lib.hid (CY.out a hok)
            rw [hok] at HWF
            rw [HWF]
            have cb : wr.cell? ⟨gb, a, none⟩ = some (.int .u64 (vl (cf l a))) := cell_below B5.out (cell_below B4.out (BC.out a hal))
            have hll : (crr ks l a).length ≤ 1000000 := by have := CLN.out a; omega
            go_wp2_with (at_builtin; refine wl_app _ rfl (.tmp 50) (.tmp 55) rfl w1.heap.size _ (crr ks l a) (cf l a) w1 rfl rfl O6.out B6.out hs6 hll ?_)
            intro v9 w9 ho9 hb9
            rw [CYc.out] at ho9
            have O9 := Lib.hid ho9
            have B9 := Lib.hid hb9
            clear ho9 hb9
            go_wp2
            go_roundw
            case rel => exact ⟨a + 1, by omega, by go_num, O9.out, B9.out⟩
            case measure => simp [intOf] <;> omega
    · obtain rfl : n = a := by omega
      go_wp2
      go_ret
      exact ⟨_, rfl, OO.out.mono hs1, B1.out.trans (HB.out.mono hs1)⟩
end Go.Proofs.Ytjljndnpefdifaa.Gm
