/- desk.planned. -/
import Derived.Test.YtdhmmllpldjkbaaGreatDoorDkc
import Derived.Test.YtdhmmllpldjkbaaGreatDoorMke
namespace Go.Proofs.YtdhmmllpldjkbaaGreatDoor.Gm
open Go.RowKit
set_option linter.unusedVariables false
/-- the shape that numbers tell -/
@[irreducible] def smls (ns : List Nat) : List Nat := (ns.drop 1).map sml
theorem smls_len (ns : List Nat) : (smls ns).length = ns.length - 1 := by unfold smls; simp
theorem smls_at (ns : List Nat) {i : Nat} (h : i + 1 < ns.length) : (smls ns)[i]? = some (sml (at0 ns (i + 1))) := by
  unfold smls
  rw [List.getElem?_map, List.getElem?_drop, Nat.add_comm 1 i, List.getElem?_eq_getElem h, at0_lt h]
  rfl
theorem smls_succ (ns : List Nat) {i : Nat} (h : i + 1 < ns.length) : nz ((smls ns).take (i + 1)) = nz ((smls ns).take i) ++ [(sml (at0 ns (i + 1)) : Int)] := by
  have h1 := smls_at ns h
  obtain ⟨h2, h3⟩ := List.getElem?_eq_some_iff.1 h1
  rw [List.take_succ_eq_append_getElem h2, h3, nz_snoc]
theorem smls_W64 (ns : List Nat) : W64 (nz (smls ns)) := by
  intro x hx
  obtain ⟨y, hy, rfl⟩ := List.mem_map.1 hx
  unfold smls at hy
  obtain ⟨z, _, rfl⟩ := List.mem_map.1 hy
  have := sml_le z
  have h2 : (-9223372036854775808 : Int) ≤ (sml z : Int) ∧ (sml z : Int) ≤ 9223372036854775807 := ⟨by omega, by omega⟩
  simpa [Lit.wf, IntKind.min, IntKind.max, IntKind.signed, IntKind.bits] using h2
/-- what a plan is told as -/
@[irreducible] def plB (L : List (List T3)) (n : Int) : ByteArray := if n = 0 then pI L L.length ++ ⟨#[111, 107]⟩ else erB n
theorem plB_ok (L : List (List T3)) : plB L 0 = pI L L.length ++ ⟨#[111, 107]⟩ := by unfold plB; rw [if_pos rfl]
theorem plB_err (L : List (List T3)) {n : Int} (h : n ≠ 0) : plB L n = erB n := by unfold plB; rw [if_neg h]
def PlR (ms : List Nat) (n : Nat) (w : World) (v3 vi : Value) (wr : World) : Prop :=
  ∃ i : Nat, i ≤ n ∧ vi = .int .i64 i ∧ Oz .i64 3 w.heap.size wr v3 (nz (ms.take i)) ∧ Below w.heap.size w wr
set_option maxHeartbeats 4000000 in
set_option maxRecDepth 100000 in
theorem planned_any (ns : List Nat) (L : List (List T3)) (n : Int) (v : Value) (w : World) (h : Rd .u64 w v (nz ns)) (h0 : 0 < ns.length) (hl : ns.length ≤ 1000000) (hn0 : 0 ≤ n) (hn1 : n < 10)
    (hmk : ∀ v' w', Rd .i64 w' v' (nz (smls ns)) → Calls Tryz.prog 99 #[v', .int .i64 (sml (at0 ns 0) : Int)] w' (RetPE w' L n))
    (hpr : n = 0 → ∀ v' w', RPs w' v' L → Tp w' → Calls Tryz.prog 100 #[v'] w' fun e w2 => e = .returned (.string (pI L L.length)) ∧ Below w'.heap.size w' w2)
    (hsz : (pI L L.length).size ≤ 1000000000000) (hT : Tp w) :
    Calls Tryz.prog 62 #[v] w (RetV w (.string (plB L n))) := by
  obtain ⟨v2, hsl, h2⟩ := h.from 1 (by rw [nz_len]; exact h0)
  rw [show ((1 : Nat) : Int) = 1 from rfl] at hsl
  obtain ⟨cap, b, off, rfl, hcap, hm, hx⟩ := h.cells h0
  have c0 := hx 0 h0
  rw [Nat.add_zero] at c0
  have K0 := Lib.hid c0
  have MK := Lib.hid hmk
  have PR := Lib.hid hpr
  have TP := Lib.hid hT
  have SM := Lib.hid (fun x w => small_any x w)
  have SS := Lib.hid (fun i h => smls_succ ns (i := i) h)
  have SL := Lib.hid (smls_len ns)
  have R2 := Lib.hid h2
  obtain ⟨a2, cap2, b2, off2, rfl, hc2, hm2, hx2, hd2⟩ := h2
  have ln2 : ((nz ns).drop 1).length = ns.length - 1 := by rw [List.length_drop, nz_len]
  have HD := Lib.hid (show ∀ i, i < ns.length - 1 → w.cell? ⟨b2, off2 + i, none⟩ = some (.int .u64 (at0 ns (i + 1) : Int)) from fun i hi => by
    rw [hd2 i (by rw [ln2]; exact hi), gd_eq, List.getElem?_drop, ← gd_eq, nz_gd (by omega), Nat.add_comm])
  have HA2 := Lib.hid (show ns.length - 1 = 0 ∨ a2 = some ⟨b2, off2, none⟩ from hx2.imp (fun e => by rw [← ln2, e]; rfl) id)
  rw [ln2] at hsl hc2
  obtain ⟨m, hmm⟩ : ∃ m, m = ns.length - 1 := ⟨_, rfl⟩
  have HM := Lib.hid hmm
  rw [← hmm] at hsl hc2 HD HA2 SL
  have hml : m ≤ 1000000 := by omega
  clear h hx hT hmk hpr hd2 hx2 ln2 R2 hmm c0
  generalize hx0 : at0 ns 0 = x0 at *
  clear hx0
  go_enter Tryz.func62, Tryz.ntmps62
  go_wp2
  go_loopw [3, 11] (fun v3 vi wr => PlR (smls ns) m w v3 vi wr) (fun _ i _ => m - (intOf i).toNat)
  case atStart => exact ⟨0, by omega, rfl, by rw [List.take_zero]; exact Oz.nil _ _ _ _, Below.refl _ _⟩
  case round =>
    obtain ⟨i, hi, rfl, ho, hb⟩ := hrel
    have O1 := Lib.hid ho
    have B1 := Lib.hid hb
    have hs1 := hb.size
    clear ho hb
    by_cases hil : i < m
    · obtain rfl := HA2.out.resolve_left (by omega)
      have g1 : decide ((i : Int) < (m : Int)) = true := decide_eq_true (by omega)
      have g2 : decide (i < m) = true := decide_eq_true hil
      have ci := HD.out i hil
      have ci := (B1.out.cell (p := ⟨b2, off2 + i, none⟩) (World.block_lt_of_cell? w _ ci)).trans ci
      have SSi := Lib.hid (SS.out i (by have := HM.out; omega))
      have hll : (nz ((smls ns).take i)).length ≤ 1000000 := by rw [nz_len, List.length_take]; omega
      generalize at0 ns (i + 1) = u at *
      go_wp2_with fail
      refine (SM.out _ _).mono ?_
      rintro e w2 ⟨rfl, rfl⟩
      go_wp2_with (at_builtin; refine wl_app_int _ rfl (.tmp 15) (.tmp 18) rfl w.heap.size _ (nz ((smls ns).take i)) (sml u : Int) w rfl rfl O1.out B1.out hs1 hll ?_)
      intro v3 w3 h1 h2
      rw [← SSi.out] at h1
      have O3 := Lib.hid h1
      have B3 := Lib.hid h2
      clear h1 h2 O1 B1 ci SSi
      go_wp2
      go_roundw
      case rel => exact ⟨i + 1, by omega, by go_num, O3.out, B3.out⟩
      case measure => simp [intOf] <;> omega
    · obtain rfl : m = i := by omega
      have g3 : decide ((m : Int) < (m : Int)) = false := decide_eq_false (by omega)
      have hrz := O1.out.rd
      rw [List.take_of_length_le (by rw [SL.out]; exact Nat.le_refl _)] at hrz
      have RZ := Lib.hid hrz
      clear hrz
      have c0 := K0.out
      have c0 := (B1.out.cell (p := ⟨b, off, none⟩) (World.block_lt_of_cell? w _ c0)).trans c0
      clear O1
      go_wp2_with fail
      refine (SM.out _ _).mono ?_
      rintro e w2 ⟨rfl, rfl⟩
      go_wp2_with fail
      refine (MK.out _ _ RZ.out).mono ?_
      rintro e w2 ⟨v2, rfl, hop, hb⟩
      have B2 := Lib.hid (B1.out.trans (hb.mono hs1))
      have hs2 := B2.out.size
      have R2 := Lib.hid hop.rps
      clear hop hb B1 RZ c0 K0
      by_cases e0 : n = 0
      · have E := Lib.hid (show plB L n = pI L L.length ++ ⟨#[111, 107]⟩ from by rw [e0]; exact plB_ok L)
        have PN := Lib.hid (PR.out e0)
        have hov : ¬ 9223372036854775807 < (pI L L.length).size + 2 := by omega
        clear PR
        generalize pI L L.length = y at *
        subst e0
        go_wp2_with fail
        refine (PN.out _ _ R2.out (TP.out.below B2.out)).mono ?_
        rintro e w3 ⟨rfl, hb⟩
        have B3 := Lib.hid (B2.out.trans (hb.mono hs2))
        clear hb
        go_wp2
        go_ret
        exact ⟨by rw [E.out]; rfl, B3.out⟩
      · have E := Lib.hid (plB_err L e0)
        have g4 : (n == 0) = false := by rw [beq_eq_false_iff_ne]; exact e0
        have FL := Lib.hid (failed_is n hn0 hn1 w2 (TP.out.below B2.out))
        clear PR
        generalize erB n = y at *
        go_wp2_with fail
        refine FL.out.mono ?_
        rintro e w3 ⟨rfl, hb⟩
        have B3 := Lib.hid (B2.out.trans (hb.mono hs2))
        clear hb
        go_wp2
        go_ret
        exact ⟨by rw [E.out]; rfl, B3.out⟩
end Go.Proofs.YtdhmmllpldjkbaaGreatDoor.Gm
