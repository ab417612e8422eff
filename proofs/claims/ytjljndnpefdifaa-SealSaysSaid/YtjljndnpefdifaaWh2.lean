/- The reference's Whole. -/
import Derived.Test.YtjljndnpefdifaaNt
import Derived.Test.YtjljndnpefdifaaOc
namespace Go.Proofs.Ytjljndnpefdifaa.Gm
open Go.RowKit
set_option linter.unusedVariables false
set_option maxHeartbeats 4000000 in
set_option maxRecDepth 100000 in
theorem rwhole_ok (ks : List Nat) (zs : List Int) (back : Bool) (v v2 : Value) (w : World) (h : Rd .i64 w v (zi (szs ks))) (h2 : Rd .u64 w v2 zs) (hw : W64 (zi (szs ks))) (hs : Shp (szs ks)) (hz : B64 zs) (hl : zs.length = pk ks) :
    Calls Try.prog 52 #[v, v2, .bool back] w (RetL w (WL back ks (zs.map toF))) := by
  have h0 : 1 ≤ ks.length := by have := hs.len0; rwa [szs_len] at this
  have h3 : ks.length ≤ 3 := by have := hs.len3; rwa [szs_len] at this
  have Y := Lib.hid h2
  have HW := Lib.hid (alT_whole (back := back) (zs := zs) h0)
  have HZ := Lib.hid (alT_zero back ks zs)
  have HS := Lib.hid (fun x => (alT_succ back ks zs x).symm)
  have HL := Lib.hid (fun x => alT_len (back := back) hl x)
  have HB := Lib.hid (fun x => alT_64 (back := back) hl hz x)
  have hpk1 : 1 ≤ pk ks := hs.pr1
  have hpk2 : pk ks ≤ 1024 := hs.le
  have CA := Lib.hid (fun x (hx : x < ks.length) L v v2 (zx zf zt : Int) M w h h2 (hL : L.length = pk ks) hz (hM : M = pr ((szs ks).take x) * under (szs ks) x) ex ef (et : zt = (M : Int)) => rturned_any (szs ks) L x (nd ks x) 0 (pr ((szs ks).take x) * under (szs ks) x) zx zf zt back v v2 w h h2 hs hw hz hL (by rw [szs_len]; exact hx) (nd_szs ks hx) (Nat.zero_le _) (Nat.le_refl _) ex ef (by rw [et, hM]))
  have QQ := Lib.hid (fun x (hx : x < ks.length) => (show pk ks / nd (szs ks) x = pr ((szs ks).take x) * under (szs ks) x by
    have hx' : x < (szs ks).length := by rw [szs_len]; exact hx
    have hk := nd_szs ks hx
    rw [show pk ks = pr (szs ks) from rfl, shp_split hx' hk, hk, Nat.mul_left_comm]
    exact Nat.mul_div_cancel_left _ (Nat.two_pow_pos _)))
  have XD := Lib.hid (fun x (hx : x < ks.length) => (show 1 ≤ nd (szs ks) x from hs.pos _ (nd_mem (by rw [szs_len]; exact hx))))
  obtain ⟨a, cap, sb, so, rfl, hcap, hm, hax, hcx⟩ := h.opened
  have LZ := Lib.hid (show (zi (szs ks)).length = ks.length by rw [zi_len, szs_len])
  rw [LZ.out] at hcap hax hcx
  obtain rfl := hax.resolve_left (by omega)
  have HCX := Lib.hid (show ∀ p, p < ks.length → w.cell? ⟨sb, so + p, none⟩ = some (.int .i64 (nd (szs ks) p)) from fun p hp => by rw [hcx p hp, gd_zi])
  obtain ⟨N, hN⟩ : ∃ N, N = ks.length := ⟨_, rfl⟩
  rw [LZ.out]
  rw [← hN] at h0 h3 HW CA hcap LZ HCX QQ XD ⊢
  have X2 := Lib.hid (show Rd .i64 w (.slice (some ⟨sb, so, none⟩) N cap) (zi (szs ks)) by rw [← LZ.out]; exact h)
  obtain ⟨n, hn⟩ : ∃ n, n = pk ks := ⟨_, rfl⟩
  rw [← hn] at HL hpk1 hpk2 QQ CA HS
  have HN := Lib.hid hn
  clear h h2 hw hz hl hN hs hcx hn
  go_enter Try.func52, Try.ntmps52
  go_wp2
  go_loopw [1, 7] (fun av i wr => AnRel w back ks zs N av i wr) (fun _ i _ => N - (intOf i).toNat)
  case atStart => exact ⟨0, by omega, rfl, by rw [HZ.out]; exact Y.out, fun h => absurd h (by omega), Below.refl _ _⟩
  case round =>
    obtain ⟨m, hm1, rfl, hr, ho, hbel⟩ := hrel
    have OR := Lib.hid hr
    have OO := Lib.hid ho
    have HBL := Lib.hid hbel
    have hwsz := hbel.size
    obtain ⟨la, lc, rfl, hlc, hlm⟩ := hr.shape
    rw [HL.out m] at hlc OR OO ⊢
    clear hr ho hbel
    by_cases hml : m < N
    · have hcl := HCX.out m hml
      have hc2 : wr.cell? ⟨sb, so + m, none⟩ = some (.int .i64 (nd (szs ks) m)) := (HBL.out.cell (p := ⟨sb, so + m, none⟩) (World.block_lt_of_cell? _ _ hcl)).trans hcl
      have XM := Lib.hid (X2.out.below HBL.out)
      have hq := QQ.out m hml
      have d1 := XD.out m hml
      have CM := Lib.hid (fun zx zf zt ex ef et => CA.out m hml (alT back ks zs m) (.slice (some ⟨sb, so, none⟩) N cap) (.slice la n lc) zx zf zt _ wr XM.out OR.out (HL.out m) (HB.out m) rfl ex ef et)
      have HSm := HS.out m
      have CM2 := CM.out
      rw [show pr (szs ks) = n from HN.out.symm, HSm, ← hq] at CM2
      have CM2 := Lib.hid CM2
      clear CM HSm hcl
      generalize nd (szs ks) m = d at *
      have hd0 : ¬ d = 0 := by omega
      have hqle := Nat.div_le_self n d
      have e1 := nat_quo n d
      have e2 : IntKind.i64.wrap ((n / d : Nat) : Int) = ((n / d : Nat) : Int) := wrap_nat (by omega)
      clear hq
      generalize n / d = q at *
      go_wp2_with fail
      refine (CM2.out (m : Int) 0 (q : Int) rfl rfl rfl).mono ?_
      rintro e w4 ⟨v4, rfl, ho4, hb4⟩
      have O4 := Lib.hid (ho4.mono hwsz)
      have B4 := Lib.hid (HBL.out.trans (hb4.mono hwsz))
      clear ho4 hb4
      go_wp2
      go_roundw
      case rel => exact ⟨m + 1, by omega, by go_num, O4.out.rd, fun _ => O4.out, B4.out⟩
      case measure => simp [intOf] <;> omega
    · obtain rfl : N = m := by omega
      have O5 := OO.out h0
      rw [HW.out] at O5
      have O5 := Lib.hid O5.ow
      go_wp2
      go_ret
      exact ⟨_, rfl, O5.out, HBL.out⟩
end Go.Proofs.Ytjljndnpefdifaa.Gm
