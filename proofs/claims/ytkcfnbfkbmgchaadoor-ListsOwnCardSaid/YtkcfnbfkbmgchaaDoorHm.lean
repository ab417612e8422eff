/- many.lines, many.Lines. -/
import Derived.Test.YtkcfnbfkbmgchaaDoorHr
import Derived.Test.YtkcfnbfkbmgchaaDoorHc
namespace Go.Proofs.YtkcfnbfkbmgchaaDoor.Gm
open Go.RowKit
def MiRel (w2 : World) (ds : List Nat) (a k : Nat) (l i : Value) (wi : World) : Prop :=
  ∃ m : Nat, m ≤ nd ds a ∧ i = .int .i64 m ∧ Oz .i64 3 w2.heap.size wi l (zi (lin ds a k m)) ∧ Below w2.heap.size w2 wi
set_option maxHeartbeats 4000000 in
set_option maxRecDepth 100000 in
theorem mlines_any (ds : List Nat) (x : Nat) (z : Int) (v : Value) (w : World) (h : Rd .i64 w v (zi ds)) (hs : Shp ds) (hxl : x < ds.length) (hz : z = x) :
    Calls Tryd.prog 96 #[v, .int .i64 z] w (RetLL w (lnz (lns ds x))) := by
  subst hz
  obtain ⟨a, cap, b, off, rfl, hcap, hm, hx, hc⟩ := h.opened
  have HC := Lib.hid hc
  have HS := Lib.hid hs
  have hl3 := hs.len3
  have hpr := hs.le
  have hpr1 := hs.pr1
  have N1 := hs.nd1 hxl
  have NL := hs.ndle hxl
  have U1 := hs.under1 x
  have UL := hs.underle x
  rw [zi_len] at hcap hx
  have LZ := Lib.hid (zi_len ds)
  clear hc h hs
  rcases hx with hx | rfl
  · exfalso; omega
  obtain ⟨r, hr⟩ : ∃ r, ds.length = x + 1 + r := ⟨ds.length - (x + 1), by omega⟩
  have HR := Lib.hid hr
  have hcx := HC.out x (by rw [LZ.out]; exact hxl)
  rw [gd_zi] at hcx
  rw [LZ.out, hr]
  rw [hr] at hcap hl3
  have EU := Lib.hid (show pr ((ds.drop (x + 1)).take r) = under ds x by unfold under; rw [List.take_of_length_le (by rw [List.length_drop]; omega)])
  have EP := Lib.hid (show nd ds x * under ds x * pr (ds.take x) = pr ds by rw [← pr_split ds x, pr_drop ds x hxl, Nat.mul_comm]; rfl)
  have DL := Lib.hid (fun t => Nat.le_trans (pr_take_le (fun d hd => HS.out.pos d (List.mem_of_mem_drop hd)) t) (Nat.le_trans (pr_drop_le HS.out.pos (x + 1)) HS.out.le))
  have TL := Lib.hid (fun t => Nat.le_trans (pr_take_le HS.out.pos t) HS.out.le)
  clear hr hxl
  by_cases hcap1 : cap = x + 1
  · have hr0 : r = 0 := by omega
    subst hr0
    subst hcap1
    go_enter Tryd.func96, Tryd.ntmps96
    go_wp2
    go_loop [5, 20] (fun u j => ∃ t : Nat, t ≤ 0 ∧ j = .int .i64 t ∧ u = .int .i64 (pr ((ds.drop (x + 1)).take t))) (fun _ j => 0 - (intOf j).toNat)
    case atStart => exact ⟨0, by omega, rfl, rfl⟩
    case round =>
      obtain ⟨t, ht, rfl, rfl⟩ := hrel
      have hpl := DL.out t
      by_cases htl : t < 0
      · exfalso; omega
      · obtain rfl : t = 0 := by omega
        rw [EU.out] at hpl ⊢
        have hmul := Nat.mul_le_mul UL NL
        have hm0 : (0 : Int) ≤ (under ds x : Int) * (nd ds x : Int) := by rw [← Int.natCast_mul]; exact Int.natCast_nonneg _
        have hm1 : (under ds x : Int) * (nd ds x : Int) ≤ 1048576 := by rw [← Int.natCast_mul]; omega
        have E0 := Lib.hid (show ((nd ds x * under ds x * pr (ds.take 0) : Nat) : Int) = (under ds x : Int) * (nd ds x : Int) by rw [← Int.natCast_mul]; simp [pr, Nat.mul_comm])
        clear hmul
        go_wp2
        clear hm0 hm1
        go_loop [8, 38] (fun n j => ∃ t : Nat, t ≤ x ∧ j = .int .i64 t ∧ n = .int .i64 ((nd ds x * under ds x * pr (ds.take t) : Nat) : Int)) (fun _ j => x - (intOf j).toNat)
        case atStart => exact ⟨0, by omega, rfl, by rw [E0.out]⟩
        case round =>
          obtain ⟨s, hst, rfl, rfl⟩ := hrel
          by_cases hsl : s < x
          · have htd : s < ds.length := by have := HR.out; omega
            have hct := HC.out s (by rw [LZ.out]; exact htd)
            rw [gd_zi] at hct
            have PS := Lib.hid (show nd ds x * under ds x * pr (ds.take (s + 1)) = nd ds x * under ds x * pr (ds.take s) * nd ds s by rw [pr_take_succ ds s htd, ← Nat.mul_assoc])
            have hle := Lib.hid (show nd ds x * under ds x * pr (ds.take (s + 1)) ≤ 1024 by
              have h1 := EP.out
              have h2 : ds.take x = ds.take (s + 1) ++ (ds.take x).drop (s + 1) := by
                have h3 := List.take_append_drop (s + 1) (ds.take x)
                rw [List.take_take, Nat.min_eq_left (by omega)] at h3
                exact h3.symm
              rw [h2, pr_append, ← Nat.mul_assoc] at h1
              have h3 := pr_pos (l := (ds.take x).drop (s + 1)) (fun d hd => HS.out.pos d (List.mem_of_mem_take (List.mem_of_mem_drop hd)))
              have := Nat.le_mul_of_pos_right (nd ds x * under ds x * pr (ds.take (s + 1))) h3
              omega)
            have hl2 := hle.out
            rw [PS.out] at hl2
            have hl3 : nd ds x * under ds x * pr (ds.take s) ≤ 1024 := by
              have := Nat.le_mul_of_pos_right (nd ds x * under ds x * pr (ds.take s)) (HS.out.nd1 htd); omega
            generalize nd ds s = d at *
            generalize nd ds x * under ds x * pr (ds.take s) = p at *
            have hm0 : (0 : Int) ≤ (p : Int) * (d : Int) := by rw [← Int.natCast_mul]; exact Int.natCast_nonneg _
            have hm1 : (p : Int) * (d : Int) ≤ 1024 := by rw [← Int.natCast_mul]; omega
            clear hl2
            go_wp2
            go_round
            case rel => exact ⟨s + 1, by omega, by go_num, by rw [PS.out, Int.natCast_mul]⟩
            case measure => simp [intOf]; omega
          · obtain rfl : s = x := by omega
            rw [EP.out]
            go_wp2
            go_loopw [11, 12] (fun out k wr => LnRel w ds s out k wr) (fun _ k _ => pr ds - (intOf k).toNat)
            case atStart => exact ⟨0, by omega, rfl, OL.nil _ _, Below.refl _ _⟩
            case round =>
              obtain ⟨k, hk, rfl, hout, hbel⟩ := hrel
              have OO := Lib.hid hout
              have HB := Lib.hid hbel
              have hwsz := hbel.size
              clear hout hbel
              by_cases hkl : k < pr ds
              · have hcw : wr.cell? ⟨b, off + s, none⟩ = some (.int .i64 (nd ds s : Int)) := (HB.out.cell (p := ⟨b, off + s, none⟩) (World.block_lt_of_cell? _ _ hcx)).trans hcx
                have hbo := World.block_lt_of_cell? _ _ hcx
                simp only at hbo
                have LL := Lib.hid (lnsTo_len ds s k)
                have LYN := Lib.hid (show (k / under ds s % nd ds s = 0 → lnsTo ds s (k + 1) = lnsTo ds s k ++ [lin ds s k (nd ds s)]) ∧ (k / under ds s % nd ds s ≠ 0 → lnsTo ds s (k + 1) = lnsTo ds s k) from ⟨fun h => lnsTo_yes h, fun h => lnsTo_no h⟩)
                have LSU := Lib.hid (fun m => lin_succ ds s k m)
                have e1 := nat_quo k (under ds s)
                have hqle := Nat.div_le_self k (under ds s)
                have e2 : IntKind.i64.wrap ((k / under ds s : Nat) : Int) = ((k / under ds s : Nat) : Int) := wrap_nat (by omega)
                have e3 := nat_rem (k / under ds s) (nd ds s)
                have hu0 : ¬ under ds s = 0 := by omega
                have hd0 : ¬ nd ds s = 0 := by omega
                generalize hq : k / under ds s = q at *
                generalize hrr : q % nd ds s = rr at *
                clear hq hrr
                by_cases hz : rr = 0
                · have LY := Lib.hid (LYN.out.1 hz)
                  subst hz
                  go_wp2
                  go_quiet (fail)
                  have hcw2 : (wr.drewN nq).cell? ⟨b, off + s, none⟩ = some (.int .i64 (nd ds s : Int)) := hcw
                  have OO2 := Lib.hid (show OL w.heap.size (wr.drewN nq) u11 (lnz (lnsTo ds s k)) from OO.out.only ((Only.refl (fun _ => False) wr).drewN nq) (fun _ _ _ e => e))
                  have HB2 := Lib.hid (below_drewN HB.out nq)
                  have hwsz2 : w.heap.size ≤ (wr.drewN nq).heap.size := hwsz
                  clear OO HB hcw e1 e2 e3 LYN
                  generalize wr.drewN nq = w2 at *
                  go_wp2
                  go_loopw [13, 64] (fun l i wi => MiRel w2 ds s k l i wi) (fun _ i _ => nd ds s - (intOf i).toNat)
                  case atStart => exact ⟨0, by omega, rfl, Oz.nil _ _ _ _, Below.refl _ _⟩
                  case round =>
                    obtain ⟨m, hm1, rfl, hl, hbel⟩ := hrel
                    have OLI := Lib.hid hl
                    have BI := Lib.hid hbel
                    have hbs := hbel.size
                    clear hl hbel
                    by_cases hml : m < nd ds s
                    · have LN := Lib.hid (show (zi (lin ds s k m)).length ≤ 1000000 by rw [zi_len, lin_len]; omega)
                      have hmul := Nat.mul_le_mul (show m ≤ 1024 by omega) UL
                      have hm0 : (0 : Int) ≤ (m : Int) * (under ds s : Int) := by rw [← Int.natCast_mul]; exact Int.natCast_nonneg _
                      have hm1 : (m : Int) * (under ds s : Int) ≤ 1048576 := by rw [← Int.natCast_mul]; omega
                      have ES := Lib.hid (show ((k + m * under ds s : Nat) : Int) = (k : Int) + (m : Int) * (under ds s : Int) by rw [Int.natCast_add, Int.natCast_mul])
                      clear hmul
                      go_wp2_with (refine wl_appI _ rfl (.tmp 67) (.tmp 73) rfl w2.heap.size u13 (zi (lin ds s k m)) ((k : Int) + (m : Int) * (under ds s : Int)) rfl rfl OLI.out hbs LN.out ?_; intro v7 w7 hO7 ho7 hat7)
                      have B7 := Lib.hid (BI.out.trans (ho7.below hbs (fun gg e => (OLI.out.lt gg e).1)))
                      have OL7 := Lib.hid hO7
                      clear hO7 ho7 hat7
                      go_roundw
                      case rel => exact ⟨m + 1, by omega, by go_num, by rw [LSU.out, zi_snoc, ES.out]; exact OL7.out, B7.out⟩
                      case measure => simp [intOf] <;> omega
                    · obtain rfl : m = nd ds s := by omega
                      obtain ⟨a10, c10, rfl, _, _, _⟩ := OLI.out.shape
                      have hll : (lnz (lnsTo ds s k)).length ≤ 1000000 := by rw [lnz_len]; have := LL.out; omega
                      have OO3 := Lib.hid (OO2.out.below BI.out)
                      have OI3 := Lib.hid (OLI.out.mono hwsz2)
                      have BB := Lib.hid (HB2.out.trans (BI.out.mono hwsz2))
                      have hbs2 := BB.out.size
                      clear OLI BI
                      go_wp2_with (refine wl_appL _ rfl (.tmp 76) (.tmp 78) rfl w.heap.size _ (lnz (lnsTo ds s k)) (.slice a10 (zi (lin ds s k (nd ds s))).length c10) (zi (lin ds s k (nd ds s))) w rfl rfl OO3.out OI3.out BB.out hbs2 hll ?_; intro v8 w8 hO8 hB8)
                      go_roundw
                      case rel => exact ⟨k + 1, by omega, by go_num, by rw [LY.out, lnz_snoc]; exact hO8, hB8⟩
                      case measure => simp [intOf] <;> omega
                · have LN := Lib.hid (LYN.out.2 hz)
                  go_wp2
                  go_quiet (fail)
                  have OO2 := Lib.hid (show OL w.heap.size (wr.drewN nq) u11 (lnz (lnsTo ds s k)) from OO.out.only ((Only.refl (fun _ => False) wr).drewN nq) (fun _ _ _ e => e))
                  have HB2 := Lib.hid (below_drewN HB.out nq)
                  clear OO HB LYN
                  go_wp2
                  go_roundw
                  case rel => exact ⟨k + 1, by omega, by go_num, by rw [LN.out]; exact OO2.out, HB2.out⟩
                  case measure => simp [intOf] <;> omega
              · obtain rfl : k = pr ds := by omega
                go_wp2
                go_ret
                exact ⟨_, rfl, OO.out, HB.out⟩
  · go_enter Tryd.func96, Tryd.ntmps96
    go_wp2
    go_loop [5, 20] (fun u j => ∃ t : Nat, t ≤ r ∧ j = .int .i64 t ∧ u = .int .i64 (pr ((ds.drop (x + 1)).take t))) (fun _ j => r - (intOf j).toNat)
    case atStart => exact ⟨0, by omega, rfl, rfl⟩
    case round =>
      obtain ⟨t, ht, rfl, rfl⟩ := hrel
      have hpl := DL.out t
      by_cases htl : t < r
      · have htd : x + 1 + t < ds.length := by have := HR.out; omega
        have hct := HC.out (x + 1 + t) (by rw [LZ.out]; exact htd)
        rw [gd_zi, ← Nat.add_assoc] at hct
        have hdl := HS.out.ndle htd
        have PS := Lib.hid (show pr ((ds.drop (x + 1)).take (t + 1)) = pr ((ds.drop (x + 1)).take t) * nd ds (x + 1 + t) by
          rw [pr_take_succ _ _ (by rw [List.length_drop]; omega)]
          congr 1
          rw [nd_eq, nd_eq, List.getElem?_drop])
        generalize nd ds (x + 1 + t) = d at *
        generalize pr ((ds.drop (x + 1)).take t) = p at *
        have hmul := Nat.mul_le_mul hpl hdl
        have hm0 : (0 : Int) ≤ (p : Int) * (d : Int) := by rw [← Int.natCast_mul]; exact Int.natCast_nonneg _
        have hm1 : (p : Int) * (d : Int) ≤ 1048576 := by rw [← Int.natCast_mul]; omega
        clear hmul
        go_wp2
        go_round
        case rel => exact ⟨t + 1, by omega, by go_num, by rw [PS.out, Int.natCast_mul]⟩
        case measure => simp [intOf]; omega
      · obtain rfl : t = r := by omega
        rw [EU.out] at hpl ⊢
        have hmul := Nat.mul_le_mul UL NL
        have hm0 : (0 : Int) ≤ (under ds x : Int) * (nd ds x : Int) := by rw [← Int.natCast_mul]; exact Int.natCast_nonneg _
        have hm1 : (under ds x : Int) * (nd ds x : Int) ≤ 1048576 := by rw [← Int.natCast_mul]; omega
        have E0 := Lib.hid (show ((nd ds x * under ds x * pr (ds.take 0) : Nat) : Int) = (under ds x : Int) * (nd ds x : Int) by rw [← Int.natCast_mul]; simp [pr, Nat.mul_comm])
        clear hmul
        go_wp2
        clear hm0 hm1
        go_loop [8, 38] (fun n j => ∃ t : Nat, t ≤ x ∧ j = .int .i64 t ∧ n = .int .i64 ((nd ds x * under ds x * pr (ds.take t) : Nat) : Int)) (fun _ j => x - (intOf j).toNat)
        case atStart => exact ⟨0, by omega, rfl, by rw [E0.out]⟩
        case round =>
          obtain ⟨s, hst, rfl, rfl⟩ := hrel
          by_cases hsl : s < x
          · have htd : s < ds.length := by have := HR.out; omega
            have hct := HC.out s (by rw [LZ.out]; exact htd)
            rw [gd_zi] at hct
            have PS := Lib.hid (show nd ds x * under ds x * pr (ds.take (s + 1)) = nd ds x * under ds x * pr (ds.take s) * nd ds s by rw [pr_take_succ ds s htd, ← Nat.mul_assoc])
            have hle := Lib.hid (show nd ds x * under ds x * pr (ds.take (s + 1)) ≤ 1024 by
              have h1 := EP.out
              have h2 : ds.take x = ds.take (s + 1) ++ (ds.take x).drop (s + 1) := by
                have h3 := List.take_append_drop (s + 1) (ds.take x)
                rw [List.take_take, Nat.min_eq_left (by omega)] at h3
                exact h3.symm
              rw [h2, pr_append, ← Nat.mul_assoc] at h1
              have h3 := pr_pos (l := (ds.take x).drop (s + 1)) (fun d hd => HS.out.pos d (List.mem_of_mem_take (List.mem_of_mem_drop hd)))
              have := Nat.le_mul_of_pos_right (nd ds x * under ds x * pr (ds.take (s + 1))) h3
              omega)
            have hl2 := hle.out
            rw [PS.out] at hl2
            have hl3 : nd ds x * under ds x * pr (ds.take s) ≤ 1024 := by
              have := Nat.le_mul_of_pos_right (nd ds x * under ds x * pr (ds.take s)) (HS.out.nd1 htd); omega
            generalize nd ds s = d at *
            generalize nd ds x * under ds x * pr (ds.take s) = p at *
            have hm0 : (0 : Int) ≤ (p : Int) * (d : Int) := by rw [← Int.natCast_mul]; exact Int.natCast_nonneg _
            have hm1 : (p : Int) * (d : Int) ≤ 1024 := by rw [← Int.natCast_mul]; omega
            clear hl2
            go_wp2
            go_round
            case rel => exact ⟨s + 1, by omega, by go_num, by rw [PS.out, Int.natCast_mul]⟩
            case measure => simp [intOf]; omega
          · obtain rfl : s = x := by omega
            rw [EP.out]
            go_wp2
            go_loopw [11, 12] (fun out k wr => LnRel w ds s out k wr) (fun _ k _ => pr ds - (intOf k).toNat)
            case atStart => exact ⟨0, by omega, rfl, OL.nil _ _, Below.refl _ _⟩
            case round =>
              obtain ⟨k, hk, rfl, hout, hbel⟩ := hrel
              have OO := Lib.hid hout
              have HB := Lib.hid hbel
              have hwsz := hbel.size
              clear hout hbel
              by_cases hkl : k < pr ds
              · have hcw : wr.cell? ⟨b, off + s, none⟩ = some (.int .i64 (nd ds s : Int)) := (HB.out.cell (p := ⟨b, off + s, none⟩) (World.block_lt_of_cell? _ _ hcx)).trans hcx
                have hbo := World.block_lt_of_cell? _ _ hcx
                simp only at hbo
                have LL := Lib.hid (lnsTo_len ds s k)
                have LYN := Lib.hid (show (k / under ds s % nd ds s = 0 → lnsTo ds s (k + 1) = lnsTo ds s k ++ [lin ds s k (nd ds s)]) ∧ (k / under ds s % nd ds s ≠ 0 → lnsTo ds s (k + 1) = lnsTo ds s k) from ⟨fun h => lnsTo_yes h, fun h => lnsTo_no h⟩)
                have LSU := Lib.hid (fun m => lin_succ ds s k m)
                have e1 := nat_quo k (under ds s)
                have hqle := Nat.div_le_self k (under ds s)
                have e2 : IntKind.i64.wrap ((k / under ds s : Nat) : Int) = ((k / under ds s : Nat) : Int) := wrap_nat (by omega)
                have e3 := nat_rem (k / under ds s) (nd ds s)
                have hu0 : ¬ under ds s = 0 := by omega
                have hd0 : ¬ nd ds s = 0 := by omega
                generalize hq : k / under ds s = q at *
                generalize hrr : q % nd ds s = rr at *
                clear hq hrr
                by_cases hz : rr = 0
                · have LY := Lib.hid (LYN.out.1 hz)
                  subst hz
                  go_wp2
                  go_quiet (fail)
                  have hcw2 : (wr.drewN nq).cell? ⟨b, off + s, none⟩ = some (.int .i64 (nd ds s : Int)) := hcw
                  have OO2 := Lib.hid (show OL w.heap.size (wr.drewN nq) u11 (lnz (lnsTo ds s k)) from OO.out.only ((Only.refl (fun _ => False) wr).drewN nq) (fun _ _ _ e => e))
                  have HB2 := Lib.hid (below_drewN HB.out nq)
                  have hwsz2 : w.heap.size ≤ (wr.drewN nq).heap.size := hwsz
                  clear OO HB hcw e1 e2 e3 LYN
                  generalize wr.drewN nq = w2 at *
                  go_wp2
                  go_loopw [13, 64] (fun l i wi => MiRel w2 ds s k l i wi) (fun _ i _ => nd ds s - (intOf i).toNat)
                  case atStart => exact ⟨0, by omega, rfl, Oz.nil _ _ _ _, Below.refl _ _⟩
                  case round =>
                    obtain ⟨m, hm1, rfl, hl, hbel⟩ := hrel
                    have OLI := Lib.hid hl
                    have BI := Lib.hid hbel
                    have hbs := hbel.size
                    clear hl hbel
                    by_cases hml : m < nd ds s
                    · have LN := Lib.hid (show (zi (lin ds s k m)).length ≤ 1000000 by rw [zi_len, lin_len]; omega)
                      have hmul := Nat.mul_le_mul (show m ≤ 1024 by omega) UL
                      have hm0 : (0 : Int) ≤ (m : Int) * (under ds s : Int) := by rw [← Int.natCast_mul]; exact Int.natCast_nonneg _
                      have hm1 : (m : Int) * (under ds s : Int) ≤ 1048576 := by rw [← Int.natCast_mul]; omega
                      have ES := Lib.hid (show ((k + m * under ds s : Nat) : Int) = (k : Int) + (m : Int) * (under ds s : Int) by rw [Int.natCast_add, Int.natCast_mul])
                      clear hmul
                      go_wp2_with (refine wl_appI _ rfl (.tmp 67) (.tmp 73) rfl w2.heap.size u13 (zi (lin ds s k m)) ((k : Int) + (m : Int) * (under ds s : Int)) rfl rfl OLI.out hbs LN.out ?_; intro v7 w7 hO7 ho7 hat7)
                      have B7 := Lib.hid (BI.out.trans (ho7.below hbs (fun gg e => (OLI.out.lt gg e).1)))
                      have OL7 := Lib.hid hO7
                      clear hO7 ho7 hat7
                      go_roundw
                      case rel => exact ⟨m + 1, by omega, by go_num, by rw [LSU.out, zi_snoc, ES.out]; exact OL7.out, B7.out⟩
                      case measure => simp [intOf] <;> omega
                    · obtain rfl : m = nd ds s := by omega
                      obtain ⟨a10, c10, rfl, _, _, _⟩ := OLI.out.shape
                      have hll : (lnz (lnsTo ds s k)).length ≤ 1000000 := by rw [lnz_len]; have := LL.out; omega
                      have OO3 := Lib.hid (OO2.out.below BI.out)
                      have OI3 := Lib.hid (OLI.out.mono hwsz2)
                      have BB := Lib.hid (HB2.out.trans (BI.out.mono hwsz2))
                      have hbs2 := BB.out.size
                      clear OLI BI
                      go_wp2_with (refine wl_appL _ rfl (.tmp 76) (.tmp 78) rfl w.heap.size _ (lnz (lnsTo ds s k)) (.slice a10 (zi (lin ds s k (nd ds s))).length c10) (zi (lin ds s k (nd ds s))) w rfl rfl OO3.out OI3.out BB.out hbs2 hll ?_; intro v8 w8 hO8 hB8)
                      go_roundw
                      case rel => exact ⟨k + 1, by omega, by go_num, by rw [LY.out, lnz_snoc]; exact hO8, hB8⟩
                      case measure => simp [intOf] <;> omega
                · have LN := Lib.hid (LYN.out.2 hz)
                  go_wp2
                  go_quiet (fail)
                  have OO2 := Lib.hid (show OL w.heap.size (wr.drewN nq) u11 (lnz (lnsTo ds s k)) from OO.out.only ((Only.refl (fun _ => False) wr).drewN nq) (fun _ _ _ e => e))
                  have HB2 := Lib.hid (below_drewN HB.out nq)
                  clear OO HB LYN
                  go_wp2
                  go_roundw
                  case rel => exact ⟨k + 1, by omega, by go_num, by rw [LN.out]; exact OO2.out, HB2.out⟩
                  case measure => simp [intOf] <;> omega
              · obtain rfl : k = pr ds := by omega
                go_wp2
                go_ret
                exact ⟨_, rfl, OO.out, HB.out⟩
/-- a call's end: a list of lists of its own, an error's number -/
def RetLLE (w : World) (ll : List (List Int)) (n : Int) (e : Ending) (w' : World) : Prop := ∃ v, e = .returned (.tuple #[v, .int .i64 n]) ∧ OL w.heap.size w' v ll ∧ Below w.heap.size w w'
theorem mLines_ok (ds : List Nat) (x : Nat) (z : Int) (v : Value) (w : World) (h : Rd .i64 w v (zi ds)) (hw : W64 (zi ds)) (hs : Shp ds) (hxl : x < ds.length) (hz : z = x) :
    Calls Tryd.prog 83 #[v, .int .i64 z] w (RetLLE w (lnz (lns ds x)) 0) := by
  subst hz
  have HR := Lib.hid h
  obtain ⟨a, cap, rfl, hcap, hm⟩ := h.shape
  have LZ := Lib.hid (zi_len ds)
  have HS := Lib.hid hs
  rw [zi_len] at hcap
  have hl3 := hs.len3
  clear h hs
  rw [LZ.out] at HR ⊢
  go_enter Tryd.func83, Tryd.ntmps83
  go_wp2_with fail
  refine (mcheck_any (zi ds) _ _ HR.out hw).mono ?_
  rintro e w' ⟨he, rfl⟩
  obtain rfl := he.ok HS.out
  go_wp2_with fail
  refine (mlines_any ds x _ _ _ HR.out HS.out hxl rfl).mono ?_
  rintro e w1 ⟨v1, rfl, ho, hb⟩
  have O1 := Lib.hid ho
  have B1 := Lib.hid hb
  clear ho hb
  go_wp2
  go_ret2
  exact ⟨_, rfl, O1.out, B1.out⟩
theorem mLines_axis (ds : List Nat) (z : Int) (v : Value) (w : World) (h : Rd .i64 w v (zi ds)) (hw : W64 (zi ds)) (hs : Shp ds) (hz : z < 0 ∨ (ds.length : Int) ≤ z) :
    Calls Tryd.prog 83 #[v, .int .i64 z] w (RetLLE w [] 1) := by
  have HR := Lib.hid h
  obtain ⟨a, cap, rfl, hcap, hm⟩ := h.shape
  have LZ := Lib.hid (zi_len ds)
  have HS := Lib.hid hs
  rw [zi_len] at hcap
  have hl3 := hs.len3
  clear h hs
  rw [LZ.out] at HR ⊢
  rcases (show z < 0 ∨ (0 ≤ z ∧ (ds.length : Int) ≤ z) by omega) with h1 | ⟨h1, h2⟩
  all_goals
    clear hz
    go_enter Tryd.func83, Tryd.ntmps83
    go_wp2_with fail
    refine (mcheck_any (zi ds) _ _ HR.out hw).mono ?_
    rintro e w' ⟨he, rfl⟩
    obtain rfl := he.ok HS.out
    go_wp2
    go_ret2
    exact ⟨_, rfl, OL.nil _ _, Below.refl _ _⟩
theorem mLines_bad (zs : List Int) (z n : Int) (v : Value) (w : World) (h : Rd .i64 w v zs) (hw : W64 zs) (hn : n = 1 ∧ Bad zs ∨ n = 2 ∧ Big zs) :
    Calls Tryd.prog 83 #[v, .int .i64 z] w (RetLLE w [] n) := by
  have HR := Lib.hid h
  obtain ⟨a, cap, rfl, hcap, hm⟩ := h.shape
  clear h
  rcases hn with ⟨rfl, hb⟩ | ⟨rfl, hb⟩
  · have HB := Lib.hid hb
    clear hb
    go_enter Tryd.func83, Tryd.ntmps83
    go_wp2_with fail
    refine (mcheck_any zs _ _ HR.out hw).mono ?_
    rintro e w' ⟨he, rfl⟩
    obtain rfl := he.bad HB.out
    go_wp2
    go_ret2
    exact ⟨_, rfl, OL.nil _ _, Below.refl _ _⟩
  · have HB := Lib.hid hb
    clear hb
    go_enter Tryd.func83, Tryd.ntmps83
    go_wp2_with fail
    refine (mcheck_any zs _ _ HR.out hw).mono ?_
    rintro e w' ⟨he, rfl⟩
    obtain rfl := he.big HB.out
    go_wp2
    go_ret2
    exact ⟨_, rfl, OL.nil _ _, Below.refl _ _⟩
end Go.Proofs.YtkcfnbfkbmgchaaDoor.Gm
