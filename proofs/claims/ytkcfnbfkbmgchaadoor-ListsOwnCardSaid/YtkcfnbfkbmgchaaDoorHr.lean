/- The reference's Lines. -/
import Derived.Test.YtkcfnbfkbmgchaaDoorHl
namespace Go.Proofs.YtkcfnbfkbmgchaaDoor.Gm
open Go.RowKit
/-- lines as lists of integers -/
def lnz (ll : List (List Nat)) : List (List Int) := ll.map zi
theorem lnz_len (ll : List (List Nat)) : (lnz ll).length = ll.length := by simp [lnz]
theorem lnz_snoc (ll : List (List Nat)) (l : List Nat) : lnz (ll ++ [l]) = lnz ll ++ [zi l] := by simp [lnz]
def lin (ds : List Nat) (a k n : Nat) : List Nat := (List.range n).map fun i => k + i * under ds a
theorem lin_succ (ds : List Nat) (a k n : Nat) : lin ds a k (n + 1) = lin ds a k n ++ [k + n * under ds a] := by unfold lin; rw [List.range_succ, List.map_append]; rfl
theorem lin_len (ds : List Nat) (a k n : Nat) : (lin ds a k n).length = n := by simp [lin]
def lnsTo (ds : List Nat) (a k : Nat) : List (List Nat) := ((List.range k).filter fun k => decide (k / under ds a % nd ds a = 0)).map fun k => lin ds a k (nd ds a)
theorem lnsTo_full (ds : List Nat) (a : Nat) : lnsTo ds a (pr ds) = lns ds a := rfl
theorem lnsTo_yes {ds : List Nat} {a k : Nat} (h : k / under ds a % nd ds a = 0) : lnsTo ds a (k + 1) = lnsTo ds a k ++ [lin ds a k (nd ds a)] := by
  unfold lnsTo
  rw [List.range_succ, List.filter_append, List.map_append]
  simp [h]
theorem lnsTo_no {ds : List Nat} {a k : Nat} (h : k / under ds a % nd ds a ≠ 0) : lnsTo ds a (k + 1) = lnsTo ds a k := by
  unfold lnsTo
  rw [List.range_succ, List.filter_append, List.map_append]
  simp [h]
theorem lnsTo_len (ds : List Nat) (a k : Nat) : (lnsTo ds a k).length ≤ k := by
  unfold lnsTo
  rw [List.length_map]
  exact Nat.le_trans (List.length_filter_le _ _) (by simp)
/-- a call's end: a list of lists of its own -/
def RetLL (w : World) (ll : List (List Int)) (e : Ending) (w' : World) : Prop := ∃ v, e = .returned v ∧ OL w.heap.size w' v ll ∧ Below w.heap.size w w'
def LnRel (w : World) (ds : List Nat) (a : Nat) (out k : Value) (wr : World) : Prop :=
  ∃ m : Nat, m ≤ pr ds ∧ k = .int .i64 m ∧ OL w.heap.size wr out (lnz (lnsTo ds a m)) ∧ Below w.heap.size w wr
def LiRel (w2 : World) (ds : List Nat) (a k g n c : Nat) (l i : Value) (wi : World) : Prop :=
  ∃ (m x : Nat), m ≤ nd ds a ∧ x < nd ds a ∧ i = .int .i64 m ∧ Oz .i64 3 w2.heap.size wi (.slice (some ⟨g, 0, none⟩) n c) (zi ((plcs ds k).set a x)) ∧ Oz .i64 3 w2.heap.size wi l (zi (lin ds a k m)) ∧ l.ownBlock ≠ some g ∧ Below w2.heap.size w2 wi
set_option maxHeartbeats 4000000 in
set_option maxRecDepth 100000 in
theorem rlines_any (ds : List Nat) (x : Nat) (z : Int) (v : Value) (w : World) (h : Rd .i64 w v (zi ds)) (hs : Shp ds) (hw : W64 (zi ds)) (hxl : x < ds.length) (hz : z = x) :
    Calls Tryd.prog 76 #[v, .int .i64 z] w (RetLL w (lnz (lns ds x))) := by
  subst hz
  have HR := Lib.hid h
  obtain ⟨a, cap, b, off, rfl, hcap, hm, hx, hc⟩ := h.opened
  have HC := Lib.hid hc
  have HS := Lib.hid hs
  have hl3 := hs.len3
  have hpr := hs.le
  rw [zi_len] at hcap hx
  have LZ := Lib.hid (zi_len ds)
  clear hc h
  rcases hx with hx | rfl
  · exfalso; omega
  rw [LZ.out] at HR ⊢
  go_enter Tryd.func76, Tryd.ntmps76
  go_wp2_with fail
  refine (rshape_any (zi ds) _ _ HR.out hw).mono ?_
  rintro e w' ⟨he, rfl⟩
  obtain rfl := he.ok HS.out
  go_wp2
  go_loopw [7, 8] (fun out k wr => LnRel w ds x out k wr) (fun _ k _ => pr ds - (intOf k).toNat)
  case atStart => exact ⟨0, by omega, rfl, OL.nil _ _, Below.refl _ _⟩
  case round =>
    obtain ⟨k, hk, rfl, hout, hbel⟩ := hrel
    have OO := Lib.hid hout
    have HB := Lib.hid hbel
    have hwsz := hbel.size
    clear hout hbel
    obtain ⟨wo, hwo⟩ : ∃ wo : World, wo = wr := ⟨_, rfl⟩
    subst hwo
    by_cases hkl : k < pr ds
    · have hcx := HC.out x (by rw [LZ.out]; exact hxl)
      rw [gd_zi] at hcx
      have hcw : wo.cell? ⟨b, off + x, none⟩ = some (.int .i64 (nd ds x : Int)) := (HB.out.cell (p := ⟨b, off + x, none⟩) (World.block_lt_of_cell? _ _ hcx)).trans hcx
      have CW := Lib.hid hcw
      have hbo := World.block_lt_of_cell? _ _ hcw
      simp only at hbo
      have N1 := HS.out.nd1 hxl
      have NL := HS.out.ndle hxl
      have U1 := HS.out.under1 x
      have UL := HS.out.underle x
      clear hcx hcw
      go_wp2_with fail
      refine (rplaces_any ds k _ _ _ (HR.out.below HB.out) HS.out (by omega) rfl).mono ?_
      rintro e w3 ⟨v3, rfl, ho3, hb3⟩
      have B3 := Lib.hid (HB.out.trans (hb3.mono hwsz))
      have BL := Lib.hid hb3
      obtain ⟨a9, c9, rfl, hc9, hm9, hg9⟩ := ho3.shape
      have LP := Lib.hid (show (zi (plcs ds k)).length = ds.length by rw [zi_len, plcs_len])
      rw [LP.out] at hc9 hg9 ho3 ⊢
      obtain ⟨g, rfl, hgb, hgl⟩ := hg9 0 (by omega)
      have O3 := Lib.hid ho3
      have c9 := ho3.cell (i := x) (by rw [LP.out]; exact hxl)
      rw [gd_zi, nd_plcs ds k x hxl] at c9
      clear ho3 hb3 hg9
      have PL := Lib.hid (plcs_lt ds k x hxl N1)
      have ND := Lib.hid (nd_plcs ds k x hxl)
      by_cases hz : k / under ds x % nd ds x = 0
      · rw [hz] at c9
        have HZ := Lib.hid hz
        have LY := Lib.hid (lnsTo_yes hz)
        have PLN := Lib.hid (fun y => plc_line ds k x y hxl hkl (by rw [nd_plcs ds k x hxl]; exact hz))
        have LL := Lib.hid (lnsTo_len ds x k)
        clear hz
        go_wp2
        clear c9
        obtain ⟨wp, hwp⟩ : ∃ wp : World, wp = w3 := ⟨_, rfl⟩
        subst hwp
        go_loopw [10, 11] (fun l i wi => LiRel wo ds x k g ds.length c9 l i wi) (fun _ i _ => nd ds x - (intOf i).toNat)
        case atStart =>
          refine ⟨0, 0, by omega, by omega, rfl, ?_, Oz.nil _ _ _ _, by simp [Value.ownBlock], BL.out⟩
          have e : (plcs ds k).set x 0 = plcs ds k := by
            apply List.ext_getElem?
            intro j
            rw [List.getElem?_set]
            split
            · rename_i hj
              subst hj
              rw [if_pos (by rw [plcs_len]; exact hxl), List.getElem?_eq_getElem (by rw [plcs_len]; exact hxl), ← nd_lt, ND.out, HZ.out]
            · rfl
          rw [e]
          exact O3.out
        case round =>
          obtain ⟨m, y, hm1, hy, rfl, hp, hl, hap, hbel⟩ := hrel
          have OP := Lib.hid hp
          have OLI := Lib.hid hl
          have AP := Lib.hid hap
          have BI := Lib.hid hbel
          have hbs := hbel.size
          have hgi := (hp.base).2
          have hgb2 := (hp.base).1
          have cxi : wr.cell? ⟨b, off + x, none⟩ = some (.int .i64 (nd ds x : Int)) := (hbel.cell (p := ⟨b, off + x, none⟩) hbo).trans CW.out
          clear hp hl hap hbel
          by_cases hml : m < nd ds x
          · have hSL : (zi ((plcs ds k).set x y)).length = ds.length := by rw [zi_len, List.length_set, plcs_len]
            have hxw : x < ds.length := hxl
            have SL := Lib.hid hSL
            have SS := Lib.hid (show (zi ((plcs ds k).set x y)).set x (m : Int) = zi ((plcs ds k).set x m) by
              unfold zi
              rw [← List.map_set, List.set_set])
            have LS := Lib.hid (lin_succ ds x k m)
            have LN := Lib.hid (show (zi (lin ds x k m)).length ≤ 1000000 by rw [zi_len, lin_len]; omega)
            clear hSL
            go_wp2_with (refine wl_storeI .i64 3 _ rfl (.tmp 41) (.tmp 40) (fun _ => rfl) rfl wo.heap.size g x ds.length c9 (zi ((plcs ds k).set x y)) (m : Int) rfl rfl OP.out SL.out hxw ?_; intro w5 hO5 ho5 hs5; clear cxi)
            rw [SS.out] at hO5
            have OP5 := Lib.hid hO5
            have OL5 := Lib.hid (OLI.out.only ho5 (fun gg e e' => AP.out (by rw [e, e'])))
            have B5 := Lib.hid (BI.out.trans (ho5.below hbs (fun gg e => by omega)))
            clear hO5 ho5 OP OLI BI
            refine (rplace_any ds ((plcs ds k).set x m) _ _ _ ((HR.out.below HB.out).below B5.out) OP5.out.rd HS.out (by rw [List.length_set, plcs_len]) (fun j hj => by
              rw [nd_set _ _ _ _ (by rw [plcs_len]; exact hxl)]
              split
              · rename_i e; subst e; exact hml
              · exact plcs_lt ds k j hj (HS.out.nd1 hj))).mono ?_
            rintro e w6 ⟨rfl, hb6⟩
            rw [PLN.out m]
            have OP6 := Lib.hid (OP5.out.below hb6)
            have OL6 := Lib.hid (OL5.out.below hb6)
            have B6 := Lib.hid (B5.out.trans (hb6.mono B5.out.size))
            have hs6 := B6.out.size
            have hg6 := (OP6.out.base).2
            clear hb6 OP5 OL5 B5
            go_wp2_with (refine wl_appI _ rfl (.tmp 42) (.tmp 46) rfl wo.heap.size u10 (zi (lin ds x k m)) ((k + m * under ds x : Nat) : Int) rfl rfl OL6.out hs6 LN.out ?_; intro v7 w7 hO7 ho7 hat7)
            have OP7 := Lib.hid (OP6.out.only ho7 (fun gg e e' => AP.out (by
              have e2 : g = gg := by simpa [Value.ownBlock] using e
              rw [e2]; exact e')))
            have AP7 := Lib.hid (show v7.ownBlock ≠ some g by
              rcases hat7 with e | ⟨gg, e, hgg⟩
              · rw [e]; exact AP.out
              · rw [e]; intro e2; injection e2; omega)
            have B7 := Lib.hid (B6.out.trans (ho7.below hs6 (fun gg e => (OL6.out.lt gg e).1)))
            have OL7 := Lib.hid hO7
            clear hO7 ho7 hat7 OP6 OL6 B6
            go_roundw
            case rel => exact ⟨m + 1, m, by omega, hml, by go_num, OP7.out, by rw [LS.out, zi_snoc]; exact OL7.out, AP7.out, B7.out⟩
            case measure => simp [intOf] <;> omega
          · obtain rfl : m = nd ds x := by omega
            obtain ⟨a10, c10, rfl, _, _, _⟩ := OLI.out.shape
            have hll : (lnz (lnsTo ds x k)).length ≤ 1000000 := by rw [lnz_len]; have := LL.out; omega
            have OO2 := Lib.hid (OO.out.below BI.out)
            have OI2 := Lib.hid (OLI.out.mono hwsz)
            have BB := Lib.hid (HB.out.trans (BI.out.mono hwsz))
            have hbs2 := BB.out.size
            clear OP OLI BI
            go_wp2_with (refine wl_appL _ rfl (.tmp 48) (.tmp 50) rfl w.heap.size _ (lnz (lnsTo ds x k)) (.slice a10 (zi (lin ds x k (nd ds x))).length c10) (zi (lin ds x k (nd ds x))) w rfl rfl OO2.out OI2.out BB.out hbs2 hll ?_; intro v8 w8 hO8 hB8)
            go_roundw
            case rel => exact ⟨k + 1, by omega, by go_num, by rw [LY.out, lnz_snoc]; exact hO8, hB8⟩
            case measure => simp [intOf] <;> omega
      · have LN := Lib.hid (lnsTo_no hz)
        generalize k / under ds x % nd ds x = r at *
        have hr0 : ¬ r = 0 := hz
        clear hz
        go_wp2
        go_roundw
        case rel => exact ⟨k + 1, by omega, by go_num, by rw [LN.out]; exact OO.out.below BL.out, B3.out⟩
        case measure => simp [intOf] <;> omega
    · obtain rfl : k = pr ds := by omega
      go_wp2
      go_ret
      exact ⟨_, rfl, OO.out, HB.out⟩
end Go.Proofs.YtkcfnbfkbmgchaaDoor.Gm
