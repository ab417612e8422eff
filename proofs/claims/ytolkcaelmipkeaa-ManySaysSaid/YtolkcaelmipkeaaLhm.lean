/- The walk of the law ManySays. -/
import Derived.Test.YtolkcaelmipkeaaHe
namespace Go.Proofs.Ytolkcaelmipkeaa.Gm
open Go.RowKit
theorem same_any (zs : List Int) (v1 v2 : Value) (w : World) (h1 : Rd .i64 w v1 zs) (h2 : Rd .i64 w v2 zs) :
    Calls Try.prog 42 #[v1, v2] w (RetV w (.bool true)) := by
  have H1 := Lib.hid h1
  have H2 := Lib.hid h2
  obtain ⟨a, cap, rfl, _, _⟩ := h1.shape
  obtain ⟨a', cap', rfl, _, _⟩ := h2.shape
  clear h1 h2
  go_enter Try.func42, Try.ntmps42
  go_wp2_with fail
  refine (equalI_yes zs _ _ _ H1.out H2.out).mono ?_
  rintro e w' ⟨rfl, hb⟩
  have B := Lib.hid hb
  clear hb
  go_wp2
  go_ret
  exact ⟨rfl, B.out⟩
set_option maxHeartbeats 1000000 in
theorem equalf_yes (ll : List (List Int)) (v1 v2 : Value) (w : World) (h1 : Rl w v1 ll) (h2 : Rl w v2 ll) :
    Calls Try.prog 41 #[v1, v2, .func (Fn.func 42) #[] #[]] w (RetV w (.bool true)) := by
  obtain ⟨a, cap, b, off, rfl, hcap, hm, hx, hc⟩ := h1
  obtain ⟨a', cap', b', off', rfl, hcap', hm', hx', hc'⟩ := h2
  have Hc := Lib.hid hc
  have Hc' := Lib.hid hc'
  clear hc hc'
  by_cases h0 : ll.length = 0
  · have e : ll = [] := List.length_eq_zero_iff.1 h0
    subst e
    clear Hc Hc' hx hx' h0
    go_enter Try.func41, Try.ntmps41
    go_wp2
    refine wp_loop_rounds 1 ?_
    rw [rounds_succ]
    go_wp2
    go_ret
    exact ⟨rfl, Below.refl _ _⟩
  · rcases hx with hx | rfl
    · exfalso; omega
    rcases hx' with hx' | rfl
    · exfalso; omega
    go_enter Try.func41, Try.ntmps41
    go_wp2
    go_loopw [17] (fun i wr => CntB ll.length w i wr) (fun i _ => ll.length - (intOf i).toNat)
    case atStart => exact ⟨0, by omega, rfl, Below.refl _ _⟩
    case round =>
      obtain ⟨k, hk, rfl, hbel⟩ := hrel
      have Hb := Lib.hid hbel
      by_cases hlt : k < ll.length
      · obtain ⟨u, hcu, hru⟩ := Hc.out k hlt
        obtain ⟨u', hcu', hru'⟩ := Hc'.out k hlt
        have hck : wr.cell? ⟨b, off + k, none⟩ = some u := (hbel.cell (p := ⟨b, off + k, none⟩) (World.block_lt_of_cell? _ _ hcu)).trans hcu
        have hck' : wr.cell? ⟨b', off' + k, none⟩ = some u' := (hbel.cell (p := ⟨b', off' + k, none⟩) (World.block_lt_of_cell? _ _ hcu')).trans hcu'
        have R := Lib.hid (hru.below hbel)
        have R' := Lib.hid (hru'.below hbel)
        obtain ⟨au, cu, rfl, _, _⟩ := hru.shape
        obtain ⟨au', cu', rfl, _, _⟩ := hru'.shape
        clear hcu hru hcu' hru' hbel
        go_wp2_with fail
        refine (same_any (lg ll k) _ _ _ R.out R'.out).mono ?_
        rintro e w2 ⟨rfl, hb2⟩
        have B2 := Lib.hid (Hb.out.trans (hb2.mono Hb.out.size))
        clear hb2
        go_wp2
        go_roundw
        case rel => exact ⟨k + 1, by omega, by go_num, B2.out⟩
        case measure => simp [intOf] <;> omega
      · obtain rfl : k = ll.length := by omega
        clear hbel
        go_wp2
        go_ret
        exact ⟨rfl, Hb.out⟩
set_option maxHeartbeats 4000000 in
theorem wManySays (zs : List Int) (z : Int) (v : Value) (w : World) (h : Rd .i64 w v zs) (hw : W64 zs) :
    Calls Try.prog 11 #[v, .int .i64 z] w (RetV w (.bool true)) := by
  have HR := Lib.hid h
  obtain ⟨a, cap, rfl, hcap, hm⟩ := h.shape
  clear h
  rcases shape_cases zs with hb | hb | ⟨ds, rfl, hs⟩
  · have HB := Lib.hid hb
    clear hb
    go_enter Try.func11, Try.ntmps11
    go_wp2_with fail
    refine (rshape_any zs _ _ HR.out hw).mono ?_
    rintro e w' ⟨he, rfl⟩
    obtain rfl := he.bad HB.out
    clear he
    go_wp2_with fail
    refine (mcheck_any zs _ _ HR.out hw).mono ?_
    rintro e w' ⟨he, rfl⟩
    obtain rfl := he.bad HB.out
    clear he
    go_wp2_with fail
    refine (mLines_bad zs z 1 _ _ HR.out hw (by first | exact .inl ⟨rfl, HB.out⟩ | exact .inr ⟨rfl, HB.out⟩)).mono ?_
    rintro e w1 ⟨v1, rfl, ho, hb1⟩
    have O1 := Lib.hid ho
    have B1 := Lib.hid hb1
    obtain ⟨a1, c1, rfl, _, _⟩ := ho.shape
    clear ho hb1
    go_wp2_with fail
    refine (equalf_yes [] _ _ _ O1.out.rl (Rl.nil _)).mono ?_
    rintro e w2 ⟨rfl, hb2⟩
    have B2 := Lib.hid (B1.out.trans (hb2.mono B1.out.size))
    clear hb2
    go_wp2
    go_ret
    exact ⟨rfl, B2.out⟩
  · have HB := Lib.hid hb
    clear hb
    go_enter Try.func11, Try.ntmps11
    go_wp2_with fail
    refine (rshape_any zs _ _ HR.out hw).mono ?_
    rintro e w' ⟨he, rfl⟩
    obtain rfl := he.big HB.out
    clear he
    go_wp2_with fail
    refine (mcheck_any zs _ _ HR.out hw).mono ?_
    rintro e w' ⟨he, rfl⟩
    obtain rfl := he.big HB.out
    clear he
    go_wp2_with fail
    refine (mLines_bad zs z 2 _ _ HR.out hw (by first | exact .inl ⟨rfl, HB.out⟩ | exact .inr ⟨rfl, HB.out⟩)).mono ?_
    rintro e w1 ⟨v1, rfl, ho, hb1⟩
    have O1 := Lib.hid ho
    have B1 := Lib.hid hb1
    obtain ⟨a1, c1, rfl, _, _⟩ := ho.shape
    clear ho hb1
    go_wp2_with fail
    refine (equalf_yes [] _ _ _ O1.out.rl (Rl.nil _)).mono ?_
    rintro e w2 ⟨rfl, hb2⟩
    have B2 := Lib.hid (B1.out.trans (hb2.mono B1.out.size))
    clear hb2
    go_wp2
    go_ret
    exact ⟨rfl, B2.out⟩
  · have HS := Lib.hid hs
    have LZ := Lib.hid (zi_len ds)
    have hl3 := hs.len3
    have hl0 := hs.len0
    rw [LZ.out] at HR ⊢
    clear hs
    by_cases hz : z < 0 ∨ (ds.length : Int) ≤ z
    · have HZ := Lib.hid hz
      have HZ2 := Lib.hid (show z < 0 ∨ (ds.length : Int) - 1 < z by omega)
      clear hz
      go_enter Try.func11, Try.ntmps11
      go_wp2_with fail
      refine (rshape_any (zi ds) _ _ HR.out hw).mono ?_
      rintro e w' ⟨he, rfl⟩
      obtain rfl := he.ok HS.out
      clear he
      go_wp2_with fail
      refine (mcheck_any (zi ds) _ _ HR.out hw).mono ?_
      rintro e w' ⟨he, rfl⟩
      obtain rfl := he.ok HS.out
      clear he
      go_wp2_with fail
      refine (mLines_axis ds z _ _ HR.out hw HS.out HZ.out).mono ?_
      rintro e w1 ⟨v1, rfl, ho, hb1⟩
      have O1 := Lib.hid ho
      have B1 := Lib.hid hb1
      obtain ⟨a1, c1, rfl, _, _⟩ := ho.shape
      clear ho hb1
      go_wp2_with fail
      refine (in_no z 0 ((ds.length : Int) - 1) _ HZ2.out).mono ?_
      rintro e w' ⟨rfl, rfl⟩
      go_wp2_with fail
      refine (equalf_yes [] _ _ _ O1.out.rl (Rl.nil _)).mono ?_
      rintro e w2 ⟨rfl, hb2⟩
      have B2 := Lib.hid (B1.out.trans (hb2.mono B1.out.size))
      clear hb2
      go_wp2
      go_ret
      exact ⟨rfl, B2.out⟩
    · obtain ⟨x, hx⟩ : ∃ x : Nat, z = (x : Int) := ⟨z.toNat, by omega⟩
      subst hx
      have hxl : x < ds.length := by omega
      clear hz
      go_enter Try.func11, Try.ntmps11
      go_wp2_with fail
      refine (rshape_any (zi ds) _ _ HR.out hw).mono ?_
      rintro e w' ⟨he, rfl⟩
      obtain rfl := he.ok HS.out
      clear he
      go_wp2_with fail
      refine (mcheck_any (zi ds) _ _ HR.out hw).mono ?_
      rintro e w' ⟨he, rfl⟩
      obtain rfl := he.ok HS.out
      clear he
      go_wp2_with fail
      refine (mLines_ok ds x _ _ _ HR.out hw HS.out hxl rfl).mono ?_
      rintro e w1 ⟨v1, rfl, ho, hb1⟩
      have O1 := Lib.hid ho
      have B1 := Lib.hid hb1
      obtain ⟨a1, c1, rfl, _, _⟩ := ho.shape
      clear ho hb1
      go_wp2_with fail
      refine (in_yes (x : Int) 0 ((ds.length : Int) - 1) _ (by omega) (by omega)).mono ?_
      rintro e w' ⟨rfl, rfl⟩
      go_wp2_with fail
      refine (rlines_any ds x _ _ _ (HR.out.below B1.out) HS.out hw hxl rfl).mono ?_
      rintro e w2 ⟨v2, rfl, ho, hb2⟩
      have O1b := Lib.hid (O1.out.below hb2)
      have O2 := Lib.hid ho
      have B2 := Lib.hid (B1.out.trans (hb2.mono B1.out.size))
      obtain ⟨a2, c2, rfl, _, _⟩ := ho.shape
      clear ho hb2 O1 B1
      go_wp2_with fail
      refine (equalf_yes (lnz (lns ds x)) _ _ _ O1b.out.rl O2.out.rl).mono ?_
      rintro e w3 ⟨rfl, hb3⟩
      have B3 := Lib.hid (B2.out.trans (hb3.mono B2.out.size))
      clear hb3
      go_wp2
      go_ret
      exact ⟨rfl, B3.out⟩
end Go.Proofs.Ytolkcaelmipkeaa.Gm
