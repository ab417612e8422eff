/- The walk of the law PlanSays. -/
import Derived.Test.YtcakeenfkdhedaaDoorRpl
import Derived.Test.YtcakeenfkdhedaaDoorPrt
import Derived.Test.YtcakeenfkdhedaaDoorIph
namespace Go.Proofs.YtcakeenfkdhedaaDoor.Gm
open Go.RowKit
set_option linter.unusedVariables false
set_option maxHeartbeats 1000000 in
theorem equalP_yes (l : List T3) (v1 v2 : Value) (w : World) (h1 : Rk w v1 l) (h2 : Rk w v2 l) :
    Calls Tryd.prog 48 #[v1, v2] w (RetV w (.bool true)) := by
  obtain ⟨a, cap, b, off, rfl, hcap, hm, hx, hc⟩ := h1
  obtain ⟨a', cap', b', off', rfl, hcap', hm', hx', hc'⟩ := h2
  obtain ⟨n, hnl⟩ : ∃ n, n = l.length := ⟨_, rfl⟩
  have HL := Lib.hid hnl
  have Hc := Lib.hid hc
  have Hc' := Lib.hid hc'
  rw [← hnl] at hcap hx hcap' hx' ⊢
  clear hc hc' hnl
  go_enter Tryd.func48, Tryd.ntmps48
  go_wp2
  go_loopw [5, 13] (fun _ i wr => CntB n w i wr) (fun _ i _ => n - (intOf i).toNat)
  case atStart => exact ⟨0, by omega, rfl, Below.refl _ _⟩
  case round =>
    obtain ⟨k, hk, rfl, hbel⟩ := hrel
    by_cases hlt : k < n
    · obtain rfl := hx.resolve_left (by omega)
      obtain rfl := hx'.resolve_left (by omega)
      obtain ⟨c0, c1, c2⟩ := Hc.out k (by rw [← HL.out]; exact hlt)
      obtain ⟨d0, d1, d2⟩ := Hc'.out k (by rw [← HL.out]; exact hlt)
      have c0 := (hbel.cell (World.block_lt_of_cell? _ _ c0)).trans c0
      have c1 := (hbel.cell (World.block_lt_of_cell? _ _ c1)).trans c1
      have c2 := (hbel.cell (World.block_lt_of_cell? _ _ c2)).trans c2
      have d0 := (hbel.cell (World.block_lt_of_cell? _ _ d0)).trans d0
      have d1 := (hbel.cell (World.block_lt_of_cell? _ _ d1)).trans d1
      have d2 := (hbel.cell (World.block_lt_of_cell? _ _ d2)).trans d2
      have Hb := Lib.hid hbel
      generalize (tg l k).1 = y0 at *
      generalize (tg l k).2.1 = y1 at *
      generalize (tg l k).2.2 = y2 at *
      clear hbel
      go_wp2
      go_quiet (fail)
      go_wp2
      go_roundw
      case rel => exact ⟨k + 1, by omega, by go_num, below_drewN Hb.out _⟩
      case measure => simp [intOf] <;> omega
    · obtain rfl : k = n := by omega
      go_wp2
      go_ret
      exact ⟨rfl, hbel⟩
theorem same1_yes (l : List T3) (v1 v2 : Value) (w : World) (h1 : Rk w v1 l) (h2 : Rk w v2 l) :
    Calls Tryd.prog 47 #[v1, v2] w (RetV w (.bool true)) := by
  have C := Lib.hid (equalP_yes l v1 v2 w h1 h2)
  obtain ⟨_, _, rfl, _⟩ := h1.shape
  obtain ⟨_, _, rfl, _⟩ := h2.shape
  clear h1 h2
  go_enter Tryd.func47, Tryd.ntmps47
  go_wp2_with fail
  refine C.out.mono ?_
  rintro e w' ⟨rfl, hb⟩
  have HB := Lib.hid hb
  clear hb C
  go_wp2
  go_ret
  exact ⟨rfl, HB.out⟩
set_option maxHeartbeats 1000000 in
theorem eqfp_yes (ll : List (List T3)) (v1 v2 : Value) (w : World) (h1 : RPs w v1 ll) (h2 : RPs w v2 ll) :
    Calls Tryd.prog 46 #[v1, v2, .func (Fn.func 47) #[] #[]] w (RetV w (.bool true)) := by
  obtain ⟨a, cap, b, off, rfl, hcap, hm, hx, hc⟩ := h1
  obtain ⟨a', cap', b', off', rfl, hcap', hm', hx', hc'⟩ := h2
  obtain ⟨n, hnl⟩ : ∃ n, n = ll.length := ⟨_, rfl⟩
  have Hc := Lib.hid hc
  have Hc' := Lib.hid hc'
  rw [← hnl] at hcap hx hcap' hx' Hc Hc' ⊢
  clear hc hc' hnl
  go_enter Tryd.func46, Tryd.ntmps46
  go_wp2
  go_loopw [7, 8, 9, 17] (fun _ _ _ i wr => CntB n w i wr) (fun _ _ _ i _ => n - (intOf i).toNat)
  case atStart => exact ⟨0, by omega, rfl, Below.refl _ _⟩
  case round =>
    obtain ⟨k, hk, rfl, hbel⟩ := hrel
    have HB := Lib.hid hbel
    have hsz := hbel.size
    clear hbel
    by_cases hlt : k < n
    · obtain rfl := hx.resolve_left (by omega)
      obtain rfl := hx'.resolve_left (by omega)
      obtain ⟨u, cu, ru, _⟩ := Hc.out k hlt
      obtain ⟨u', cu', ru', _⟩ := Hc'.out k hlt
      have cu := cell_below HB.out cu
      have cu' := cell_below HB.out cu'
      have C := Lib.hid (same1_yes (pg ll k) u u' wr (ru.below HB.out) (ru'.below HB.out))
      obtain ⟨_, _, rfl, _⟩ := ru.shape
      obtain ⟨_, _, rfl, _⟩ := ru'.shape
      clear ru ru'
      generalize (pg ll k).length = m at *
      go_wp2_with fail
      refine C.out.mono ?_
      rintro e w1 ⟨rfl, hb⟩
      have B1 := Lib.hid (HB.out.trans (hb.mono hsz))
      clear hb C cu cu'
      go_wp2
      go_roundw
      case rel => exact ⟨k + 1, by omega, by go_num, B1.out⟩
      case measure => simp [intOf] <;> omega
    · obtain rfl : k = n := by omega
      go_wp2
      go_ret
      exact ⟨rfl, HB.out⟩
theorem samep_yes (ll : List (List T3)) (v1 v2 : Value) (w : World) (h1 : RPs w v1 ll) (h2 : RPs w v2 ll) :
    Calls Tryd.prog 11 #[v1, v2] w (RetV w (.bool true)) := by
  have C := Lib.hid (eqfp_yes ll v1 v2 w h1 h2)
  obtain ⟨_, _, rfl, _⟩ := h1.shape
  obtain ⟨_, _, rfl, _⟩ := h2.shape
  clear h1 h2
  go_enter Tryd.func11, Tryd.ntmps11
  go_wp2_with fail
  refine C.out.mono ?_
  rintro e w' ⟨rfl, hb⟩
  have HB := Lib.hid hb
  clear hb C
  go_wp2
  go_ret
  exact ⟨rfl, HB.out⟩
/-- the two makers answer the same -/
theorem makers (zs : List Int) (cut : Int) (hw : W64 zs) (hc2 : cut ≤ 9223372036854775807) : ∃ (L : List (List T3)) (n : Int),
    (∀ v w, Rd .i64 w v zs → Calls Tryd.prog 9 #[v, .int .i64 cut] w (RetPE w L n)) ∧ (∀ v w, Rd .i64 w v zs → Calls Tryd.prog 10 #[v, .int .i64 cut] w (RetPE w L n)) := by
  rcases shape_cases zs with hb | hb | ⟨ds, rfl, hs⟩
  · exact ⟨[], 1, fun v w h => make_bad zs cut v w 1 h hw (.inl ⟨rfl, hb⟩), fun v w h => rplan_bad zs cut v w 1 h hw (.inl ⟨rfl, hb⟩)⟩
  · exact ⟨[], 2, fun v w h => make_bad zs cut v w 2 h hw (.inr ⟨rfl, hb⟩), fun v w h => rplan_bad zs cut v w 2 h hw (.inr ⟨rfl, hb⟩)⟩
  · by_cases hz : cut < 1
    · exact ⟨[], 1, fun v w h => make_cut ds cut v w h hw hs hz, fun v w h => rplan_cut ds cut v w h hw hs hz⟩
    · by_cases hx : ∀ x, x < ds.length → cntT (lnX ds x) (cutX ds cut x) ≤ 64
      · refine ⟨phs ds cut ds.length, 0, fun v w h => (make_any ds cut v w h hw hs (by omega) hc2).mono ?_, fun v w h => (rplan_any ds cut v w h hw hs (by omega) hc2).mono ?_⟩
        · rintro e w' (⟨_, he⟩ | ⟨⟨x, h1, h2⟩, _⟩)
          · exact he
          · have := hx x h1; omega
        · rintro e w' (⟨_, he⟩ | ⟨⟨x, h1, h2⟩, _⟩)
          · exact he
          · have := hx x h1; omega
      · refine ⟨[], 2, fun v w h => (make_any ds cut v w h hw hs (by omega) hc2).mono ?_, fun v w h => (rplan_any ds cut v w h hw hs (by omega) hc2).mono ?_⟩
        · rintro e w' (⟨h1, _⟩ | ⟨_, he⟩)
          · exact absurd h1 hx
          · exact he
        · rintro e w' (⟨h1, _⟩ | ⟨_, he⟩)
          · exact absurd h1 hx
          · exact he
theorem chk_ex (ds : List Nat) (ll : List (List T3)) : ∃ n, ChkN ds ll n := by
  by_cases h1 : ll.length = ds.length
  · by_cases h2 : ∀ x, x < ds.length → RP x (lnX ds x) (pg ll x)
    · by_cases h3 : ∀ i, i < ll.length → (pg ll i).length ≤ 64
      · exact ⟨0, .inr ⟨h1, h2, .inr ⟨rfl, h3⟩⟩⟩
      · exact ⟨2, .inr ⟨h1, h2, .inl ⟨rfl, Classical.byContradiction fun h => h3 fun i hi => Nat.le_of_not_lt fun h4 => h ⟨i, hi, h4⟩⟩⟩⟩
    · exact ⟨5, .inl ⟨rfl, .inr (Classical.byContradiction fun h => h2 fun x hx => Classical.byContradiction fun h4 => h ⟨x, hx, h4⟩)⟩⟩
  · exact ⟨5, .inl ⟨rfl, .inl h1⟩⟩
theorem chk_uniq {ds : List Nat} {ll : List (List T3)} {n m : Int} (h : ChkN ds ll n) (k : ChkN ds ll m) : n = m := by
  rcases h with ⟨rfl, h⟩ | ⟨h1, h2, h3⟩ <;> rcases k with ⟨rfl, k⟩ | ⟨k1, k2, k3⟩
  · rfl
  · rcases h with h | ⟨x, hx, h⟩
    · exact absurd k1 h
    · exact absurd (k2 x hx) h
  · rcases k with k | ⟨x, hx, k⟩
    · exact absurd h1 k
    · exact absurd (h2 x hx) k
  · rcases h3 with ⟨rfl, i, hi, h⟩ | ⟨rfl, h⟩ <;> rcases k3 with ⟨rfl, j, hj, k⟩ | ⟨rfl, k⟩
    · rfl
    · have := k i hi; omega
    · have := h j hj; omega
    · rfl
theorem checkers (zs : List Int) (ll : List (List T3)) (hw : W64 zs) (hl : ∀ i, i < ll.length → (pg ll i).length ≤ 1000000) : ∃ n : Int,
    (∀ v v2 w, Rd .i64 w v zs → RPs w v2 ll → Calls Tryd.prog 12 #[v, v2] w (RetV w (.int .i64 n))) ∧ (∀ v v2 w, Rd .i64 w v zs → RPs w v2 ll → Calls Tryd.prog 13 #[v, v2] w (RetV w (.int .i64 n))) := by
  rcases shape_cases zs with hb | hb | ⟨ds, rfl, hs⟩
  · exact ⟨1, fun v v2 w h _ => (pcheck_bad zs v v2 w 1 h hw (.inl ⟨rfl, hb⟩)).mono fun e w' q => ⟨q.1, by rw [q.2]; exact Below.refl _ _⟩, fun v v2 w h _ => (rphases_bad zs v v2 w 1 h hw (.inl ⟨rfl, hb⟩)).mono fun e w' q => ⟨q.1, by rw [q.2]; exact Below.refl _ _⟩⟩
  · exact ⟨2, fun v v2 w h _ => (pcheck_bad zs v v2 w 2 h hw (.inr ⟨rfl, hb⟩)).mono fun e w' q => ⟨q.1, by rw [q.2]; exact Below.refl _ _⟩, fun v v2 w h _ => (rphases_bad zs v v2 w 2 h hw (.inr ⟨rfl, hb⟩)).mono fun e w' q => ⟨q.1, by rw [q.2]; exact Below.refl _ _⟩⟩
  · obtain ⟨n, hn⟩ := chk_ex ds ll
    refine ⟨n, fun v v2 w h h2 => (pcheck_any ds ll v v2 w h h2 hw hs hl).mono ?_, fun v v2 w h h2 => (rphases_any ds ll v v2 w h h2 hw hs (fun i hi => by have := hl i hi; omega)).mono ?_⟩
    · rintro e w' ⟨m, rfl, hm, hb⟩
      exact ⟨by rw [chk_uniq hm hn], hb⟩
    · rintro e w' ⟨m, rfl, hm, hb⟩
      exact ⟨by rw [chk_uniq hm hn], hb⟩
set_option maxHeartbeats 2000000 in
theorem wPlanSays (zs : List Int) (cut : Int) (ll : List (List T3)) (v v2 : Value) (w : World) (h : Rd .i64 w v zs) (h2 : RPs w v2 ll) (hw : W64 zs) (hc2 : cut ≤ 9223372036854775807) (hT : Tp w) (hs : ∀ i, i < ll.length → (∀ j, j < (pg ll i).length → I3 (tg (pg ll i) j)) ∧ (pg ll i).length ≤ 300000) (hN : ll.length ≤ 1100000) :
    Calls Tryd.prog 3 #[v, .int .i64 cut, v2] w (RetV w (.bool true)) := by
  obtain ⟨L, n, hM, hP⟩ := makers zs cut hw hc2
  obtain ⟨m, hC, hD⟩ := checkers zs ll hw (fun i hi => by have := (hs i hi).2; omega)
  have CM := Lib.hid hM
  have CP := Lib.hid hP
  have CC := Lib.hid hC
  have CD := Lib.hid hD
  have X := Lib.hid h
  have Y := Lib.hid h2
  have T0 := Lib.hid hT
  have CPR := Lib.hid (fun v2 w h2 hT => print_any ll v2 w h2 hT hs hN)
  have CTX := Lib.hid (fun v2 w h2 hT => rtext_any ll v2 w h2 hT hs hN)
  obtain ⟨va, vc, rfl, _⟩ := h.shape
  obtain ⟨pa, pc, rfl, _⟩ := h2.shape
  generalize pI ll ll.length = txt at *
  clear h h2 hT hs hN hM hP hC hD hw hc2
  go_enter Tryd.func3, Tryd.ntmps3
  go_wp2_with fail
  refine (CM.out _ _ X.out).mono ?_
  rintro e w1 ⟨v1, rfl, ho, hb⟩
  have P1 := Lib.hid ho
  have X1 := Lib.hid (X.out.below hb)
  have Y1 := Lib.hid (Y.out.below hb)
  have T1 := Lib.hid (T0.out.below hb)
  have B1 := Lib.hid hb
  have hs1 := hb.size
  clear ho hb X Y T0 CM
  go_wp2_with fail
  refine (CP.out _ _ X1.out).mono ?_
  rintro e w2 ⟨v2, rfl, ho, hb⟩
  have P2 := Lib.hid ho
  have Q2 := Lib.hid (P1.out.below hb)
  have X2 := Lib.hid (X1.out.below hb)
  have Y2 := Lib.hid (Y1.out.below hb)
  have T2 := Lib.hid (T1.out.below hb)
  have B2 := Lib.hid (B1.out.trans (hb.mono hs1))
  have hs2 := B2.out.size
  clear ho hb X1 Y1 T1 CP P1 B1
  go_wp2_with fail
  refine (samep_yes L _ _ _ Q2.out.rps P2.out.rps).mono ?_
  rintro e w3 ⟨rfl, hb⟩
  have X3 := Lib.hid (X2.out.below hb)
  have Y3 := Lib.hid (Y2.out.below hb)
  have T3' := Lib.hid (T2.out.below hb)
  have B3 := Lib.hid (B2.out.trans (hb.mono hs2))
  have hs3 := B3.out.size
  clear hb X2 Y2 T2 B2 P2 Q2
  go_wp2_with fail
  refine (CC.out _ _ _ X3.out Y3.out).mono ?_
  rintro e w4 ⟨rfl, hb⟩
  have X4 := Lib.hid (X3.out.below hb)
  have Y4 := Lib.hid (Y3.out.below hb)
  have T4 := Lib.hid (T3'.out.below hb)
  have B4 := Lib.hid (B3.out.trans (hb.mono hs3))
  have hs4 := B4.out.size
  clear hb X3 Y3 T3' B3 CC
  go_wp2_with fail
  refine (CD.out _ _ _ X4.out Y4.out).mono ?_
  rintro e w5 ⟨rfl, hb⟩
  have Y5 := Lib.hid (Y4.out.below hb)
  have T5 := Lib.hid (T4.out.below hb)
  have B5 := Lib.hid (B4.out.trans (hb.mono hs4))
  have hs5 := B5.out.size
  clear hb X4 Y4 T4 B4 CD
  go_wp2_with fail
  refine (CPR.out _ _ Y5.out T5.out).mono ?_
  rintro e w6 ⟨rfl, hb⟩
  have Y6 := Lib.hid (Y5.out.below hb)
  have T6 := Lib.hid (T5.out.below hb)
  have B6 := Lib.hid (B5.out.trans (hb.mono hs5))
  have hs6 := B6.out.size
  clear hb Y5 T5 B5 CPR
  go_wp2_with fail
  refine (CTX.out _ _ Y6.out T6.out).mono ?_
  rintro e w7 ⟨rfl, hb⟩
  have B7 := Lib.hid (B6.out.trans (hb.mono hs6))
  clear hb Y6 T6 B6 CTX
  go_wp2
  go_ret
  exact ⟨rfl, B7.out⟩
end Go.Proofs.YtcakeenfkdhedaaDoor.Gm
