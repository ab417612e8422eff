/- plan.Print, ref PlanText of whatever phases. -/
import Derived.Test.YtdhmmllpldjkbaaGreatDoorIte
import Derived.Test.YtdhmmllpldjkbaaGreatDoorRh
namespace Go.Proofs.YtdhmmllpldjkbaaGreatDoor.Gm
open Go.RowKit
set_option linter.unusedVariables false
def PtA (w : World) (ll : List (List T3)) (out i : Value) (wr : World) : Prop := ∃ m : Nat, m ≤ ll.length ∧ i = .int .i64 m ∧ out = .string (pI ll m) ∧ Below w.heap.size w wr
def PtB (wo : World) (l : List T3) (ws i : Value) (wr : World) : Prop := ∃ j : Nat, j ≤ l.length ∧ i = .int .i64 j ∧ Ost wo.heap.size wr ws ((l.take j).map tI) ∧ Below wo.heap.size wo wr
def PtC (wo : World) (out : ByteArray) (l : List T3) (s i : Value) (wr : World) : Prop := ∃ j : Nat, j ≤ l.length ∧ i = .int .i64 j ∧ s = .string (out ++ jB ((l.take j).map tI)) ∧ Below wo.heap.size wo wr
set_option maxHeartbeats 4000000 in
set_option maxRecDepth 100000 in
theorem print_any (ll : List (List T3)) (v : Value) (w : World) (h : RPs w v ll) (hT : Tp w) (hs : ∀ i, i < ll.length → (∀ j, j < (pg ll i).length → I3 (tg (pg ll i) j)) ∧ (pg ll i).length ≤ 300000) (hN : ll.length ≤ 1100000) :
    Calls Tryz.prog 100 #[v] w fun e w' => e = .returned (.string (pI ll ll.length)) ∧ Below w.heap.size w w' := by
  have HZ := Lib.hid (fun m (hm : m ≤ ll.length) => show (pI ll m).size ≤ 140737488355328 from by
    have h1 := pI_le ll 300000 hs m hm
    have h2 : m * (66 * 300000 + 1) ≤ 1100000 * (66 * 300000 + 1) := Nat.mul_le_mul_right _ (by omega)
    omega)
  obtain ⟨a, cap, b, off, rfl, hcap, hm, hx, hc⟩ := h
  have HC := Lib.hid hc
  have HS := Lib.hid hs
  have TW := Lib.hid hT
  have P0 := Lib.hid (pI_zero ll)
  have PS := Lib.hid (fun m => (pI_succ ll m).symm)
  clear hc hs hT
  go_enter Tryz.func100, Tryz.ntmps100
  go_wp2
  go_loopw [3, 5, 6, 8, 11] (fun out _ _ _ i wr => PtA w ll out i wr) (fun _ _ _ _ i _ => ll.length - (intOf i).toNat)
  case atStart => exact ⟨0, by omega, rfl, by rw [P0.out], Below.refl _ _⟩
  case round =>
    obtain ⟨m, hm1, rfl, rfl, hbel⟩ := hrel
    have HB := Lib.hid hbel
    have hwsz := hbel.size
    clear hbel
    by_cases hml : m < ll.length
    · obtain rfl := hx.resolve_left (by omega)
      obtain ⟨u, hcu, hru, _⟩ := HC.out m hml
      have cu : wr.cell? ⟨b, off + m, none⟩ = some u := cell_below HB.out hcu
      have RU := Lib.hid (hru.below HB.out)
      obtain ⟨ua, uc, ub, uo, rfl, hu1, hu2, hu3, hu4⟩ := RU.out
      have UC := Lib.hid hu4
      obtain ⟨hsm, hl1⟩ := HS.out m hml
      have HSm := Lib.hid hsm
      have PSm := Lib.hid (PS.out m)
      have TO := Lib.hid (TW.out.below HB.out)
      obtain ⟨l, hle⟩ : ∃ l, l = pg ll m := ⟨_, rfl⟩
      rw [← hle] at hu1 hu3 UC HSm PSm cu hl1
      clear hcu hru RU hu4 hsm
      clear hle
      obtain ⟨wo, hwo⟩ : ∃ wo : World, wo = wr := ⟨_, rfl⟩
      subst hwo
      go_wp2
      go_loopw [6, 8, 17] (fun ws _ i wi => PtB wo l ws i wi) (fun _ _ i _ => l.length - (intOf i).toNat)
      case atStart => exact ⟨0, by omega, rfl, Ost.nil _ _, Below.refl _ _⟩
      case round =>
        obtain ⟨j, hj, rfl, hos, hb⟩ := hrel
        have OO := Lib.hid hos
        have B3 := Lib.hid hb
        have hs3 := hb.size
        clear hos hb
        by_cases hjl : j < l.length
        · obtain rfl := hu3.resolve_left (by omega)
          obtain ⟨c0, c1, c2⟩ := UC.out j hjl
          have c0 := cell_below B3.out c0
          have c1 := cell_below B3.out c1
          have c2 := cell_below B3.out c2
          obtain ⟨⟨b0, b1⟩, ⟨b2, b3⟩, ⟨b4, b5⟩⟩ := HSm.out j hjl
          have TS := Lib.hid (take_snoc_I l hjl)
          have TE := Lib.hid (tI_eq (tg l j))
          have LX := Lib.hid (show ((l.take j).map tI).length ≤ 1000000 by rw [List.length_map, List.length_take]; omega)
          have T3' := Lib.hid (TO.out.below B3.out)
          generalize tI (tg l j) = tb at *
          generalize (tg l j).1 = x0 at *
          generalize (tg l j).2.1 = x1 at *
          generalize (tg l j).2.2 = x2 at *
          have z0 := dI_size x0 b0 b1
          have z1 := dI_size x1 b2 b3
          have z2 := dI_size x2 b4 b5
          have IT0 := Lib.hid (fun w hT => itoa_all x0 w b0 b1 hT)
          have IT1 := Lib.hid (fun w hT => itoa_all x1 w b2 b3 hT)
          have IT2 := Lib.hid (fun w hT => itoa_all x2 w b4 b5 hT)
          generalize dI x0 = s0 at *
          generalize dI x1 = s1 at *
          generalize dI x2 = s2 at *
          have f1 : ¬ 9223372036854775807 < s0.size + 1 := by omega
          have f2 : ¬ 9223372036854775807 < s0.size + 1 + s1.size := by omega
          have f3 : ¬ 9223372036854775807 < s0.size + 1 + s1.size + 1 := by omega
          have f4 : ¬ 9223372036854775807 < s0.size + 1 + s1.size + 1 + s2.size := by omega
          clear hu1
          have hal := (Below.refl wr.heap.size wr).alloc (Nat.le_refl _) (.cells #[.int .i64 x0, .int .i64 x1, .int .i64 x2] 108)
          have KB := Blk.new wr 108 #[.int .i64 x0, .int .i64 x1, .int .i64 x2]
          have O4 := Lib.hid (OO.out.below hal)
          have T4 := Lib.hid (T3'.out.below hal)
          have B4 := Lib.hid (B3.out.trans (hal.mono hs3))
          go_wp2
          obtain ⟨w4, hw4⟩ : ∃ w4, w4 = wr.alloc (.cells #[.int .i64 x0, .int .i64 x1, .int .i64 x2] 108) := ⟨_, rfl⟩
          obtain ⟨bb, hbb⟩ : ∃ bb, bb = wr.heap.size := ⟨_, rfl⟩
          rw [← hw4, ← hbb] at KB
          rw [← hw4] at O4 T4 B4
          rw [← hw4, ← hbb]
          have k0 : w4.cell? ⟨bb, 0, none⟩ = some (.int .i64 x0) := KB.cell 0
          have k1 : w4.cell? ⟨bb, 1, none⟩ = some (.int .i64 x1) := KB.cell 1
          have k2 : w4.cell? ⟨bb, 2, none⟩ = some (.int .i64 x2) := KB.cell 2
          have lb := KB.lt
          clear hw4 hbb hal KB OO T3' B3 c0 c1 c2
          refine wp_region_N [2, 6, 11] [3, 7, 12, 14, 15] (fun w' => w'.cell? ⟨bb, 0, none⟩ = some (.int .i64 x0) ∧ w'.cell? ⟨bb, 1, none⟩ = some (.int .i64 x1) ∧ w'.cell? ⟨bb, 2, none⟩ = some (.int .i64 x2)) (by kernel_rfl) ?_
          have hS : w4.drew.cell? ⟨bb, 0, none⟩ = some (.int .i64 x0) ∧ w4.drew.cell? ⟨bb, 1, none⟩ = some (.int .i64 x1) ∧ w4.drew.cell? ⟨bb, 2, none⟩ = some (.int .i64 x2) := ⟨k0, k1, k2⟩
          have BD := Lib.hid (B4.out.trans ((below_drewN (Below.refl w4.heap.size w4) 1).mono B4.out.size))
          have TD := Lib.hid (show Tp w4.drew from T4.out.below (below_drewN (Below.refl w4.heap.size w4) 1))
          have OD := Lib.hid (show Ost wo.heap.size w4.drew _ _ from O4.out.below (below_drewN (Below.refl w4.heap.size w4) 1))
          have lbd : bb < w4.drew.heap.size := lb
          clear O4 T4 B4
          refine wpN_pure (i := 0) (v := ?_) rfl (by kernel_rfl) (by kernel_rfl) (by kernel_rfl) (by kernel_rfl) (fun _ _ _ h => h) (Or.inl ⟨by rfl, ?_⟩) (fun _ => hS) ?_
          rotate_left
          · ((intro w' hw'; (try dsimp only at hw'); go_simp) <;> with_reducible rfl)
          simp only [Act.put, List.setIfInBounds_toArray, List.set_cons_zero, List.set_cons_succ]
          refine wpN_pure (i := 1) (v := ?_) rfl (by kernel_rfl) (by kernel_rfl) (by kernel_rfl) (by kernel_rfl) (fun _ _ _ h => h) (Or.inl ⟨by rfl, ?_⟩) (fun _ => hS) ?_
          rotate_left
          · ((intro w' hw'; (try dsimp only at hw'); go_simp) <;> with_reducible rfl)
          simp only [Act.put, List.setIfInBounds_toArray, List.set_cons_zero, List.set_cons_succ]
          refine wpN_read (i := 2) (v := ?_) rfl (by kernel_rfl) (by kernel_rfl) (by kernel_rfl) (by kernel_rfl) (by kernel_rfl) (fun _ _ _ h => h) (Or.inl ⟨by rfl, ?_⟩) hS ?_
          rotate_left
          · ((intro w' hw'; (try dsimp only at hw'); go_simp) <;> with_reducible rfl)
          simp only [Act.put, List.setIfInBounds_toArray, List.set_cons_zero, List.set_cons_succ]
          refine wpN_pure (i := 5) (v := ?_) rfl (by kernel_rfl) (by kernel_rfl) (by kernel_rfl) (by kernel_rfl) (fun _ _ _ h => h) (Or.inl ⟨by rfl, ?_⟩) (fun _ => hS) ?_
          rotate_left
          · ((intro w' hw'; (try dsimp only at hw'); go_simp) <;> with_reducible rfl)
          simp only [Act.put, List.setIfInBounds_toArray, List.set_cons_zero, List.set_cons_succ]
          refine wpN_read (i := 6) (v := ?_) rfl (by kernel_rfl) (by kernel_rfl) (by kernel_rfl) (by kernel_rfl) (by kernel_rfl) (fun _ _ _ h => h) (Or.inl ⟨by rfl, ?_⟩) hS ?_
          rotate_left
          · ((intro w' hw'; (try dsimp only at hw'); go_simp) <;> with_reducible rfl)
          simp only [Act.put, List.setIfInBounds_toArray, List.set_cons_zero, List.set_cons_succ]
          refine wpN_pure (i := 10) (v := ?_) rfl (by kernel_rfl) (by kernel_rfl) (by kernel_rfl) (by kernel_rfl) (fun _ _ _ h => h) (Or.inl ⟨by rfl, ?_⟩) (fun _ => hS) ?_
          rotate_left
          · ((intro w' hw'; (try dsimp only at hw'); go_simp) <;> with_reducible rfl)
          simp only [Act.put, List.setIfInBounds_toArray, List.set_cons_zero, List.set_cons_succ]
          refine wpN_read (i := 11) (v := ?_) rfl (by kernel_rfl) (by kernel_rfl) (by kernel_rfl) (by kernel_rfl) (by kernel_rfl) (fun _ _ _ h => h) (Or.inl ⟨by rfl, ?_⟩) hS ?_
          rotate_left
          · ((intro w' hw'; (try dsimp only at hw'); go_simp) <;> with_reducible rfl)
          simp only [Act.put, List.setIfInBounds_toArray, List.set_cons_zero, List.set_cons_succ]
          refine wpN_oneS (i := 3) rfl rfl (by kernel_rfl) (fun K hK => ?_)
          go_simp
          refine (IT0.out _ TD.out).mono ?_
          rintro e w5 ⟨rfl, hb5⟩
          have hS5 : w5.cell? ⟨bb, 0, none⟩ = some (.int .i64 x0) ∧ w5.cell? ⟨bb, 1, none⟩ = some (.int .i64 x1) ∧ w5.cell? ⟨bb, 2, none⟩ = some (.int .i64 x2) := ⟨(hb5.cell (p := ⟨bb, 0, none⟩) lbd).trans hS.1, (hb5.cell (p := ⟨bb, 1, none⟩) lbd).trans hS.2.1, (hb5.cell (p := ⟨bb, 2, none⟩) lbd).trans hS.2.2⟩
          refine ⟨hS5, hK.out _ _ hS5 ?_⟩
          clear hK K hS k0 k1 k2
          have hS := hS5
          have B5 := Lib.hid (BD.out.trans (hb5.mono BD.out.size))
          have T5 := Lib.hid (TD.out.below hb5)
          have O5 := Lib.hid (OD.out.below hb5)
          have lb5 : bb < w5.heap.size := Nat.lt_of_lt_of_le lbd hb5.size
          clear hS5 hb5 BD TD OD
          refine wpN_pure (i := 4) (v := ?_) rfl (by kernel_rfl) (by kernel_rfl) (by kernel_rfl) (by kernel_rfl) (fun _ _ _ h => h) (Or.inl ⟨by rfl, ?_⟩) (fun _ => hS) ?_
          rotate_left
          · ((intro w' hw'; (try dsimp only at hw'); go_simp) <;> with_reducible rfl)
          simp only [Act.put, List.setIfInBounds_toArray, List.set_cons_zero, List.set_cons_succ]
          refine wpN_oneS (i := 7) rfl rfl (by kernel_rfl) (fun K hK => ?_)
          go_simp
          refine (IT1.out _ T5.out).mono ?_
          rintro e w6 ⟨rfl, hb6⟩
          have hS6 : w6.cell? ⟨bb, 0, none⟩ = some (.int .i64 x0) ∧ w6.cell? ⟨bb, 1, none⟩ = some (.int .i64 x1) ∧ w6.cell? ⟨bb, 2, none⟩ = some (.int .i64 x2) := ⟨(hb6.cell (p := ⟨bb, 0, none⟩) lb5).trans hS.1, (hb6.cell (p := ⟨bb, 1, none⟩) lb5).trans hS.2.1, (hb6.cell (p := ⟨bb, 2, none⟩) lb5).trans hS.2.2⟩
          refine ⟨hS6, hK.out _ _ hS6 ?_⟩
          clear hK K hS
          have hS := hS6
          have B6 := Lib.hid (B5.out.trans (hb6.mono B5.out.size))
          have T6 := Lib.hid (T5.out.below hb6)
          have O6 := Lib.hid (O5.out.below hb6)
          clear hS6 hb6 B5 T5 O5
          refine wpN_pure (i := 8) (v := ?_) rfl (by kernel_rfl) (by kernel_rfl) (by kernel_rfl) (by kernel_rfl) (fun _ _ _ h => h) (Or.inl ⟨by rfl, ?_⟩) (fun _ => hS) ?_
          rotate_left
          · ((intro w' hw'; (try dsimp only at hw'); go_simp) <;> with_reducible rfl)
          simp only [Act.put, List.setIfInBounds_toArray, List.set_cons_zero, List.set_cons_succ]
          refine wpN_pure (i := 9) (v := ?_) rfl (by kernel_rfl) (by kernel_rfl) (by kernel_rfl) (by kernel_rfl) (fun _ _ _ h => h) (Or.inl ⟨by rfl, ?_⟩) (fun _ => hS) ?_
          rotate_left
          · ((intro w' hw'; (try dsimp only at hw'); go_simp) <;> with_reducible rfl)
          simp only [Act.put, List.setIfInBounds_toArray, List.set_cons_zero, List.set_cons_succ]
          refine wpN_one (i := 12) rfl rfl (by kernel_rfl) (by kernel_rfl) (fun K hK => ?_)
          go_simp
          refine (IT2.out _ T6.out).mono ?_
          rintro e w7 ⟨rfl, hb7⟩
          refine hK.out _ _ ?_
          clear hK K hS
          have B7 := Lib.hid (B6.out.trans (hb7.mono B6.out.size))
          have O7 := Lib.hid (O6.out.below hb7)
          clear hb7 B6 T6 O6
          refine wpN_pure (i := 13) (v := ?_) rfl (by kernel_rfl) (by kernel_rfl) (by kernel_rfl) (by kernel_rfl) (fun _ _ _ h => h) (Or.inl ⟨by rfl, ?_⟩) (fun h => Bool.noConfusion (h.symm.trans (show _ = false by kernel_rfl))) ?_
          rotate_left
          · ((intro w' hw'; (try dsimp only at hw'); go_simp) <;> with_reducible rfl)
          simp only [Act.put, List.setIfInBounds_toArray, List.set_cons_zero, List.set_cons_succ]
          refine wpN_one (i := 14) rfl rfl (by kernel_rfl) (by kernel_rfl) (fun K hK => ?_)
          go_simp
          refine hK.out _ _ ?_
          clear hK K
          have hal := (Below.refl w7.heap.size w7).alloc (Nat.le_refl _) (.cells #[.string (s0 ++ ⟨#[58]⟩ ++ s1 ++ ⟨#[45]⟩ ++ s2)] 9)
          have NB := Lib.hid (heap_alloc_new w7 (.cells #[.string (s0 ++ ⟨#[58]⟩ ++ s1 ++ ⟨#[45]⟩ ++ s2)] 9))
          have O8 := Lib.hid (O7.out.below hal)
          have B8 := Lib.hid (B7.out.trans (hal.mono B7.out.size))
          clear hal O7 B7
          refine wpN_one (i := 15) rfl rfl (by kernel_rfl) (by kernel_rfl) (fun K hK => ?_)
          refine st_app_str2 _ rfl (.tmp 21) (.tmp 35) rfl wo.heap.size _ ((l.take j).map tI) (s0 ++ ⟨#[58]⟩ ++ s1 ++ ⟨#[45]⟩ ++ s2) wo w7.heap.size rfl rfl O8.out NB.out B8.out B8.out.size LX.out ?_
          intro v8 w8 hos hb8 _
          refine hK.out _ _ ?_
          clear hK K
          rw [TE.out, ← TS.out] at hos
          have O9 := Lib.hid hos
          have B9 := Lib.hid hb8
          clear hos hb8 O8 B8 NB
          simp only [Act.put, List.setIfInBounds_toArray, List.set_cons_zero, List.set_cons_succ]
          refine wpN_pure (i := 16) (v := ?_) rfl (by kernel_rfl) (by kernel_rfl) (by kernel_rfl) (by kernel_rfl) (fun _ _ _ h => h) (Or.inl ⟨by rfl, ?_⟩) (fun h => Bool.noConfusion (h.symm.trans (show _ = false by kernel_rfl))) ?_
          rotate_left
          · ((intro w' hw'; (try dsimp only at hw'); go_simp) <;> with_reducible rfl)
          simp only [Act.put, List.setIfInBounds_toArray, List.set_cons_zero, List.set_cons_succ]
          refine wpN_done (by kernel_rfl) ?_
          go_wp2
          go_roundw
          case rel => exact ⟨j + 1, by omega, by go_num, O9.out, B9.out⟩
          case measure => simp [intOf] <;> omega
        · obtain rfl : l.length = j := by omega
          rw [List.take_length] at OO
          have CJ := Lib.hid (join_own _ _ _ wr OO.out (by rw [List.length_map]; omega) (by
            rw [← jB_size]
            have h1 := HZ.out (m + 1) (by omega)
            rw [← PSm.out] at h1
            simp only [ByteArray.size_append] at h1
            omega))
          go_wp2_with fail
          refine CJ.out.mono ?_
          rintro e w6 ⟨rfl, hb6⟩
          have B6 := Lib.hid (HB.out.trans ((B3.out.trans (hb6.mono hs3)).mono hwsz))
          have q2 := HZ.out (m + 1) (by omega)
          rw [← PSm.out] at q2
          simp only [ByteArray.size_append] at q2
          have e1 : (⟨#[10]⟩ : ByteArray).size = 1 := rfl
          rw [e1] at q2
          have PSm2 := Lib.hid PSm.out
          generalize jB (l.map tI) = jt at *
          generalize pI ll m = pt at *
          have f1 : ¬ 9223372036854775807 < jt.size + 1 := by omega
          have f2 : ¬ 9223372036854775807 < pt.size + (jt.size + 1) := by omega
          clear hb6 CJ q2 e1
          go_wp2
          go_roundw
          case rel => exact ⟨m + 1, by omega, by go_num, by rw [← PSm.out], B6.out⟩
          case measure => simp [intOf] <;> omega
    · obtain rfl : ll.length = m := by omega
      go_wp2
      go_ret
      exact ⟨rfl, HB.out⟩
set_option maxHeartbeats 4000000 in
set_option maxRecDepth 100000 in
theorem rtext_any (ll : List (List T3)) (v : Value) (w : World) (h : RPs w v ll) (hT : Tp w) (hs : ∀ i, i < ll.length → (∀ j, j < (pg ll i).length → I3 (tg (pg ll i) j)) ∧ (pg ll i).length ≤ 300000) (hN : ll.length ≤ 1100000) :
    Calls Tryz.prog 83 #[v] w fun e w' => e = .returned (.string (pI ll ll.length)) ∧ Below w.heap.size w w' := by
  have HZ := Lib.hid (fun m (hm : m ≤ ll.length) => show (pI ll m).size ≤ 140737488355328 from by
    have h1 := pI_le ll 300000 hs m hm
    have h2 : m * (66 * 300000 + 1) ≤ 1100000 * (66 * 300000 + 1) := Nat.mul_le_mul_right _ (by omega)
    omega)
  obtain ⟨a, cap, b, off, rfl, hcap, hm, hx, hc⟩ := h
  have HC := Lib.hid hc
  have HS := Lib.hid hs
  have TW := Lib.hid hT
  have P0 := Lib.hid (pI_zero ll)
  have PS := Lib.hid (fun m => (pI_succ ll m).symm)
  clear hc hs hT
  go_enter Tryz.func83, Tryz.ntmps83
  go_wp2
  go_loopw [4, 5, 6, 7] (fun out i _ _ wr => PtA w ll out i wr) (fun _ i _ _ _ => ll.length - (intOf i).toNat)
  case atStart => exact ⟨0, by omega, rfl, by rw [P0.out], Below.refl _ _⟩
  case round =>
    obtain ⟨m, hm1, rfl, rfl, hbel⟩ := hrel
    have HB := Lib.hid hbel
    have hwsz := hbel.size
    clear hbel
    by_cases hml : m < ll.length
    · obtain rfl := hx.resolve_left (by omega)
      obtain ⟨u, hcu, hru, _⟩ := HC.out m hml
      have CU := Lib.hid (show wr.cell? ⟨b, off + m, none⟩ = some u from cell_below HB.out hcu)
      have RU := Lib.hid (hru.below HB.out)
      obtain ⟨ua, uc, ub, uo, rfl, hu1, hu2, hu3, hu4⟩ := RU.out
      have UC := Lib.hid hu4
      obtain ⟨hsm, hl1⟩ := HS.out m hml
      have HSm := Lib.hid hsm
      have PSm := Lib.hid (PS.out m)
      have TO := Lib.hid (TW.out.below HB.out)
      obtain ⟨l, hle⟩ : ∃ l, l = pg ll m := ⟨_, rfl⟩
      rw [← hle] at hu1 hu3 UC HSm PSm CU hl1
      have HQ := Lib.hid (show ∀ j, j ≤ l.length → (pI ll m).size + (jB ((l.take j).map tI)).size + 200 ≤ 140737488355528 from fun j hj => by
        have h1 := pI_le ll 300000 HS.out m (by omega)
        have h3 := jB_le ((l.take j).map tI) (fun x hx => by
          obtain ⟨t, ht, rfl⟩ := List.mem_map.1 hx
          obtain ⟨i, hi, rfl⟩ := List.getElem_of_mem (List.mem_of_mem_take ht)
          rw [← tg_lt hi]
          exact tI_size (HSm.out i hi))
        rw [List.length_map, List.length_take] at h3
        have h2 : m * (66 * 300000 + 1) ≤ 1100000 * (66 * 300000 + 1) := Nat.mul_le_mul_right _ (by omega)
        omega)
      clear hcu hru RU hu4 hsm
      clear hle
      obtain ⟨wo, hwo⟩ : ∃ wo : World, wo = wr := ⟨_, rfl⟩
      subst hwo
      obtain ⟨pt, hpt⟩ : ∃ pt, pt = pI ll m := ⟨_, rfl⟩
      rw [← hpt] at HQ PSm ⊢
      clear hpt
      go_wp2
      go_loopw [4, 6, 7] (fun s i _ wi => PtC wo pt l s i wi) (fun _ i _ _ => l.length - (intOf i).toNat)
      case atStart => exact ⟨0, by omega, rfl, by rw [List.take_zero, List.map_nil, jB_nil, ba_empty], Below.refl _ _⟩
      case round =>
        obtain ⟨j, hj, rfl, rfl, hb⟩ := hrel
        have B3 := Lib.hid hb
        have hs3 := hb.size
        have cu := cell_below B3.out CU.out
        clear hb
        by_cases hjl : j < l.length
        · obtain rfl := hu3.resolve_left (by omega)
          obtain ⟨c0, c1, c2⟩ := UC.out j hjl
          have c0 := cell_below B3.out c0
          have c1 := cell_below B3.out c1
          have c2 := cell_below B3.out c2
          obtain ⟨⟨b0, b1⟩, ⟨b2, b3⟩, ⟨b4, b5⟩⟩ := HSm.out j hjl
          have TS := Lib.hid (jI_take l hjl)
          have TE := Lib.hid (tI_eq (tg l j))
          have T3' := Lib.hid (TO.out.below B3.out)
          have hq := HQ.out j (by omega)
          have HJ0 := Lib.hid (show j = 0 → jB ((l.take j).map tI) = ⟨#[]⟩ from fun h => by rw [h, List.take_zero, List.map_nil, jB_nil])
          generalize tI (tg l j) = tb at *
          generalize (tg l j).1 = x0 at *
          generalize (tg l j).2.1 = x1 at *
          generalize (tg l j).2.2 = x2 at *
          generalize jB ((l.take j).map tI) = jt at *
          have z0 := dI_size x0 b0 b1
          have z1 := dI_size x1 b2 b3
          have z2 := dI_size x2 b4 b5
          have IT0 := Lib.hid (fun w hT => itoa_all x0 w b0 b1 hT)
          have IT1 := Lib.hid (fun w hT => itoa_all x1 w b2 b3 hT)
          have IT2 := Lib.hid (fun w hT => itoa_all x2 w b4 b5 hT)
          generalize dI x0 = s0 at *
          generalize dI x1 = s1 at *
          generalize dI x2 = s2 at *
          have f1 : ¬ 9223372036854775807 < s0.size + 1 := by omega
          have f2 : ¬ 9223372036854775807 < s0.size + 1 + s1.size := by omega
          have f3 : ¬ 9223372036854775807 < s0.size + 1 + s1.size + 1 := by omega
          have f4 : ¬ 9223372036854775807 < s0.size + 1 + s1.size + 1 + s2.size := by omega
          by_cases h0 : j = 0
          · have HPR := Lib.hid (show (pt ++ jt) ++ tb = pt ++ jB ((l.take (j + 1)).map tI) from by
              rw [TS.out, if_pos h0, HJ0.out h0, ba_empty])
            have g1 : decide ((0 : Int) < (j : Int)) = false := decide_eq_false (by omega)
            have g2 : decide (0 < j) = false := decide_eq_false (by omega)
            have hps : (pt ++ jt).size = pt.size + jt.size := by simp only [ByteArray.size_append]
            clear h0
            go_wp2
            generalize pt ++ jt = pre at *
            have f5 : ¬ 9223372036854775807 < pre.size + (s0.size + 1 + s1.size + 1 + s2.size) := by omega
            clear hps g1 g2
            have hal := (Below.refl wr.heap.size wr).alloc (Nat.le_refl _) (.cells #[.int .i64 x0, .int .i64 x1, .int .i64 x2] 108)
            have KB := Blk.new wr 108 #[.int .i64 x0, .int .i64 x1, .int .i64 x2]
            have T4 := Lib.hid (T3'.out.below hal)
            have B4 := Lib.hid (B3.out.trans (hal.mono hs3))
            obtain ⟨w4, hw4⟩ : ∃ w4, w4 = wr.alloc (.cells #[.int .i64 x0, .int .i64 x1, .int .i64 x2] 108) := ⟨_, rfl⟩
            obtain ⟨bb, hbb⟩ : ∃ bb, bb = wr.heap.size := ⟨_, rfl⟩
            rw [← hw4, ← hbb] at KB
            rw [← hw4] at T4 B4
            rw [← hw4, ← hbb]
            have k0 : w4.cell? ⟨bb, 0, none⟩ = some (.int .i64 x0) := KB.cell 0
            have k1 : w4.cell? ⟨bb, 1, none⟩ = some (.int .i64 x1) := KB.cell 1
            have k2 : w4.cell? ⟨bb, 2, none⟩ = some (.int .i64 x2) := KB.cell 2
            have lb := KB.lt
            clear hw4 hbb hal KB T3' B3 c0 c1 c2 cu
            refine wp_region_N [3, 8, 14] [4, 9, 15] (fun w' => w'.cell? ⟨bb, 0, none⟩ = some (.int .i64 x0) ∧ w'.cell? ⟨bb, 1, none⟩ = some (.int .i64 x1) ∧ w'.cell? ⟨bb, 2, none⟩ = some (.int .i64 x2)) (by kernel_rfl) ?_
            have hS : w4.drew.cell? ⟨bb, 0, none⟩ = some (.int .i64 x0) ∧ w4.drew.cell? ⟨bb, 1, none⟩ = some (.int .i64 x1) ∧ w4.drew.cell? ⟨bb, 2, none⟩ = some (.int .i64 x2) := ⟨k0, k1, k2⟩
            have BD := Lib.hid (B4.out.trans ((below_drewN (Below.refl w4.heap.size w4) 1).mono B4.out.size))
            have TD := Lib.hid (show Tp w4.drew from T4.out.below (below_drewN (Below.refl w4.heap.size w4) 1))
            have lbd : bb < w4.drew.heap.size := lb
            clear T4 B4
            refine wpN_pure (i := 0) (v := ?_) rfl (by kernel_rfl) (by kernel_rfl) (by kernel_rfl) (by kernel_rfl) (fun _ _ _ h => h) (Or.inl ⟨by rfl, ?_⟩) (fun _ => hS) ?_
            rotate_left
            · ((intro w' hw'; (try dsimp only at hw'); go_simp) <;> with_reducible rfl)
            simp only [Act.put, List.setIfInBounds_toArray, List.set_cons_zero, List.set_cons_succ]
            refine wpN_pure (i := 1) (v := ?_) rfl (by kernel_rfl) (by kernel_rfl) (by kernel_rfl) (by kernel_rfl) (fun _ _ _ h => h) (Or.inl ⟨by rfl, ?_⟩) (fun _ => hS) ?_
            rotate_left
            · ((intro w' hw'; (try dsimp only at hw'); go_simp) <;> with_reducible rfl)
            simp only [Act.put, List.setIfInBounds_toArray, List.set_cons_zero, List.set_cons_succ]
            refine wpN_pure (i := 2) (v := ?_) rfl (by kernel_rfl) (by kernel_rfl) (by kernel_rfl) (by kernel_rfl) (fun _ _ _ h => h) (Or.inl ⟨by rfl, ?_⟩) (fun _ => hS) ?_
            rotate_left
            · ((intro w' hw'; (try dsimp only at hw'); go_simp) <;> with_reducible rfl)
            simp only [Act.put, List.setIfInBounds_toArray, List.set_cons_zero, List.set_cons_succ]
            refine wpN_read (i := 3) (v := ?_) rfl (by kernel_rfl) (by kernel_rfl) (by kernel_rfl) (by kernel_rfl) (by kernel_rfl) (fun _ _ _ h => h) (Or.inl ⟨by rfl, ?_⟩) hS ?_
            rotate_left
            · ((intro w' hw'; (try dsimp only at hw'); go_simp) <;> with_reducible rfl)
            simp only [Act.put, List.setIfInBounds_toArray, List.set_cons_zero, List.set_cons_succ]
            refine wpN_pure (i := 6) (v := ?_) rfl (by kernel_rfl) (by kernel_rfl) (by kernel_rfl) (by kernel_rfl) (fun _ _ _ h => h) (Or.inl ⟨by rfl, ?_⟩) (fun _ => hS) ?_
            rotate_left
            · ((intro w' hw'; (try dsimp only at hw'); go_simp) <;> with_reducible rfl)
            simp only [Act.put, List.setIfInBounds_toArray, List.set_cons_zero, List.set_cons_succ]
            refine wpN_pure (i := 7) (v := ?_) rfl (by kernel_rfl) (by kernel_rfl) (by kernel_rfl) (by kernel_rfl) (fun _ _ _ h => h) (Or.inl ⟨by rfl, ?_⟩) (fun _ => hS) ?_
            rotate_left
            · ((intro w' hw'; (try dsimp only at hw'); go_simp) <;> with_reducible rfl)
            simp only [Act.put, List.setIfInBounds_toArray, List.set_cons_zero, List.set_cons_succ]
            refine wpN_read (i := 8) (v := ?_) rfl (by kernel_rfl) (by kernel_rfl) (by kernel_rfl) (by kernel_rfl) (by kernel_rfl) (fun _ _ _ h => h) (Or.inl ⟨by rfl, ?_⟩) hS ?_
            rotate_left
            · ((intro w' hw'; (try dsimp only at hw'); go_simp) <;> with_reducible rfl)
            simp only [Act.put, List.setIfInBounds_toArray, List.set_cons_zero, List.set_cons_succ]
            refine wpN_pure (i := 12) (v := ?_) rfl (by kernel_rfl) (by kernel_rfl) (by kernel_rfl) (by kernel_rfl) (fun _ _ _ h => h) (Or.inl ⟨by rfl, ?_⟩) (fun _ => hS) ?_
            rotate_left
            · ((intro w' hw'; (try dsimp only at hw'); go_simp) <;> with_reducible rfl)
            simp only [Act.put, List.setIfInBounds_toArray, List.set_cons_zero, List.set_cons_succ]
            refine wpN_pure (i := 13) (v := ?_) rfl (by kernel_rfl) (by kernel_rfl) (by kernel_rfl) (by kernel_rfl) (fun _ _ _ h => h) (Or.inl ⟨by rfl, ?_⟩) (fun _ => hS) ?_
            rotate_left
            · ((intro w' hw'; (try dsimp only at hw'); go_simp) <;> with_reducible rfl)
            simp only [Act.put, List.setIfInBounds_toArray, List.set_cons_zero, List.set_cons_succ]
            refine wpN_read (i := 14) (v := ?_) rfl (by kernel_rfl) (by kernel_rfl) (by kernel_rfl) (by kernel_rfl) (by kernel_rfl) (fun _ _ _ h => h) (Or.inl ⟨by rfl, ?_⟩) hS ?_
            rotate_left
            · ((intro w' hw'; (try dsimp only at hw'); go_simp) <;> with_reducible rfl)
            simp only [Act.put, List.setIfInBounds_toArray, List.set_cons_zero, List.set_cons_succ]
            refine wpN_oneS (i := 4) rfl rfl (by kernel_rfl) (fun K hK => ?_)
            go_simp
            refine (IT0.out _ TD.out).mono ?_
            rintro e w5 ⟨rfl, hb5⟩
            have hS5 : w5.cell? ⟨bb, 0, none⟩ = some (.int .i64 x0) ∧ w5.cell? ⟨bb, 1, none⟩ = some (.int .i64 x1) ∧ w5.cell? ⟨bb, 2, none⟩ = some (.int .i64 x2) := ⟨(hb5.cell (p := ⟨bb, 0, none⟩) lbd).trans hS.1, (hb5.cell (p := ⟨bb, 1, none⟩) lbd).trans hS.2.1, (hb5.cell (p := ⟨bb, 2, none⟩) lbd).trans hS.2.2⟩
            refine ⟨hS5, hK.out _ _ hS5 ?_⟩
            clear hK K hS k0 k1 k2
            have hS := hS5
            have B5 := Lib.hid (BD.out.trans (hb5.mono BD.out.size))
            have T5 := Lib.hid (TD.out.below hb5)
            have lb5 : bb < w5.heap.size := Nat.lt_of_lt_of_le lbd hb5.size
            clear hS5 hb5 BD TD
            refine wpN_pure (i := 5) (v := ?_) rfl (by kernel_rfl) (by kernel_rfl) (by kernel_rfl) (by kernel_rfl) (fun _ _ _ h => h) (Or.inl ⟨by rfl, ?_⟩) (fun _ => hS) ?_
            rotate_left
            · ((intro w' hw'; (try dsimp only at hw'); go_simp) <;> with_reducible rfl)
            simp only [Act.put, List.setIfInBounds_toArray, List.set_cons_zero, List.set_cons_succ]
            refine wpN_oneS (i := 9) rfl rfl (by kernel_rfl) (fun K hK => ?_)
            go_simp
            refine (IT1.out _ T5.out).mono ?_
            rintro e w6 ⟨rfl, hb6⟩
            have hS6 : w6.cell? ⟨bb, 0, none⟩ = some (.int .i64 x0) ∧ w6.cell? ⟨bb, 1, none⟩ = some (.int .i64 x1) ∧ w6.cell? ⟨bb, 2, none⟩ = some (.int .i64 x2) := ⟨(hb6.cell (p := ⟨bb, 0, none⟩) lb5).trans hS.1, (hb6.cell (p := ⟨bb, 1, none⟩) lb5).trans hS.2.1, (hb6.cell (p := ⟨bb, 2, none⟩) lb5).trans hS.2.2⟩
            refine ⟨hS6, hK.out _ _ hS6 ?_⟩
            clear hK K hS
            have hS := hS6
            have B6 := Lib.hid (B5.out.trans (hb6.mono B5.out.size))
            have T6 := Lib.hid (T5.out.below hb6)
            clear hS6 hb6 B5 T5
            refine wpN_pure (i := 10) (v := ?_) rfl (by kernel_rfl) (by kernel_rfl) (by kernel_rfl) (by kernel_rfl) (fun _ _ _ h => h) (Or.inl ⟨by rfl, ?_⟩) (fun _ => hS) ?_
            rotate_left
            · ((intro w' hw'; (try dsimp only at hw'); go_simp) <;> with_reducible rfl)
            simp only [Act.put, List.setIfInBounds_toArray, List.set_cons_zero, List.set_cons_succ]
            refine wpN_pure (i := 11) (v := ?_) rfl (by kernel_rfl) (by kernel_rfl) (by kernel_rfl) (by kernel_rfl) (fun _ _ _ h => h) (Or.inl ⟨by rfl, ?_⟩) (fun _ => hS) ?_
            rotate_left
            · ((intro w' hw'; (try dsimp only at hw'); go_simp) <;> with_reducible rfl)
            simp only [Act.put, List.setIfInBounds_toArray, List.set_cons_zero, List.set_cons_succ]
            refine wpN_one (i := 15) rfl rfl (by kernel_rfl) (by kernel_rfl) (fun K hK => ?_)
            go_simp
            refine (IT2.out _ T6.out).mono ?_
            rintro e w7 ⟨rfl, hb7⟩
            refine hK.out _ _ ?_
            clear hK K hS
            have B7 := Lib.hid (B6.out.trans (hb7.mono B6.out.size))
            clear hb7 B6 T6
            refine wpN_pure (i := 16) (v := ?_) rfl (by kernel_rfl) (by kernel_rfl) (by kernel_rfl) (by kernel_rfl) (fun _ _ _ h => h) (Or.inl ⟨by rfl, ?_⟩) (fun h => Bool.noConfusion (h.symm.trans (show _ = false by kernel_rfl))) ?_
            rotate_left
            · ((intro w' hw'; (try dsimp only at hw'); go_simp) <;> with_reducible rfl)
            simp only [Act.put, List.setIfInBounds_toArray, List.set_cons_zero, List.set_cons_succ]
            refine wpN_pure (i := 17) (v := ?_) rfl (by kernel_rfl) (by kernel_rfl) (by kernel_rfl) (by kernel_rfl) (fun _ _ _ h => h) (Or.inl ⟨by rfl, ?_⟩) (fun h => Bool.noConfusion (h.symm.trans (show _ = false by kernel_rfl))) ?_
            rotate_left
            · ((intro w' hw'; (try dsimp only at hw'); go_simp) <;> with_reducible rfl)
            simp only [Act.put, List.setIfInBounds_toArray, List.set_cons_zero, List.set_cons_succ]
            refine wpN_pure (i := 18) (v := ?_) rfl (by kernel_rfl) (by kernel_rfl) (by kernel_rfl) (by kernel_rfl) (fun _ _ _ h => h) (Or.inl ⟨by rfl, ?_⟩) (fun h => Bool.noConfusion (h.symm.trans (show _ = false by kernel_rfl))) ?_
            rotate_left
            · ((intro w' hw'; (try dsimp only at hw'); go_simp) <;> with_reducible rfl)
            simp only [Act.put, List.setIfInBounds_toArray, List.set_cons_zero, List.set_cons_succ]
            refine wpN_done (by kernel_rfl) ?_
            go_wp2
            go_roundw
            case rel => exact ⟨j + 1, by omega, by go_num, by rw [TE.out, HPR.out], B7.out⟩
            case measure => simp [intOf] <;> omega
          · have HPR := Lib.hid (show (pt ++ jt ++ ⟨#[32]⟩) ++ tb = pt ++ jB ((l.take (j + 1)).map tI) from by
              rw [TS.out, if_neg h0]; simp only [ByteArray.append_assoc])
            have hjp : 0 < j := by omega
            have f6 : ¬ 9223372036854775807 < pt.size + jt.size + 1 := by omega
            have hps : (pt ++ jt ++ (⟨#[32]⟩ : ByteArray)).size = pt.size + jt.size + 1 := by simp only [ByteArray.size_append]; rfl
            clear h0
            go_wp2
            generalize pt ++ jt ++ (⟨#[32]⟩ : ByteArray) = pre at *
            have f5 : ¬ 9223372036854775807 < pre.size + (s0.size + 1 + s1.size + 1 + s2.size) := by omega
            clear hps f6
            have hal := (Below.refl wr.heap.size wr).alloc (Nat.le_refl _) (.cells #[.int .i64 x0, .int .i64 x1, .int .i64 x2] 108)
            have KB := Blk.new wr 108 #[.int .i64 x0, .int .i64 x1, .int .i64 x2]
            have T4 := Lib.hid (T3'.out.below hal)
            have B4 := Lib.hid (B3.out.trans (hal.mono hs3))
            obtain ⟨w4, hw4⟩ : ∃ w4, w4 = wr.alloc (.cells #[.int .i64 x0, .int .i64 x1, .int .i64 x2] 108) := ⟨_, rfl⟩
            obtain ⟨bb, hbb⟩ : ∃ bb, bb = wr.heap.size := ⟨_, rfl⟩
            rw [← hw4, ← hbb] at KB
            rw [← hw4] at T4 B4
            rw [← hw4, ← hbb]
            have k0 : w4.cell? ⟨bb, 0, none⟩ = some (.int .i64 x0) := KB.cell 0
            have k1 : w4.cell? ⟨bb, 1, none⟩ = some (.int .i64 x1) := KB.cell 1
            have k2 : w4.cell? ⟨bb, 2, none⟩ = some (.int .i64 x2) := KB.cell 2
            have lb := KB.lt
            clear hw4 hbb hal KB T3' B3 c0 c1 c2 cu
            refine wp_region_N [3, 8, 14] [4, 9, 15] (fun w' => w'.cell? ⟨bb, 0, none⟩ = some (.int .i64 x0) ∧ w'.cell? ⟨bb, 1, none⟩ = some (.int .i64 x1) ∧ w'.cell? ⟨bb, 2, none⟩ = some (.int .i64 x2)) (by kernel_rfl) ?_
            have hS : w4.drew.cell? ⟨bb, 0, none⟩ = some (.int .i64 x0) ∧ w4.drew.cell? ⟨bb, 1, none⟩ = some (.int .i64 x1) ∧ w4.drew.cell? ⟨bb, 2, none⟩ = some (.int .i64 x2) := ⟨k0, k1, k2⟩
            have BD := Lib.hid (B4.out.trans ((below_drewN (Below.refl w4.heap.size w4) 1).mono B4.out.size))
            have TD := Lib.hid (show Tp w4.drew from T4.out.below (below_drewN (Below.refl w4.heap.size w4) 1))
            have lbd : bb < w4.drew.heap.size := lb
            clear T4 B4
            refine wpN_pure (i := 0) (v := ?_) rfl (by kernel_rfl) (by kernel_rfl) (by kernel_rfl) (by kernel_rfl) (fun _ _ _ h => h) (Or.inl ⟨by rfl, ?_⟩) (fun _ => hS) ?_
            rotate_left
            · ((intro w' hw'; (try dsimp only at hw'); go_simp) <;> with_reducible rfl)
            simp only [Act.put, List.setIfInBounds_toArray, List.set_cons_zero, List.set_cons_succ]
            refine wpN_pure (i := 1) (v := ?_) rfl (by kernel_rfl) (by kernel_rfl) (by kernel_rfl) (by kernel_rfl) (fun _ _ _ h => h) (Or.inl ⟨by rfl, ?_⟩) (fun _ => hS) ?_
            rotate_left
            · ((intro w' hw'; (try dsimp only at hw'); go_simp) <;> with_reducible rfl)
            simp only [Act.put, List.setIfInBounds_toArray, List.set_cons_zero, List.set_cons_succ]
            refine wpN_pure (i := 2) (v := ?_) rfl (by kernel_rfl) (by kernel_rfl) (by kernel_rfl) (by kernel_rfl) (fun _ _ _ h => h) (Or.inl ⟨by rfl, ?_⟩) (fun _ => hS) ?_
            rotate_left
            · ((intro w' hw'; (try dsimp only at hw'); go_simp) <;> with_reducible rfl)
            simp only [Act.put, List.setIfInBounds_toArray, List.set_cons_zero, List.set_cons_succ]
            refine wpN_read (i := 3) (v := ?_) rfl (by kernel_rfl) (by kernel_rfl) (by kernel_rfl) (by kernel_rfl) (by kernel_rfl) (fun _ _ _ h => h) (Or.inl ⟨by rfl, ?_⟩) hS ?_
            rotate_left
            · ((intro w' hw'; (try dsimp only at hw'); go_simp) <;> with_reducible rfl)
            simp only [Act.put, List.setIfInBounds_toArray, List.set_cons_zero, List.set_cons_succ]
            refine wpN_pure (i := 6) (v := ?_) rfl (by kernel_rfl) (by kernel_rfl) (by kernel_rfl) (by kernel_rfl) (fun _ _ _ h => h) (Or.inl ⟨by rfl, ?_⟩) (fun _ => hS) ?_
            rotate_left
            · ((intro w' hw'; (try dsimp only at hw'); go_simp) <;> with_reducible rfl)
            simp only [Act.put, List.setIfInBounds_toArray, List.set_cons_zero, List.set_cons_succ]
            refine wpN_pure (i := 7) (v := ?_) rfl (by kernel_rfl) (by kernel_rfl) (by kernel_rfl) (by kernel_rfl) (fun _ _ _ h => h) (Or.inl ⟨by rfl, ?_⟩) (fun _ => hS) ?_
            rotate_left
            · ((intro w' hw'; (try dsimp only at hw'); go_simp) <;> with_reducible rfl)
            simp only [Act.put, List.setIfInBounds_toArray, List.set_cons_zero, List.set_cons_succ]
            refine wpN_read (i := 8) (v := ?_) rfl (by kernel_rfl) (by kernel_rfl) (by kernel_rfl) (by kernel_rfl) (by kernel_rfl) (fun _ _ _ h => h) (Or.inl ⟨by rfl, ?_⟩) hS ?_
            rotate_left
            · ((intro w' hw'; (try dsimp only at hw'); go_simp) <;> with_reducible rfl)
            simp only [Act.put, List.setIfInBounds_toArray, List.set_cons_zero, List.set_cons_succ]
            refine wpN_pure (i := 12) (v := ?_) rfl (by kernel_rfl) (by kernel_rfl) (by kernel_rfl) (by kernel_rfl) (fun _ _ _ h => h) (Or.inl ⟨by rfl, ?_⟩) (fun _ => hS) ?_
            rotate_left
            · ((intro w' hw'; (try dsimp only at hw'); go_simp) <;> with_reducible rfl)
            simp only [Act.put, List.setIfInBounds_toArray, List.set_cons_zero, List.set_cons_succ]
            refine wpN_pure (i := 13) (v := ?_) rfl (by kernel_rfl) (by kernel_rfl) (by kernel_rfl) (by kernel_rfl) (fun _ _ _ h => h) (Or.inl ⟨by rfl, ?_⟩) (fun _ => hS) ?_
            rotate_left
            · ((intro w' hw'; (try dsimp only at hw'); go_simp) <;> with_reducible rfl)
            simp only [Act.put, List.setIfInBounds_toArray, List.set_cons_zero, List.set_cons_succ]
            refine wpN_read (i := 14) (v := ?_) rfl (by kernel_rfl) (by kernel_rfl) (by kernel_rfl) (by kernel_rfl) (by kernel_rfl) (fun _ _ _ h => h) (Or.inl ⟨by rfl, ?_⟩) hS ?_
            rotate_left
            · ((intro w' hw'; (try dsimp only at hw'); go_simp) <;> with_reducible rfl)
            simp only [Act.put, List.setIfInBounds_toArray, List.set_cons_zero, List.set_cons_succ]
            refine wpN_oneS (i := 4) rfl rfl (by kernel_rfl) (fun K hK => ?_)
            go_simp
            refine (IT0.out _ TD.out).mono ?_
            rintro e w5 ⟨rfl, hb5⟩
            have hS5 : w5.cell? ⟨bb, 0, none⟩ = some (.int .i64 x0) ∧ w5.cell? ⟨bb, 1, none⟩ = some (.int .i64 x1) ∧ w5.cell? ⟨bb, 2, none⟩ = some (.int .i64 x2) := ⟨(hb5.cell (p := ⟨bb, 0, none⟩) lbd).trans hS.1, (hb5.cell (p := ⟨bb, 1, none⟩) lbd).trans hS.2.1, (hb5.cell (p := ⟨bb, 2, none⟩) lbd).trans hS.2.2⟩
            refine ⟨hS5, hK.out _ _ hS5 ?_⟩
            clear hK K hS k0 k1 k2
            have hS := hS5
            have B5 := Lib.hid (BD.out.trans (hb5.mono BD.out.size))
            have T5 := Lib.hid (TD.out.below hb5)
            have lb5 : bb < w5.heap.size := Nat.lt_of_lt_of_le lbd hb5.size
            clear hS5 hb5 BD TD
            refine wpN_pure (i := 5) (v := ?_) rfl (by kernel_rfl) (by kernel_rfl) (by kernel_rfl) (by kernel_rfl) (fun _ _ _ h => h) (Or.inl ⟨by rfl, ?_⟩) (fun _ => hS) ?_
            rotate_left
            · ((intro w' hw'; (try dsimp only at hw'); go_simp) <;> with_reducible rfl)
            simp only [Act.put, List.setIfInBounds_toArray, List.set_cons_zero, List.set_cons_succ]
            refine wpN_oneS (i := 9) rfl rfl (by kernel_rfl) (fun K hK => ?_)
            go_simp
            refine (IT1.out _ T5.out).mono ?_
            rintro e w6 ⟨rfl, hb6⟩
            have hS6 : w6.cell? ⟨bb, 0, none⟩ = some (.int .i64 x0) ∧ w6.cell? ⟨bb, 1, none⟩ = some (.int .i64 x1) ∧ w6.cell? ⟨bb, 2, none⟩ = some (.int .i64 x2) := ⟨(hb6.cell (p := ⟨bb, 0, none⟩) lb5).trans hS.1, (hb6.cell (p := ⟨bb, 1, none⟩) lb5).trans hS.2.1, (hb6.cell (p := ⟨bb, 2, none⟩) lb5).trans hS.2.2⟩
            refine ⟨hS6, hK.out _ _ hS6 ?_⟩
            clear hK K hS
            have hS := hS6
            have B6 := Lib.hid (B5.out.trans (hb6.mono B5.out.size))
            have T6 := Lib.hid (T5.out.below hb6)
            clear hS6 hb6 B5 T5
            refine wpN_pure (i := 10) (v := ?_) rfl (by kernel_rfl) (by kernel_rfl) (by kernel_rfl) (by kernel_rfl) (fun _ _ _ h => h) (Or.inl ⟨by rfl, ?_⟩) (fun _ => hS) ?_
            rotate_left
            · ((intro w' hw'; (try dsimp only at hw'); go_simp) <;> with_reducible rfl)
            simp only [Act.put, List.setIfInBounds_toArray, List.set_cons_zero, List.set_cons_succ]
            refine wpN_pure (i := 11) (v := ?_) rfl (by kernel_rfl) (by kernel_rfl) (by kernel_rfl) (by kernel_rfl) (fun _ _ _ h => h) (Or.inl ⟨by rfl, ?_⟩) (fun _ => hS) ?_
            rotate_left
            · ((intro w' hw'; (try dsimp only at hw'); go_simp) <;> with_reducible rfl)
            simp only [Act.put, List.setIfInBounds_toArray, List.set_cons_zero, List.set_cons_succ]
            refine wpN_one (i := 15) rfl rfl (by kernel_rfl) (by kernel_rfl) (fun K hK => ?_)
            go_simp
            refine (IT2.out _ T6.out).mono ?_
            rintro e w7 ⟨rfl, hb7⟩
            refine hK.out _ _ ?_
            clear hK K hS
            have B7 := Lib.hid (B6.out.trans (hb7.mono B6.out.size))
            clear hb7 B6 T6
            refine wpN_pure (i := 16) (v := ?_) rfl (by kernel_rfl) (by kernel_rfl) (by kernel_rfl) (by kernel_rfl) (fun _ _ _ h => h) (Or.inl ⟨by rfl, ?_⟩) (fun h => Bool.noConfusion (h.symm.trans (show _ = false by kernel_rfl))) ?_
            rotate_left
            · ((intro w' hw'; (try dsimp only at hw'); go_simp) <;> with_reducible rfl)
            simp only [Act.put, List.setIfInBounds_toArray, List.set_cons_zero, List.set_cons_succ]
            refine wpN_pure (i := 17) (v := ?_) rfl (by kernel_rfl) (by kernel_rfl) (by kernel_rfl) (by kernel_rfl) (fun _ _ _ h => h) (Or.inl ⟨by rfl, ?_⟩) (fun h => Bool.noConfusion (h.symm.trans (show _ = false by kernel_rfl))) ?_
            rotate_left
            · ((intro w' hw'; (try dsimp only at hw'); go_simp) <;> with_reducible rfl)
            simp only [Act.put, List.setIfInBounds_toArray, List.set_cons_zero, List.set_cons_succ]
            refine wpN_pure (i := 18) (v := ?_) rfl (by kernel_rfl) (by kernel_rfl) (by kernel_rfl) (by kernel_rfl) (fun _ _ _ h => h) (Or.inl ⟨by rfl, ?_⟩) (fun h => Bool.noConfusion (h.symm.trans (show _ = false by kernel_rfl))) ?_
            rotate_left
            · ((intro w' hw'; (try dsimp only at hw'); go_simp) <;> with_reducible rfl)
            simp only [Act.put, List.setIfInBounds_toArray, List.set_cons_zero, List.set_cons_succ]
            refine wpN_done (by kernel_rfl) ?_
            go_wp2
            go_roundw
            case rel => exact ⟨j + 1, by omega, by go_num, by rw [TE.out, HPR.out], B7.out⟩
            case measure => simp [intOf] <;> omega
        · obtain rfl : l.length = j := by omega
          have htk : l.take l.length = l := List.take_length
          have hq := HQ.out l.length (Nat.le_refl _)
          rw [htk] at hq
          have B6 := Lib.hid (HB.out.trans (B3.out.mono hwsz))
          have PSm2 := Lib.hid (show pt ++ jB ((l.take l.length).map tI) ++ ⟨#[10]⟩ = pI ll (m + 1) from by rw [← PSm.out, htk]; simp only [ByteArray.append_assoc])
          rw [htk] at PSm2 ⊢
          generalize jB (l.map tI) = jt at *
          have f2 : ¬ 9223372036854775807 < pt.size + jt.size + 1 := by omega
          clear htk hq
          go_wp2
          go_roundw
          case rel => exact ⟨m + 1, by omega, by go_num, by rw [PSm2.out], B6.out⟩
          case measure => simp [intOf] <;> omega
    · obtain rfl : ll.length = m := by omega
      go_wp2
      go_ret
      exact ⟨rfl, HB.out⟩
end Go.Proofs.YtdhmmllpldjkbaaGreatDoor.Gm
