/- goldref.GreatProduct. -/
import Derived.Test.YtdhmmllpldjkbaaGreatDoorBr
import Derived.Test.YtdhmmllpldjkbaaGreatDoorBgp
import Derived.Laws.IdiomStrings
import Derived.StillTailTactics
namespace Go.Proofs.YtdhmmllpldjkbaaGreatDoor.Gm
open Go.RowKit
set_option linter.unusedVariables false
theorem info_u8q : (Tryz.prog.info? 5).map (fun i => (i.zero, i.size, i.bytes)) = some (some (.int .u8 0), 1, 1) := by kernel_rfl
theorem wl_make_u8 {ops : Array Oper} {rest : List Oper} {o : Oper} {a : Act} {Q : Exit → Act → World → Prop} (w : World) (hgd : o.guard = none) (l c : Operand)
    (ho : o.op = Op.makeSlice 30 l c) (B : Nat) (L C : Int) (n : Nat) (W : World) (hl : a.eval l = .int .i64 L) (hc : a.eval c = .int .i64 C) (hL : L = (n : Int)) (hC : C = (n : Int))
    (hn : n ≤ 1000000) (hbel : Below B W w) (hB : B ≤ w.heap.size)
    (h : ∀ g w', Hid (g = w.heap.size) → Oz .u8 5 B w' (.slice (some ⟨g, 0, none⟩) n n) (List.replicate n 0) → Below B W w' → wpList Tryz.prog ops Q rest (a.put o.dst (.slice (some ⟨g, 0, none⟩) n n)) w') :
    wpList Tryz.prog ops Q (o :: rest) a w := by
  refine wl_makeV 5 30 (.int .u8 0) 1 Tryz.underlying30 info_u8q rfl (by decide) w hgd l c ho B L C n W hl hc hL hC hn hbel hB fun g w' h0 h1 h2 => h g w' h0 ?_ h2
  unfold Oz
  rw [List.length_replicate, List.map_replicate]
  exact h1
theorem nz_set (L : List Nat) (p z : Nat) : (nz L).set p (z : Int) = nz (L.set p z) := by
  unfold nz; rw [List.map_set]
theorem rep_nz (n : Nat) : List.replicate n (0 : Int) = nz (List.replicate n 0) := by
  unfold nz; rw [List.map_replicate]; rfl
theorem rep_at0 (n q : Nat) : at0 (List.replicate n 0) q = 0 := by
  rcases Nat.lt_or_ge q n with h | h
  · rw [at0_lt (by simpa using h)]; simp
  · exact at0_out (by simpa using h)
def GqR (A B : List UInt8) (n g i : Nat) (w : World) (v7 : Value) (wr : World) : Prop :=
  ∃ (j : Nat) (L : List Nat), j ≤ B.length ∧ v7 = .int .i64 j ∧ L.length = n ∧ hv L = gP A B i j ∧ (∀ q, at0 L q ≤ 81 * (2000 * i + j)) ∧ Oz .i64 3 w.heap.size wr (.slice (some ⟨g, 0, none⟩) n n) (nz L) ∧ Below w.heap.size w wr
def GpR (A B : List UInt8) (n g : Nat) (w : World) (v6 : Value) (wr : World) : Prop :=
  ∃ (i : Nat) (L : List Nat), i ≤ A.length ∧ v6 = .int .i64 i ∧ L.length = n ∧ hv L = nv (A.take i) * nv B * 10 ^ (A.length - i) ∧ (∀ q, at0 L q ≤ 81 * (2000 * i)) ∧ Oz .i64 3 w.heap.size wr (.slice (some ⟨g, 0, none⟩) n n) (nz L) ∧ Below w.heap.size w wr
def GcR (P n g : Nat) (w : World) (v8 : Value) (wr : World) : Prop :=
  ∃ (k : Nat) (L : List Nat), k < n ∧ v8 = .int .i64 k ∧ L.length = n ∧ hv L = P ∧ (∀ q, k < q → at0 L q < 10) ∧ (∀ q, q < k → at0 L q ≤ 324000000) ∧ at0 L k ≤ 648000000 ∧ Oz .i64 3 w.heap.size wr (.slice (some ⟨g, 0, none⟩) n n) (nz L) ∧ Below w.heap.size w wr
def GoR (L : List Nat) (n g : Nat) (w : World) (v10 : Value) (wr : World) : Prop :=
  ∃ k : Nat, k ≤ n ∧ v10 = .int .i64 k ∧ Oz .u8 5 w.heap.size wr (.slice (some ⟨g, 0, none⟩) n n) (nz (oL (fun j => if j < k then at0 L j + 48 else 0) n)) ∧ Below w.heap.size w wr
def GtR (D : List UInt8) (n g : Nat) (w : World) (v9 : Value) (wr : World) : Prop :=
  ∃ m : Nat, m < n ∧ v9 = .slice (some ⟨g, m, none⟩) (n - m) (n - m) ∧ tz0 (D.drop m) = tz0 D ∧ wr = w
def lenOf : Value → Nat
  | .slice _ n _ => n
  | _ => 0
set_option maxHeartbeats 8000000 in
set_option maxRecDepth 100000 in
theorem gprod_ok (s t : ByteArray) (hs : Cn (bl s)) (ht : Cn (bl t)) (l1 : s.size ≤ 2000) (l2 : t.size ≤ 2000) (w : World) :
    Calls Tryz.prog 46 #[.string s, .string t] w fun e w' => ∃ u : ByteArray, e = .returned (.string u) ∧ Cn (bl u) ∧ nv (bl u) = nv (bl s) * nv (bl t) ∧ Below w.heap.size w w' := by
  have HS := Lib.hid hs
  have HT := Lib.hid ht
  have E1 := Lib.hid (bl_len s)
  have E2 := Lib.hid (bl_len t)
  have p1 : 0 < s.size := by rw [← bl_len]; exact List.length_pos_iff.2 hs.1
  have p2 : 0 < t.size := by rw [← bl_len]; exact List.length_pos_iff.2 ht.1
  clear hs ht
  obtain ⟨P, hP⟩ : ∃ P, P = nv (bl s) * nv (bl t) := ⟨_, rfl⟩
  rw [← hP]
  have HPp := Lib.hid hP
  clear hP
  obtain ⟨n, hn⟩ : ∃ n, n = s.size + t.size := ⟨_, rfl⟩
  have en : (s.size : Int) + (t.size : Int) = (n : Int) := by omega
  have hn2 : n ≤ 4000 := by omega
  have hn3 : 2 ≤ n := by omega
  have HN := Lib.hid hn
  clear hn
  go_enter Tryz.func46, Tryz.ntmps46
  go_wp2_with (refine wl_make_int _ rfl (.tmp 15) (.tmp 15) rfl w.heap.size (n : Int) (n : Int) n w rfl rfl rfl rfl (by omega) (Below.refl _ _) (Nat.le_refl _) ?_)
  intro g w1 _ ho hb
  rw [rep_nz] at ho
  have O1 := Lib.hid ho
  have B1 := Lib.hid hb
  clear ho hb
  go_wp2
  go_loopw [6, 7] (fun v6 _ wr => GpR (bl s) (bl t) n g w v6 wr) (fun i _ _ => s.size - (intOf i).toNat)
  case atStart => exact ⟨0, _, by omega, rfl, by simp, by rw [hv_rep, List.take_zero, show nv [] = 0 from rfl]; simp, fun q => by rw [rep_at0]; omega, O1.out, B1.out⟩
  case round =>
    obtain ⟨i, L, hi, rfl, hL, hhv, hbd, ho, hb⟩ := hrel
    rw [E1.out] at hi
    have LL := Lib.hid hL
    have HV := Lib.hid hhv
    have BD := Lib.hid hbd
    have O2 := Lib.hid ho
    have B2 := Lib.hid hb
    clear hL hhv hbd ho hb
    by_cases hil : i < s.size
    · have g1 : decide ((i : Int) < (s.size : Int)) = true := decide_eq_true (by omega)
      have g2 : decide (i < s.size) = true := decide_eq_true hil
      obtain ⟨da1, hda1, hba, hdga⟩ := dg_bn HS.out.2.1 hil
      have IXA := ix_str hil
      obtain ⟨cA, hcA⟩ : ∃ cA, cA = da1 + 48 := ⟨_, rfl⟩
      rw [hba, ← hcA] at IXA
      have eA1 : IntKind.i64.wrap (cA : Int) = (cA : Int) := IntWalk.i64_in _ (by omega)
      have eA2 : IntKind.i64.wrap ((cA : Int) - 48) = (da1 : Int) := by rw [IntWalk.i64_in _ (by omega)]; omega
      have HDA := Lib.hid hdga
      clear hba hdga hcA
      go_wp2
      go_loopw [7] (fun v7 wr => GqR (bl s) (bl t) n g i w v7 wr) (fun j _ => t.size - (intOf j).toNat)
      case atStart => exact ⟨0, L, by omega, rfl, LL.out, by rw [HV.out, gP_zero], fun q => by have := BD.out q; omega, O2.out, B2.out⟩
      case round =>
        obtain ⟨j, L, hj, rfl, hL, hhv, hbd, ho, hb⟩ := hrel
        rw [E2.out] at hj
        clear LL HV BD O2 B2
        have LL := Lib.hid hL
        have HV := Lib.hid hhv
        have BD := Lib.hid hbd
        have O2 := Lib.hid ho
        have B2 := Lib.hid hb
        clear hL hhv hbd ho hb
        by_cases hjl : j < t.size
        · have g3 : decide ((j : Int) < (t.size : Int)) = true := decide_eq_true (by omega)
          have g4 : decide (j < t.size) = true := decide_eq_true hjl
          obtain ⟨db1, hdb1, hbb, hdgb⟩ := dg_bn HT.out.2.1 hjl
          have IXB := ix_str hjl
          obtain ⟨cB, hcB⟩ : ∃ cB, cB = db1 + 48 := ⟨_, rfl⟩
          rw [hbb, ← hcB] at IXB
          have eB1 : IntKind.i64.wrap (cB : Int) = (cB : Int) := IntWalk.i64_in _ (by omega)
          have eB2 : IntKind.i64.wrap ((cB : Int) - 48) = (db1 : Int) := by rw [IntWalk.i64_in _ (by omega)]; omega
          obtain ⟨p, hp⟩ : ∃ p, p = i + j + 1 := ⟨_, rfl⟩
          have hpn : p < n := by have := HN.out; omega
          obtain ⟨q0, hq0⟩ : ∃ q0, q0 = i + j := ⟨_, rfl⟩
          have ep1 : IntKind.i64.wrap ((i : Int) + (j : Int)) = (q0 : Int) := by rw [IntWalk.i64_in _ (by omega)]; omega
          have ep2 : IntKind.i64.wrap ((q0 : Int) + 1) = (p : Int) := by rw [IntWalk.i64_in _ (by omega)]; omega
          have hx := BD.out p
          have NV := Lib.hid (show hv (L.set p (at0 L p + da1 * db1)) = gP (bl s) (bl t) i (j + 1) from by
            rw [hv_add L p _ (by rw [LL.out]; exact hpn), HV.out, gP_step _ _ (by rw [E1.out]; exact hil) (by rw [E2.out]; exact hjl), HDA.out, hdgb, LL.out, E1.out, E2.out, ← HN.out, hp])
          have hdd : da1 * db1 ≤ 9 * 9 := Nat.mul_le_mul (by omega) (by omega)
          have NB := Lib.hid (show ∀ q, at0 (L.set p (at0 L p + da1 * db1)) q ≤ 81 * (2000 * i + (j + 1)) from fun q => by
            rw [at0_set _ _ _ _ (by rw [LL.out]; exact hpn)]
            split
            · omega
            · have := BD.out q; omega)
          have c0 : wr.cell? ⟨g, p, none⟩ = some (.int .i64 (at0 L p : Int)) := by
            have := O2.out.cell (i := p) (by rw [nz_len, LL.out]; exact hpn)
            rw [nz_gd (by rw [LL.out]; exact hpn)] at this
            exact this
          have c0z : wr.cell? ⟨g, 0 + p, none⟩ = some (.int .i64 (at0 L p : Int)) := by rw [Nat.zero_add]; exact c0
          have hln : (nz L).length = n := by rw [nz_len, LL.out]
          have LN := Lib.hid (show (L.set p (at0 L p + da1 * db1)).length = n by rw [List.length_set, LL.out])
          have SE := Lib.hid (nz_set L p (at0 L p + da1 * db1))
          obtain ⟨x, hxx⟩ : ∃ x, x = at0 L p := ⟨_, rfl⟩
          obtain ⟨y, hy⟩ : ∃ y, y = da1 * db1 := ⟨_, rfl⟩
          have ey : IntKind.i64.wrap ((da1 : Int) * (db1 : Int)) = (y : Int) := by
            rw [hy, ← Int.natCast_mul]; exact IntWalk.i64_in _ (by omega)
          rw [← hy, ← hxx] at NV NB LN SE
          rw [← hy] at hdd
          rw [← hxx] at c0 c0z hx
          obtain ⟨z, hz⟩ : ∃ z, z = x + y := ⟨_, rfl⟩
          have ez : IntKind.i64.wrap ((x : Int) + (y : Int)) = (z : Int) := by
            rw [hz, IntWalk.i64_in _ (by omega)]; omega
          rw [← hz] at NV NB LN SE
          clear hy hbb hdgb hp hq0 hcB hxx hz hx hdd
          go_wp2_with fail
          go_still_tail 20, (by kernel_rfl)
          repeat still_step
          try refine wpStill_nil ?_
          change wpList _ _ _ _ _ wr.drew
          go_wp2_with (refine wl_storeZ .i64 3 _ rfl (.tmp 48) (.tmp 47) (fun _ => rfl) rfl w.heap.size g p n n (nz L) (z : Int) w rfl rfl (O2.out.below (below_drewN (Below.refl _ _) 1)) hln hpn (below_drewN B2.out 1) ?_)
          intro w3 h1 h2 _
          rw [SE.out] at h1
          have O3 := Lib.hid h1
          have B3 := Lib.hid h2
          clear h1 h2 SE O2 B2 c0 c0z
          go_wp2
          go_roundw
          case rel => exact ⟨j + 1, _, by rw [E2.out]; omega, by go_num, LN.out, NV.out, NB.out, O3.out, B3.out⟩
          case measure => simp [intOf] <;> omega
        · obtain rfl : t.size = j := by omega
          have g3 : decide ((t.size : Int) < (t.size : Int)) = false := decide_eq_false (by omega)
          have NV := Lib.hid (show hv L = nv ((bl s).take (i + 1)) * nv (bl t) * 10 ^ ((bl s).length - (i + 1)) from by
            rw [HV.out, ← E2.out, gP_end _ _ (by rw [E1.out]; exact hil)])
          have NB := Lib.hid (show ∀ q, at0 L q ≤ 81 * (2000 * (i + 1)) from fun q => by have := BD.out q; omega)
          go_wp2
          go_roundw
          case rel => exact ⟨i + 1, L, by rw [E1.out]; omega, by go_num, LL.out, NV.out, NB.out, O2.out, B2.out⟩
          case measure => simp [intOf] <;> omega
    · obtain rfl : s.size = i := by omega
      have g1 : decide ((s.size : Int) < (s.size : Int)) = false := decide_eq_false (by omega)
      have PV := Lib.hid (show hv L = P from by rw [HV.out, ← E1.out, gP_all, ← HPp.out])
      have PB := Lib.hid (show ∀ q, at0 L q ≤ 324000000 from fun q => by have := BD.out q; omega)
      have PL := Lib.hid (show P < 10 ^ n from by
        rw [HPp.out]
        have h1 := nv_lt HS.out.2.1
        have h2 := nv_lt HT.out.2.1
        rw [E1.out] at h1
        rw [E2.out] at h2
        rw [HN.out, Nat.pow_add]
        exact Nat.mul_lt_mul'' h1 h2)
      have hln : (nz L).length = n := by rw [nz_len, LL.out]
      have en1 : (n : Int) - 1 = ((n - 1 : Nat) : Int) := by omega
      clear HV BD HS HT HPp
      go_wp2
      go_loopw [8] (fun v8 wr => GcR P n g w v8 wr) (fun i _ => (intOf i).toNat)
      case atStart => exact ⟨n - 1, L, by omega, by rw [← en1], LL.out, PV.out, fun q hq => by rw [at0_out (by rw [LL.out]; omega)]; omega, fun q _ => PB.out q, by have := PB.out (n - 1); omega, O2.out, B2.out⟩
      case round =>
        obtain ⟨k, L, hk, rfl, hL, hhv, hb1, hb2, hb3, ho, hb⟩ := hrel
        clear LL PV PB O2 B2 hln
        have LL := Lib.hid hL
        have PV := Lib.hid hhv
        have Q1 := Lib.hid hb1
        have Q2 := Lib.hid hb2
        have O2 := Lib.hid ho
        have B2 := Lib.hid hb
        have hln : (nz L).length = n := by rw [nz_len, hL]
        clear hL hhv hb1 hb2 ho hb
        by_cases hk0 : 0 < k
        · have g1 : decide ((0 : Int) < (k : Int)) = true := decide_eq_true (by omega)
          have g2 : decide (0 < k) = true := decide_eq_true hk0
          obtain ⟨j, hj⟩ : ∃ j, j = k - 1 := ⟨_, rfl⟩
          have ej : IntKind.i64.wrap ((k : Int) - 1) = (j : Int) := by rw [IntWalk.i64_in _ (by omega)]; omega
          have hjn : j < n := by omega
          have cj : wr.cell? ⟨g, j, none⟩ = some (.int .i64 (at0 L j : Int)) := by
            have := O2.out.cell (i := j) (by rw [nz_len, LL.out]; exact hjn)
            rw [nz_gd (by rw [LL.out]; exact hjn)] at this
            exact this
          have ck : wr.cell? ⟨g, k, none⟩ = some (.int .i64 (at0 L k : Int)) := by
            have := O2.out.cell (i := k) (by rw [nz_len, LL.out]; exact hk)
            rw [nz_gd (by rw [LL.out]; exact hk)] at this
            exact this
          have hxj := Q2.out j (by omega)
          have CV := Lib.hid (show hv (car L k) = P by rw [car_hv L k hk0 (by rw [LL.out]; exact hk), PV.out])
          have CL := Lib.hid (show (car L k).length = n by rw [car_len, LL.out])
          have CA := Lib.hid (fun q => car_at L k q hk0 (by rw [LL.out]; exact hk))
          have CD : car L k = (L.set j (at0 L j + at0 L k / 10)).set k (at0 L k % 10) := by unfold car; rw [hj]
          have CE : at0 (L.set j (at0 L j + at0 L k / 10)) k = at0 L k := by rw [at0_set _ _ _ _ (by rw [LL.out]; exact hjn), if_neg (by omega)]
          obtain ⟨x, hx⟩ : ∃ x, x = at0 L j := ⟨_, rfl⟩
          obtain ⟨y, hy⟩ : ∃ y, y = at0 L k := ⟨_, rfl⟩
          rw [← hx, ← hy] at CD
          rw [← hx, ← hy] at CE
          rw [← hx] at cj hxj
          rw [← hy] at ck hb3
          obtain ⟨z, hz⟩ : ∃ z, z = x + y / 10 := ⟨_, rfl⟩
          obtain ⟨r, hr⟩ : ∃ r, r = y % 10 := ⟨_, rfl⟩
          rw [← hz, ← hr] at CD
          rw [← hz] at CE
          have et : (y : Int).tdiv 10 = ((y / 10 : Nat) : Int) := by rw [Int.tdiv_eq_ediv_of_nonneg (by omega)]; omega
          obtain ⟨y2, hy2⟩ : ∃ y2, y2 = y / 10 := ⟨_, rfl⟩
          rw [← hy2] at et hz
          have ed : IntKind.i64.wrap (y2 : Int) = (y2 : Int) := IntWalk.i64_in _ (by omega)
          have ez : IntKind.i64.wrap ((x : Int) + (y2 : Int)) = (z : Int) := by rw [hz, IntWalk.i64_in _ (by omega)]; omega
          have er : (y : Int).tmod 10 = (r : Int) := by rw [Int.tmod_eq_emod_of_nonneg (by omega), hr]; omega
          have er2 : (y : Int) % 10 = (r : Int) := by omega
          have ew : IntKind.i64.wrap (r : Int) = (r : Int) := IntWalk.i64_in _ (by omega)
          have NQ1 := Lib.hid (show ∀ q, j < q → at0 (car L k) q < 10 from fun q hq => by
            rw [CA.out q]
            by_cases e1 : q = k
            · rw [if_pos e1]; omega
            · rw [if_neg e1, if_neg (by omega)]; exact Q1.out q (by omega))
          have NQ2 := Lib.hid (show ∀ q, q < j → at0 (car L k) q ≤ 324000000 from fun q hq => by
            rw [CA.out q, if_neg (by omega), if_neg (by omega)]; exact Q2.out q (by omega))
          have NQ3 := Lib.hid (show at0 (car L k) j ≤ 648000000 from by
            rw [CA.out j, if_neg (by omega), if_pos hj, ← hj, ← hx, ← hy]; omega)
          have SE1 := Lib.hid (nz_set L j z)
          have SE2 := Lib.hid (nz_set (L.set j z) k r)
          rw [← CD] at SE2
          have ck2 : gd (nz (L.set j z)) k = (y : Int) := by rw [nz_gd (by rw [List.length_set, LL.out]; exact hk), CE]
          have hln2 : (nz (L.set j z)).length = n := by rw [nz_len, List.length_set, LL.out]
          have CK2 := Lib.hid ck2
          have HJ := Lib.hid hj
          clear hj hx hy hz hr hy2 CD CE CA ck2 hb3 hxj
          go_wp2_with fail
          go_still_tail 12, (by kernel_rfl)
          repeat still_step
          try refine wpStill_nil ?_
          change wpList _ _ _ _ _ wr.drew
          go_wp2_with (refine wl_storeZ .i64 3 _ rfl (.tmp 67) (.tmp 66) (fun _ => rfl) rfl w.heap.size g j n n (nz L) (z : Int) w rfl rfl (O2.out.below (below_drewN (Below.refl _ _) 1)) hln hjn (below_drewN B2.out 1) ?_)
          intro w3 h1 h2 _
          rw [SE1.out] at h1
          have O3 := Lib.hid h1
          have B3 := Lib.hid h2
          clear h1 h2 SE1 O2 B2 cj ck
          have ck3 : w3.cell? ⟨g, k, none⟩ = some (.int .i64 (y : Int)) := by
            have := O3.out.cell (i := k) (by rw [hln2]; exact hk)
            rw [CK2.out] at this
            exact this
          go_wp2_with (refine wl_storeZ .i64 3 _ rfl (.tmp 73) (.tmp 72) (fun _ => rfl) rfl w.heap.size g k n n (nz (L.set j z)) (r : Int) w rfl rfl O3.out hln2 hk B3.out ?_)
          intro w4 h1 h2 _
          rw [SE2.out] at h1
          have O4 := Lib.hid h1
          have B4 := Lib.hid h2
          clear h1 h2 SE2 O3 B3 ck3
          go_wp2
          go_roundw
          case rel => exact ⟨j, _, hjn, by first | rfl | (congr 1; have := HJ.out; omega), CL.out, CV.out, NQ1.out, NQ2.out, NQ3.out, O4.out, B4.out⟩
          case measure => have := HJ.out; simp [intOf] <;> omega
        · obtain rfl : k = 0 := by omega
          have G10 := Lib.hid (show ∀ q, q < n → at0 L q < 10 from fun q hq => by
            by_cases hq0 : q = 0
            · subst hq0
              exact hv_small (by rw [LL.out]; omega) (by rw [PV.out, LL.out]; exact PL.out)
            · exact Q1.out q (by omega))
          have hsw := B2.out.size
          have g1 : decide ((0 : Int) < ((0 : Nat) : Int)) = false := decide_eq_false (by omega)
          go_wp2_with (refine wl_make_u8 _ rfl (.tmp 75) (.tmp 75) rfl wr.heap.size (n : Int) (n : Int) n wr rfl rfl rfl rfl (by omega) (Below.refl _ _) (Nat.le_refl _) ?_)
          intro g2 w5 _ ho hb
          rw [rep_oL] at ho
          have O5 := Lib.hid (show Oz .u8 5 wr.heap.size w5 (.slice (some ⟨g2, 0, none⟩) n n) (nz (oL (fun j => if j < 0 then at0 L j + 48 else 0) n)) from by
            have e : (fun j => if j < 0 then at0 L j + 48 else 0) = (fun _ => 0 : Nat → Nat) := by funext j; rw [if_neg (by omega)]
            rw [e]; exact ho)
          have B5 := Lib.hid hb
          have LC := Lib.hid (show ∀ q, q < n → wr.cell? ⟨g, q, none⟩ = some (.int .i64 (at0 L q : Int)) from fun q hq => by
            have := O2.out.cell (i := q) (by rw [nz_len, LL.out]; exact hq)
            rw [nz_gd (by rw [LL.out]; exact hq)] at this
            exact this)
          clear ho hb Q1 Q2 hb3 hln O2
          obtain ⟨wa, hwa⟩ : ∃ wa, wa = wr := ⟨_, rfl⟩
          rw [← hwa] at O5 B5 LC B2 hsw
          clear hwa
          go_wp2
          go_loopw [10] (fun v10 wx => GoR L n g2 wa v10 wx) (fun i _ => n - (intOf i).toNat)
          case atStart => exact ⟨0, by omega, rfl, O5.out, B5.out⟩
          case round =>
            obtain ⟨k, hk, rfl, ho, hb⟩ := hrel
            clear O5 B5
            have O6 := Lib.hid ho
            have B6 := Lib.hid hb
            clear ho hb
            by_cases hkn : k < n
            · have g3 : decide ((k : Int) < (n : Int)) = true := decide_eq_true (by omega)
              have g4 : decide (k < n) = true := decide_eq_true hkn
              have c0 := (B6.out.cell (p := ⟨g, k, none⟩) (World.block_lt_of_cell? wa _ (LC.out k hkn))).trans (LC.out k hkn)
              have hx9 := G10.out k hkn
              obtain ⟨x, hx⟩ : ∃ x, x = at0 L k := ⟨_, rfl⟩
              rw [← hx] at c0 hx9
              obtain ⟨z, hz⟩ : ∃ z, z = x + 48 := ⟨_, rfl⟩
              have e1 : IntKind.u8.wrap (x : Int) = (x : Int) := IntWalk.u8_in _ (by omega)
              have e2 : IntKind.u8.wrap (48 + (x : Int)) = (z : Int) := by rw [IntWalk.u8_in _ (by omega)]; omega
              have SE := Lib.hid (oL_set (fun j => if j < k then at0 L j + 48 else 0) (fun j => if j < k + 1 then at0 L j + 48 else 0) n k z hkn (by show (if k < k + 1 then at0 L k + 48 else 0) = z; rw [if_pos (by omega), hz, hx]) (fun j hj hjk => by
                show (if j < k + 1 then at0 L j + 48 else 0) = if j < k then at0 L j + 48 else 0
                by_cases h1 : j < k
                · rw [if_pos h1, if_pos (by omega)]
                · rw [if_neg h1, if_neg (by omega)]))
              have hln : (nz (oL (fun j => if j < k then at0 L j + 48 else 0) n)).length = n := by rw [nz_len, oL_len]
              clear hx hz
              go_wp2_with (refine wl_storeZ .u8 5 _ rfl (.tmp 91) (.tmp 90) (fun _ => rfl) rfl wa.heap.size g2 k n n (nz (oL (fun j => if j < k then at0 L j + 48 else 0) n)) (z : Int) wa rfl rfl O6.out hln hkn B6.out ?_)
              intro w7 h1 h2 _
              rw [SE.out] at h1
              have O7 := Lib.hid h1
              have B7 := Lib.hid h2
              clear h1 h2 SE O6 B6 c0
              go_wp2
              go_roundw
              case rel => exact ⟨k + 1, by omega, by go_num, O7.out, B7.out⟩
              case measure => simp [intOf] <;> omega
            · obtain rfl : n = k := by omega
              have g3 : decide ((n : Int) < (n : Int)) = false := decide_eq_false (by omega)
              obtain ⟨D, hD⟩ : ∃ D, D = L.map db := ⟨_, rfl⟩
              have L10 : ∀ x ∈ L, x < 10 := fun x hx => by
                obtain ⟨q, hq, rfl⟩ := List.getElem_of_mem hx
                rw [← at0_lt hq]
                exact G10.out q (by rw [← LL.out]; exact hq)
              have DL := Lib.hid (show D.length = n by rw [hD, List.length_map, LL.out])
              have DD := Lib.hid (show AllD D by rw [hD]; exact map_db_D L L10)
              have DV := Lib.hid (show nv D = P by rw [hD, nv_hv L L10, PV.out])
              have DC := Lib.hid (show ∀ q (hq : q < D.length), wr.cell? ⟨g2, q, none⟩ = some (.int .u8 (D[q].toNat : Int)) from fun q hq => by
                have hqn : q < n := by rw [← DL.out]; exact hq
                have := O6.out.cell (i := q) (by rw [nz_len, oL_len]; exact hqn)
                rw [oL_gd _ hqn, if_pos hqn] at this
                rw [this]
                subst hD
                rw [List.getElem_map, db_nat (by rw [← at0_lt (by rw [LL.out]; exact hqn)]; exact G10.out q hqn), ← at0_lt (by rw [LL.out]; exact hqn), Nat.add_comm])
              have BZ := Lib.hid (B2.out.trans (B6.out.mono hsw))
              clear hD L10 O6 B6 B2 G10 LC LL PV PL
              go_wp2
              go_loopw [9] (fun v9 wx => GtR D n g2 wr v9 wx) (fun v _ => lenOf v)
              case atStart => exact ⟨0, by omega, by simp, rfl, rfl⟩
              case round =>
                obtain ⟨m, hm, rfl, htz, rfl⟩ := hrel
                have HTZ := Lib.hid htz
                obtain ⟨N1, hN1⟩ : ∃ N1, N1 = n - m := ⟨_, rfl⟩
                rw [← hN1]
                have hmD : m < D.length := by rw [DL.out]; exact hm
                have hdr : D.drop m = D[m] :: D.drop (m + 1) := List.drop_eq_getElem_cons hmD
                have hisD := DD.out D[m] (List.getElem_mem hmD)
                have c0 := DC.out m hmD
                have c0z : wr.cell? ⟨g2, m + 0, none⟩ = some (.int .u8 (D[m].toNat : Int)) := c0
                by_cases hc : 1 < N1 ∧ D[m] = 48
                · obtain ⟨hc1, hc2⟩ := hc
                  have g4 : decide ((1 : Int) < (N1 : Int)) = true := decide_eq_true (by omega)
                  have g5 : decide (1 < N1) = true := decide_eq_true hc1
                  rw [hc2, show ((48 : UInt8).toNat : Int) = 48 from rfl] at c0 c0z
                  have NT := Lib.hid (show tz0 (D.drop (m + 1)) = tz0 D from by
                    rw [← HTZ.out, hdr, hc2, tz0_step]
                    intro e
                    have := congrArg List.length e
                    rw [List.length_drop, DL.out] at this
                    simp at this
                    omega)
                  have hne : ¬ N1 = 1 := by omega
                  have hN2 := Lib.hid (show n - (m + 1) = N1 - 1 by omega)
                  have hmn := Lib.hid (show m + 1 < n by omega)
                  clear hisD hdr hc2 hN1
                  go_wp2
                  go_roundw
                  case rel => exact ⟨m + 1, hmn.out, by rw [hN2.out], NT.out, rfl⟩
                  case measure => simp [lenOf] <;> omega
                · have FIN := Lib.hid (show D.drop m = tz0 D from by
                    rw [← HTZ.out, hdr]
                    by_cases h48 : D[m] = 48
                    · have h1 : D.drop (m + 1) = [] := List.length_eq_zero_iff.1 (by rw [List.length_drop, DL.out]; have : ¬ 1 < N1 := fun h => hc ⟨h, h48⟩; omega)
                      rw [h1, tz0_one]
                    · rw [tz0_head _ _ h48])
                  have DV2 := Lib.hid (show (D.drop m).length = N1 by rw [List.length_drop, DL.out, hN1])
                  have CV : (convert 30 9 (.slice (some ⟨g2, m, none⟩) N1 N1)).run Tryz.prog wr = .ok (.string ⟨(D.drop m).toArray⟩) wr := by
                    have := run_convert_bytes_back (P := Tryz.prog) wr 30 9 5 ⟨g2, m, none⟩ N1 (D.drop m) Tryz.underlying30 Tryz.underlying5 Tryz.underlying9 (fun j hj => by
                      rw [List.getElem_drop]
                      have := DC.out (m + j) (by rw [List.length_drop] at hj; omega)
                      have ea : (⟨g2, m, none⟩ : Addr).add j = ⟨g2, m + j, none⟩ := by simp [Addr.add]
                      rw [ea]
                      exact this)
                    rw [DV2.out] at this
                    exact this
                  have UC := Lib.hid (show Cn (bl ⟨(D.drop m).toArray⟩) by rw [bl_mk, FIN.out]; exact tz0_Cn DD.out)
                  have UN := Lib.hid (show nv (bl ⟨(D.drop m).toArray⟩) = P by rw [bl_mk, FIN.out, tz0_nv, DV.out])
                  by_cases hc1 : 1 < N1
                  · have g4 : decide ((1 : Int) < (N1 : Int)) = true := decide_eq_true (by omega)
                    have g5 : decide (1 < N1) = true := decide_eq_true hc1
                    obtain ⟨cc, hcc⟩ : ∃ cc, cc = D[m].toNat := ⟨_, rfl⟩
                    have hc48 : cc ≠ 48 := fun e => hc ⟨hc1, UInt8.toNat.inj (by rw [← hcc, e]; rfl)⟩
                    have g6 : ((cc : Int) == 48) = false := by rw [beq_eq_false_iff_ne]; omega
                    rw [← hcc] at c0 c0z
                    generalize (⟨(D.drop m).toArray⟩ : ByteArray) = u at *
                    clear hcc hdr hc FIN hN1
                    go_wp2
                    go_ret
                    exact ⟨u, rfl, UC.out, UN.out, BZ.out⟩
                  · have g4 : decide ((1 : Int) < (N1 : Int)) = false := decide_eq_false (by omega)
                    have g5 : decide (1 < N1) = false := decide_eq_false hc1
                    generalize (⟨(D.drop m).toArray⟩ : ByteArray) = u at *
                    clear hdr hc FIN hN1
                    go_wp2
                    go_ret
                    exact ⟨u, rfl, UC.out, UN.out, BZ.out⟩
end Go.Proofs.YtdhmmllpldjkbaaGreatDoor.Gm
