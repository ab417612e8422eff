/- big.Add. -/
import Derived.Test.YtdhmmllpldjkbaaGreatDoorBa
namespace Go.Proofs.YtdhmmllpldjkbaaGreatDoor.Gm
open Go.RowKit
set_option linter.unusedVariables false
theorem add_err (s t : ByteArray) (n : Int) (h : GB (bl s) (bl t) n) (hn : n ≠ 0) (w : World) :
    Calls Tryz.prog 56 #[.string s, .string t] w fun e w' => e = .returned (.tuple #[.string ⟨#[]⟩, .int .i64 n]) ∧ w = w' := by
  have CB := Lib.hid (both_is s t n h)
  have hn0 : (n == 0) = false := by rw [beq_eq_false_iff_ne]; exact hn
  go_enter Tryz.func56, Tryz.ntmps56
  go_wp2_with fail
  refine (CB.out _).mono ?_
  rintro e w1 ⟨rfl, rfl⟩
  go_wp2
  go_ret2
  exact ⟨rfl, rfl⟩
/-- the sums so far: x all done up to i, y up to j -/
def gA (x y : List Nat) (i j k : Nat) : Nat := (if k < i then at0 x k else 0) + (if k < j then at0 y k else 0)
def AdR (x y : List Nat) (N g n m : Nat) (fst : Bool) (W : World) (v : Value) (wr : World) : Prop :=
  ∃ i : Nat, i ≤ n ∧ v = .int .i64 i ∧ Oz .u64 51 W.heap.size wr (.slice (some ⟨g, 0, none⟩) N N) (nz (oL (if fst then gA x y i 0 else gA x y m i) N)) ∧ Below W.heap.size W wr
theorem gA_le {x y : List Nat} (hx : ∀ a ∈ x, a < 10000) (hy : ∀ a ∈ y, a < 10000) (i j k : Nat) : gA x y i j k < 20000 := by
  have h : ∀ l : List Nat, (∀ a ∈ l, a < 10000) → at0 l k < 10000 := fun l hl => by
    rcases Nat.lt_or_ge k l.length with h | h
    · rw [at0_lt h]; exact hl _ (List.getElem_mem h)
    · rw [at0_out h]; omega
  have h1 := h x hx
  have h2 := h y hy
  unfold gA
  split <;> split <;> omega
theorem gA_bv (x y : List Nat) (N : Nat) (hx : x.length ≤ N) (hy : y.length ≤ N) : bv 10000 (oL (gA x y x.length y.length) N) = bv 10000 x + bv 10000 y := by
  rw [← sv_bv 10000 _ N (by rw [oL_len]; exact Nat.le_refl _), ← sv_bv 10000 x N hx, ← sv_bv 10000 y N hy, ← sv_add]
  refine sv_congr _ _ _ _ (fun j hj => ?_)
  rw [oL_at0, if_pos hj]
  unfold gA
  congr 1
  · split
    · rfl
    · rw [at0_out (by omega)]
  · split
    · rfl
    · rw [at0_out (by omega)]
theorem gA_sx (x y : List Nat) (N i : Nat) (h : i < N) : (nz (oL (gA x y i 0) N)).set i ((gA x y i 0 i + at0 x i : Nat) : Int) = nz (oL (gA x y (i + 1) 0) N) := by
  refine oL_set _ _ N i _ h ?_ (fun j hj hij => ?_)
  · unfold gA; rw [if_pos (show i < i + 1 by omega), if_neg (show ¬ i < 0 by omega), if_neg (show ¬ i < i by omega)]; omega
  · unfold gA
    by_cases h1 : j < i
    · rw [if_pos h1, if_pos (by omega)]
    · rw [if_neg h1, if_neg (by omega)]
theorem gA_sy (x y : List Nat) (N m i : Nat) (h : i < N) : (nz (oL (gA x y m i) N)).set i ((gA x y m i i + at0 y i : Nat) : Int) = nz (oL (gA x y m (i + 1)) N) := by
  refine oL_set _ _ N i _ h ?_ (fun j hj hij => ?_)
  · unfold gA; rw [if_neg (show ¬ i < i by omega), if_pos (show i < i + 1 by omega)]; omega
  · unfold gA
    by_cases h1 : j < i
    · rw [if_pos h1, if_pos (show j < i + 1 by omega)]
    · rw [if_neg h1, if_neg (show ¬ j < i + 1 by omega)]
set_option maxHeartbeats 4000000 in
set_option maxRecDepth 100000 in
theorem add_ok (s t : ByteArray) (hs : GE (bl s) 0) (ht : GE (bl t) 0) (w : World) (hT : Tp w) :
    Calls Tryz.prog 56 #[.string s, .string t] w fun e w' => ∃ u : ByteArray, e = .returned (.tuple #[.string u, .int .i64 0]) ∧ Cn (bl u) ∧ nv (bl u) = nv (bl s) + nv (bl t) ∧ Below w.heap.size w w' := by
  have CB := Lib.hid (both_is s t 0 (.inr ⟨hs, ht⟩))
  obtain ⟨c1, l1⟩ := hs.zero
  obtain ⟨c2, l2⟩ := ht.zero
  have CD1 := Lib.hid (digits_any s c1.2.1 (by rw [← bl_len]; exact l1))
  have CD2 := Lib.hid (digits_any t c2.2.1 (by rw [← bl_len]; exact l2))
  have TP := Lib.hid hT
  rw [← d4_bv 500 (bl s) (by omega), ← d4_bv 500 (bl t) (by omega)]
  have hx1 := Lib.hid (d4_lt 500 (bl s) c1.2.1)
  have hx2 := Lib.hid (d4_lt 500 (bl t) c2.2.1)
  have hl1 := d4_len 500 (bl s) (by omega)
  have hl2 := d4_len 500 (bl t) (by omega)
  generalize d4 500 (bl s) = x at *
  generalize d4 500 (bl t) = y at *
  clear c1 c2 l1 l2 hs ht hT
  go_enter Tryz.func56, Tryz.ntmps56
  go_wp2_with fail
  refine (CB.out _).mono ?_
  rintro e w1 ⟨rfl, rfl⟩
  go_wp2_with fail
  refine (CD1.out _).mono ?_
  rintro e w1 ⟨v1, rfl, ho1, hb1⟩
  go_wp2_with fail
  refine (CD2.out _).mono ?_
  rintro e w2 ⟨v2, rfl, ho2, hb2⟩
  have X2 := Lib.hid (ho1.below hb2).rd
  have Y2 := Lib.hid ho2.rd
  have hs1 := hb1.size
  have B2 := Lib.hid (hb1.trans (hb2.mono hs1))
  have hs2 := B2.out.size
  clear ho1 ho2 hb1 hb2 CB CD1 CD2
  obtain ⟨a1, cap1, b1, o1, rfl, hk1, hm1, hx1', hc1⟩ := X2.out
  obtain ⟨a2, cap2, b2, o2, rfl, hk2, hm2, hx2', hc2⟩ := Y2.out
  rw [nz_len] at hk1 hk2 hc1 hc2 ⊢
  rw [nz_len]
  have HX := Lib.hid (show x.length = 0 ∨ a1 = some ⟨b1, o1, none⟩ from hx1'.imp (fun e => by rw [← nz_len, e]; rfl) id)
  have HY := Lib.hid (show y.length = 0 ∨ a2 = some ⟨b2, o2, none⟩ from hx2'.imp (fun e => by rw [← nz_len, e]; rfl) id)
  have HC1 := Lib.hid (show ∀ i, i < x.length → w2.cell? ⟨b1, o1 + i, none⟩ = some (.int .u64 (at0 x i : Int)) from fun i hi => by rw [hc1 i hi, nz_gd hi])
  have HC2 := Lib.hid (show ∀ i, i < y.length → w2.cell? ⟨b2, o2 + i, none⟩ = some (.int .u64 (at0 y i : Int)) from fun i hi => by rw [hc2 i hi, nz_gd hi])
  obtain ⟨N, hN⟩ : ∃ N, N = max x.length y.length := ⟨_, rfl⟩
  have HNX : x.length ≤ N := by omega
  have HNY : y.length ≤ N := by omega
  have hN5 : N ≤ 500 := by omega
  obtain ⟨n1, hn1⟩ : ∃ n1, n1 = x.length := ⟨_, rfl⟩
  obtain ⟨n2, hn2⟩ : ∃ n2, n2 = y.length := ⟨_, rfl⟩
  have HN1 := Lib.hid hn1
  have HN2 := Lib.hid hn2
  rw [← hn1, ← hn2] at hN
  rw [← hn1] at HNX HX HC1 hk1 hl1 ⊢
  rw [← hn2] at HNY HY HC2 hk2 hl2 ⊢
  have em : max (n1 : Int) (n2 : Int) = (N : Int) := by omega
  have GB1 := Lib.hid (gA_bv x y N (by rw [← hn1]; exact HNX) (by rw [← hn2]; exact HNY))
  rw [← hn1, ← hn2] at GB1
  clear hc1 hc2 hx1' hx2' X2 Y2 hn1 hn2 hN
  go_wp2_with (refine wl_make_u64 _ rfl (.tmp 28) (.tmp 28) rfl w2.heap.size (N : Int) (N : Int) N w2 rfl rfl rfl rfl (by omega) (Below.refl _ _) (Nat.le_refl _) ?_)
  intro g w3 _ ho hb
  go_wp2
  go_loopw [32] (fun v wr => AdR x y N g n1 0 true w2 v wr) (fun i _ => n1 - (intOf i).toNat)
  case atStart => exact ⟨0, by omega, rfl, by rw [if_pos rfl]; rw [rep_oL] at ho; exact (by have e : oL (gA x y 0 0) N = oL (fun _ => 0) N := (by unfold oL; exact List.map_congr_left (fun k _ => by unfold gA; simp)); rw [e]; exact ho), hb⟩
  case round =>
    obtain ⟨i, hi, rfl, ho, hb⟩ := hrel
    rw [if_pos rfl] at ho
    have O1 := Lib.hid ho
    have B1 := Lib.hid hb
    have hs1 := hb.size
    clear ho hb
    by_cases hil : i < n1
    · obtain rfl := HX.out.resolve_left (by omega)
      have c0 : w2.cell? ⟨b1, o1 + i, none⟩ = some (.int .u64 (at0 x i : Int)) := HC1.out i hil
      have c0 := (B1.out.cell (p := ⟨b1, o1 + i, none⟩) (World.block_lt_of_cell? w2 _ c0)).trans c0
      have hiN : i < N := by omega
      have c1 : wr.cell? ⟨g, i, none⟩ = some (.int .u64 (gA x y i 0 i : Int)) := by
        have := O1.out.cell (i := i) (by rw [nz_len, oL_len]; exact hiN)
        rw [oL_gd _ hiN] at this
        exact this
      have c1z : wr.cell? ⟨g, 0 + i, none⟩ = some (.int .u64 (gA x y i 0 i : Int)) := by rw [Nat.zero_add]; exact c1
      have hgi := gA_le hx1.out hx2.out i 0 i
      have hxi : at0 x i < 10000 := by
        rcases Nat.lt_or_ge i x.length with h | h
        · rw [at0_lt h]; exact hx1.out _ (List.getElem_mem h)
        · rw [at0_out h]; omega
      have GS := Lib.hid (gA_sx x y N i hiN)
      have hln : (nz (oL (gA x y i 0) N)).length = N := by rw [nz_len, oL_len]
      generalize (gA x y i 0) i = gi at *
      generalize at0 x i = xi at *
      go_wp2_with (refine wl_storeZ .u64 51 _ rfl (.tmp 43) (.tmp 42) (fun _ => rfl) rfl w2.heap.size g i N N (nz (oL (gA x y i 0) N)) ((gi : Int) + (xi : Int)) w2 rfl rfl O1.out hln hiN B1.out ?_)
      intro w5 h1 h2 _
      rw [← Int.natCast_add, GS.out] at h1
      have O5 := Lib.hid h1
      have B5 := Lib.hid h2
      clear h1 h2 GS O1 B1 c0 c1 c1z
      go_wp2
      go_roundw
      case rel => exact ⟨i + 1, by omega, by go_num, O5.out, B5.out⟩
      case measure => simp [intOf] <;> omega
    · obtain rfl : n1 = i := by omega
      go_wp2
      go_loopw [47] (fun v wr => AdR x y N g n2 n1 false w2 v wr) (fun i _ => n2 - (intOf i).toNat)
      case atStart => exact ⟨0, by omega, rfl, by rw [if_neg (by decide)]; exact O1.out, B1.out⟩
      case round =>
        obtain ⟨i, hi, rfl, ho, hb⟩ := hrel
        rw [if_neg (by decide)] at ho
        have O6 := Lib.hid ho
        have B6 := Lib.hid hb
        have hs6 := hb.size
        clear ho hb
        by_cases hil : i < n2
        · obtain rfl := HY.out.resolve_left (by omega)
          have c0 : w2.cell? ⟨b2, o2 + i, none⟩ = some (.int .u64 (at0 y i : Int)) := HC2.out i hil
          have c0 := (B6.out.cell (p := ⟨b2, o2 + i, none⟩) (World.block_lt_of_cell? w2 _ c0)).trans c0
          have hiN : i < N := by omega
          have c1 : wr.cell? ⟨g, i, none⟩ = some (.int .u64 (gA x y n1 i i : Int)) := by
            have := O6.out.cell (i := i) (by rw [nz_len, oL_len]; exact hiN)
            rw [oL_gd _ hiN] at this
            exact this
          have c1z : wr.cell? ⟨g, 0 + i, none⟩ = some (.int .u64 (gA x y n1 i i : Int)) := by rw [Nat.zero_add]; exact c1
          have hgi := gA_le hx1.out hx2.out n1 i i
          have hxi : at0 y i < 10000 := by
            rcases Nat.lt_or_ge i y.length with h | h
            · rw [at0_lt h]; exact hx2.out _ (List.getElem_mem h)
            · rw [at0_out h]; omega
          have GS := Lib.hid (gA_sy x y N n1 i hiN)
          have hln : (nz (oL (gA x y n1 i) N)).length = N := by rw [nz_len, oL_len]
          generalize (gA x y n1 i) i = gi at *
          generalize at0 y i = xi at *
          go_wp2_with (refine wl_storeZ .u64 51 _ rfl (.tmp 58) (.tmp 57) (fun _ => rfl) rfl w2.heap.size g i N N (nz (oL (gA x y n1 i) N)) ((gi : Int) + (xi : Int)) w2 rfl rfl O6.out hln hiN B6.out ?_)
          intro w5 h1 h2 _
          rw [← Int.natCast_add, GS.out] at h1
          have O5 := Lib.hid h1
          have B5 := Lib.hid h2
          clear h1 h2 GS O6 B6 c0 c1 c1z
          go_wp2
          go_roundw
          case rel => exact ⟨i + 1, by omega, by go_num, O5.out, B5.out⟩
          case measure => simp [intOf] <;> omega
        · obtain rfl : n2 = i := by omega
          have EN := Lib.hid (text_any (oL (gA x y n1 n2) N) _ wr O6.out.rd (fun a ha => by
            obtain ⟨k, hk, rfl⟩ := List.getElem_of_mem ha
            rw [oL_len] at hk
            have h1 := oL_at0 (gA x y n1 n2) N k
            rw [if_pos hk, at0_lt (by rw [oL_len]; exact hk)] at h1
            rw [h1]
            have := gA_le hx1.out hx2.out n1 n2 k
            omega) (by rw [oL_len]; omega) (TP.out.below (B2.out.trans (B6.out.mono hs2))))
          rw [GB1.out] at EN
          clear HN1 HN2
          have BZ := Lib.hid (B2.out.trans (B6.out.mono hs2))
          have hsz := BZ.out.size
          go_wp2_with fail
          refine EN.out.mono ?_
          rintro e w7 ⟨u, rfl, hu, hn, hb⟩
          have B7 := Lib.hid (BZ.out.trans (hb.mono hsz))
          have U7 := Lib.hid hu
          have N7 := Lib.hid hn
          clear hu hn hb EN BZ
          go_wp2
          go_ret2
          exact ⟨u, rfl, U7.out, N7.out, B7.out⟩
end Go.Proofs.YtdhmmllpldjkbaaGreatDoor.Gm
