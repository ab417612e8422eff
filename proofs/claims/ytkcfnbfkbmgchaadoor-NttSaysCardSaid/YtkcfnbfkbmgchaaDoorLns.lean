/- The walk of the law NttSays. (Its lines are printed by wip/mk_XLns.py.) -/
import Derived.Test.YtkcfnbfkbmgchaaDoorSz
import Derived.Test.YtkcfnbfkbmgchaaDoorBk
import Derived.Test.YtkcfnbfkbmgchaaDoorRp
import Derived.Test.YtkcfnbfkbmgchaaDoorIn
namespace Go.Proofs.YtkcfnbfkbmgchaaDoor.Gm
open Go.RowKit
set_option linter.unusedVariables false
def NsB (ws : World) (k : Nat) (i : Int) (back b : Value) (wr : World) : Prop := ∃ m : Nat, m ≤ k ∧ b = .int .i64 m ∧ back = .int .i64 (bkI k i m) ∧ ws = wr
def NsA (ws : World) (n : Nat) (i : Value) (wr : World) : Prop := ∃ m : Nat, m ≤ n ∧ i = .int .i64 m ∧ ws = wr
set_option maxHeartbeats 4000000 in
set_option maxRecDepth 100000 in
theorem wNttSays (za : List Int) (z : Int) (v : Value) (w : World) (h : Rd .u64 w v za) (hz : B64 za) (z0 : -9223372036854775808 ≤ z) (z1 : z ≤ 9223372036854775807) (hT : Tb w) :
    Calls Tryd.prog 4 #[v, .int .i64 z] w (RetV w (.bool true)) := by
  obtain ⟨a1, q1, rfl, hk1, hm1⟩ := h.shape
  have X := Lib.hid h
  have T := Lib.hid hT
  have CLG := Lib.hid (fun w => rlog_any (za.length : Int) w (by omega) (by omega))
  clear h hT
  rcases (show (z < 0 ∨ 10 < z) ∨ (0 ≤ z ∧ z ≤ 10) by omega) with hbad | ⟨hlo, hhi⟩
  · have B0 := Lib.hid (Below.refl w.heap.size w)
    have hsz0 : w.heap.size ≤ w.heap.size := Nat.le_refl _
    go_enter Tryd.func4, Tryd.ntmps4
    go_wp2_with fail
    refine (order_bad z _ hbad).mono ?_
    rintro e w1 ⟨v1, rfl, hown, hbel⟩
    have X1 := Lib.hid (X.out.below hbel)
    have T1 := Lib.hid (T.out.below hbel)
    have B1 := Lib.hid hbel
    have hsz1 := hbel.size
    obtain ⟨oa, oc, rfl, _, _⟩ := hown.shape
    clear X T hown hbel
    go_wp2_with fail
    refine (in_no z 0 10 _ hbad).mono ?_
    rintro e w' ⟨rfl, rfl⟩
    go_wp2_with fail
    refine (CLG.out _).mono ?_
    rintro e w' ⟨⟨kk, hkk, hln, rfl⟩ | ⟨hno, rfl⟩, rfl⟩
    · have hlN : za.length = 2 ^ kk := by omega
      by_cases h6 : kk ≤ 6
      · have h6a : ¬ (6 : Int) < (kk : Int) := by omega
        have h6b : decide ((6 : Int) < (kk : Int)) = false := by rw [decide_eq_false_iff_not]; exact h6a
        have HLN := Lib.hid hlN
        have HLI := Lib.hid hln
        have CR := Lib.hid (fun w => rlog_pow kk (za.length : Int) w hkk hln)
        clear hlN hln
        go_wp2_with fail
        refine (nfwd_ok kk za _ _ X1.out hz hkk HLN.out T1.out).mono ?_
        rintro e w6 ⟨v6, rfl, hown, hbel⟩
        have X_6 := Lib.hid (X1.out.below hbel)
        have T_6 := Lib.hid (T1.out.below hbel)
        have x_6 := Lib.hid (hown.mono hsz1)
        have B6 := Lib.hid (B1.out.trans (hbel.mono hsz1))
        have hsz6 := B6.out.size
        clear X1 T1 hown hbel
        go_wp2_with fail
        refine (ninv_ok kk za _ _ X_6.out hz hkk HLN.out T_6.out).mono ?_
        rintro e w7 ⟨v7, rfl, hown, hbel⟩
        have X_7 := Lib.hid (X_6.out.below hbel)
        have T_7 := Lib.hid (T_6.out.below hbel)
        have x_7 := Lib.hid (x_6.out.below hbel)
        have y_7 := Lib.hid (hown.mono hsz6)
        have B7 := Lib.hid (B6.out.trans (hbel.mono hsz6))
        have hsz7 := B7.out.size
        clear X_6 T_6 x_6 hown hbel
        go_wp2_with fail
        refine (CR.out _).mono ?_
        rintro e w' ⟨rfl, rfl⟩
        go_wp2_with fail
        refine (rfwd_any kk za _ _ X_7.out hz hkk HLN.out).mono ?_
        rintro e w8 ⟨v8, rfl, hown, hbel⟩
        have X_8 := Lib.hid (X_7.out.below hbel)
        have T_8 := Lib.hid (T_7.out.below hbel)
        have x_8 := Lib.hid (x_7.out.below hbel)
        have y_8 := Lib.hid (y_7.out.below hbel)
        have p_8 := Lib.hid (hown.mono hsz7)
        have B8 := Lib.hid (B7.out.trans (hbel.mono hsz7))
        have hsz8 := B8.out.size
        clear X_7 T_7 x_7 y_7 hown hbel
        go_wp2_with fail
        refine (equal_yes ((trL false kk (za.map toF)).map vl) _ _ _ x_8.out.rd p_8.out.rd).mono ?_
        rintro e w9 ⟨rfl, hbel⟩
        have X_9 := Lib.hid (X_8.out.below hbel)
        have T_9 := Lib.hid (T_8.out.below hbel)
        have x_9 := Lib.hid (x_8.out.below hbel)
        have y_9 := Lib.hid (y_8.out.below hbel)
        have p_9 := Lib.hid (p_8.out.below hbel)
        have B9 := Lib.hid (B8.out.trans (hbel.mono hsz8))
        have hsz9 := B9.out.size
        clear X_8 T_8 x_8 y_8 p_8 hbel
        go_wp2_with fail
        refine (rbwd_any kk za _ _ X_9.out hz hkk HLN.out).mono ?_
        rintro e w10 ⟨v10, rfl, hown, hbel⟩
        have X_10 := Lib.hid (X_9.out.below hbel)
        have T_10 := Lib.hid (T_9.out.below hbel)
        have x_10 := Lib.hid (x_9.out.below hbel)
        have y_10 := Lib.hid (y_9.out.below hbel)
        have p_10 := Lib.hid (p_9.out.below hbel)
        have r_10 := Lib.hid (hown.mono hsz9)
        have B10 := Lib.hid (B9.out.trans (hbel.mono hsz9))
        have hsz10 := B10.out.size
        clear X_9 T_9 x_9 y_9 p_9 hown hbel
        go_wp2_with fail
        refine (equal_yes ((trL true kk (za.map toF)).map vl) _ _ _ y_10.out.rd r_10.out.rd).mono ?_
        rintro e w11 ⟨rfl, hbel⟩
        have X_11 := Lib.hid (X_10.out.below hbel)
        have T_11 := Lib.hid (T_10.out.below hbel)
        have x_11 := Lib.hid (x_10.out.below hbel)
        have y_11 := Lib.hid (y_10.out.below hbel)
        have p_11 := Lib.hid (p_10.out.below hbel)
        have r_11 := Lib.hid (r_10.out.below hbel)
        have B11 := Lib.hid (B10.out.trans (hbel.mono hsz10))
        have hsz11 := B11.out.size
        clear X_10 T_10 x_10 y_10 p_10 r_10 hbel
        go_wp2
        go_ret
        exact ⟨rfl, B11.out⟩
      · have h6a : (6 : Int) < (kk : Int) := by omega
        clear hlN hln
        go_wp2
        go_ret
        exact ⟨rfl, B1.out⟩
    · have HNO := Lib.hid (fun (k : Nat) (hk : k ≤ 10) (e : za.length = 2 ^ k) => hno k hk (by omega))
      have CR := Lib.hid (fun w => (rlog_any (za.length : Int) w (by omega) (by omega)).mono (R' := fun e w' => e = .returned (.int .i64 (-1)) ∧ w = w') (fun e w' he => by
        rcases he with ⟨⟨k, hk, e1, _⟩ | ⟨_, e2⟩, e3⟩
        · exact absurd e1 (hno k hk)
        · exact ⟨e2, e3⟩))
      clear hno
      go_wp2_with fail
      refine (nfwd_bad za _ _ X1.out HNO.out T1.out).mono ?_
      rintro e w6 ⟨v6, rfl, hown, hbel⟩
      have X_6 := Lib.hid (X1.out.below hbel)
      have T_6 := Lib.hid (T1.out.below hbel)
      have x_6 := Lib.hid (hown.mono hsz1)
      have B6 := Lib.hid (B1.out.trans (hbel.mono hsz1))
      have hsz6 := B6.out.size
      clear X1 T1 hown hbel
      go_wp2_with fail
      refine (ninv_bad za _ _ X_6.out HNO.out T_6.out).mono ?_
      rintro e w7 ⟨v7, rfl, hown, hbel⟩
      have X_7 := Lib.hid (X_6.out.below hbel)
      have T_7 := Lib.hid (T_6.out.below hbel)
      have x_7 := Lib.hid (x_6.out.below hbel)
      have y_7 := Lib.hid (hown.mono hsz6)
      have B7 := Lib.hid (B6.out.trans (hbel.mono hsz6))
      have hsz7 := B7.out.size
      clear X_6 T_6 x_6 hown hbel
      obtain ⟨qx, cx, rfl, _, _⟩ := (Ow.rd x_7.out).shape
      obtain ⟨qy, cy, rfl, _, _⟩ := (Ow.rd y_7.out).shape
      go_wp2_with fail
      refine (CR.out _).mono ?_
      rintro e w' ⟨rfl, rfl⟩
      go_wp2
      go_ret
      exact ⟨rfl, B7.out⟩
  · obtain ⟨k, rfl⟩ : ∃ k : Nat, z = k := ⟨z.toNat, by omega⟩
    have hk : k ≤ 10 := by omega
    have B0 := Lib.hid (Below.refl w.heap.size w)
    have hsz0 : w.heap.size ≤ w.heap.size := Nat.le_refl _
    obtain ⟨n, hn⟩ : ∃ n, n = 2 ^ k := ⟨_, rfl⟩
    have hk2 : 2 ^ k ≤ 2 ^ 10 := Nat.pow_le_pow_right (by omega) hk
    have hn1 : n ≤ 1024 := by omega
    have e2 : IntKind.i64.wrap (1 * 2 ^ k) = (n : Int) := by rw [Int.one_mul, hn]; exact wrap_two k (by omega)
    have e3 : IntKind.i64.wrap (2 ^ k) = (n : Int) := by rw [hn]; exact wrap_two k (by omega)
    have RL := Lib.hid (show (reL k (2 ^ k)).length = n by rw [reL_len, hn])
    have RG := Lib.hid (show ∀ m, m < n → gd (reL k (2 ^ k)) m = bkI k (m : Int) k from fun m hm => by rw [gd_reL _ _ (by omega), if_pos (by omega), bkI_rev ⟨k, by omega⟩ ⟨m, by omega⟩ (by rw [← hn]; exact hm)])
    have CO := Lib.hid (fun w => order_any k (k : Int) w hk rfl)
    clear hk2 hn
    go_enter Tryd.func4, Tryd.ntmps4
    go_wp2_with fail
    refine (CO.out _).mono ?_
    rintro e w1 ⟨v1, rfl, hown, hbel⟩
    have X1 := Lib.hid (X.out.below hbel)
    have T1 := Lib.hid (T.out.below hbel)
    have B1 := Lib.hid hbel
    have hsz1 := hbel.size
    have O1 := Lib.hid hown
    obtain ⟨oa, oc, ob, oo, rfl, hoc, hom, hox, hoe⟩ := hown.rd.opened
    rw [RL.out] at hoc hox ⊢
    have OC := Lib.hid hoe
    have hn0 : 1 ≤ n := by have := RL.out; rw [reL_len] at this; rw [← this]; exact Nat.two_pow_pos k
    obtain rfl := hox.resolve_left (by omega)
    clear X T hown hbel hoe hox
    go_wp2_with fail
    refine (in_yes (k : Int) 0 10 _ hlo hhi).mono ?_
    rintro e w' ⟨rfl, rfl⟩
    go_wp2
    go_loop [7, 8, 9, 10, 24] (fun _ _ _ _ i => ∃ m : Nat, m ≤ n ∧ i = .int .i64 m) (fun _ _ _ _ i => n - (intOf i).toNat)
    case atStart => exact ⟨0, by omega, rfl⟩
    case round =>
      obtain ⟨m, hm, rfl⟩ := hrel
      by_cases hml : m < n
      · have hcm := OC.out m (by rw [RL.out]; exact hml)
        rw [RG.out m hml] at hcm
        go_wp2
        go_loop [9, 10, 30] (fun back _ b => ∃ c : Nat, c ≤ k ∧ b = .int .i64 c ∧ back = .int .i64 (bkI k (m : Int) c)) (fun _ _ b => k - (intOf b).toNat)
        case atStart => exact ⟨0, by omega, rfl, rfl⟩
        case round =>
          obtain ⟨c, hc, rfl, rfl⟩ := hrel
          by_cases hck : c < k
          · have hb1 : bkI k (m : Int) (c + 1) = bits BinOp.or IntKind.i64 (bkI k (m : Int) c) (wrap64 (bits BinOp.and IntKind.i64 ((m : Int) / 2 ^ c) 1 * 2 ^ (k - 1 - c))) := rfl
            have HB1 := Lib.hid hb1
            clear hb1
            obtain ⟨d, hd⟩ : ∃ d : Nat, d = k - 1 - c := ⟨_, rfl⟩
            have hdi : (k : Int) - 1 - (c : Int) = (d : Int) := by omega
            rw [← hd] at HB1
            clear hd
            go_wp2
            go_round
            case rel => exact ⟨c + 1, by omega, by go_num, by rw [HB1.out]⟩
            case measure => simp [intOf] <;> omega
          · obtain rfl : k = c := by omega
            go_wp2
            go_round
            case rel => exact ⟨m + 1, by omega, by go_num⟩
            case measure => simp [intOf] <;> omega
      · obtain rfl : n = m := by omega
        go_wp2_with fail
        refine (CLG.out _).mono ?_
        rintro e w' ⟨⟨kk, hkk, hln, rfl⟩ | ⟨hno, rfl⟩, rfl⟩
        · have hlN : za.length = 2 ^ kk := by omega
          by_cases h6 : kk ≤ 6
          · have h6a : ¬ (6 : Int) < (kk : Int) := by omega
            have h6b : decide ((6 : Int) < (kk : Int)) = false := by rw [decide_eq_false_iff_not]; exact h6a
            have HLN := Lib.hid hlN
            have HLI := Lib.hid hln
            have CR := Lib.hid (fun w => rlog_pow kk (za.length : Int) w hkk hln)
            clear hlN hln
            go_wp2_with fail
            refine (nfwd_ok kk za _ _ X1.out hz hkk HLN.out T1.out).mono ?_
            rintro e w6 ⟨v6, rfl, hown, hbel⟩
            have X_6 := Lib.hid (X1.out.below hbel)
            have T_6 := Lib.hid (T1.out.below hbel)
            have x_6 := Lib.hid (hown.mono hsz1)
            have B6 := Lib.hid (B1.out.trans (hbel.mono hsz1))
            have hsz6 := B6.out.size
            clear X1 T1 hown hbel
            go_wp2_with fail
            refine (ninv_ok kk za _ _ X_6.out hz hkk HLN.out T_6.out).mono ?_
            rintro e w7 ⟨v7, rfl, hown, hbel⟩
            have X_7 := Lib.hid (X_6.out.below hbel)
            have T_7 := Lib.hid (T_6.out.below hbel)
            have x_7 := Lib.hid (x_6.out.below hbel)
            have y_7 := Lib.hid (hown.mono hsz6)
            have B7 := Lib.hid (B6.out.trans (hbel.mono hsz6))
            have hsz7 := B7.out.size
            clear X_6 T_6 x_6 hown hbel
            go_wp2_with fail
            refine (CR.out _).mono ?_
            rintro e w' ⟨rfl, rfl⟩
            go_wp2_with fail
            refine (rfwd_any kk za _ _ X_7.out hz hkk HLN.out).mono ?_
            rintro e w8 ⟨v8, rfl, hown, hbel⟩
            have X_8 := Lib.hid (X_7.out.below hbel)
            have T_8 := Lib.hid (T_7.out.below hbel)
            have x_8 := Lib.hid (x_7.out.below hbel)
            have y_8 := Lib.hid (y_7.out.below hbel)
            have p_8 := Lib.hid (hown.mono hsz7)
            have B8 := Lib.hid (B7.out.trans (hbel.mono hsz7))
            have hsz8 := B8.out.size
            clear X_7 T_7 x_7 y_7 hown hbel
            go_wp2_with fail
            refine (equal_yes ((trL false kk (za.map toF)).map vl) _ _ _ x_8.out.rd p_8.out.rd).mono ?_
            rintro e w9 ⟨rfl, hbel⟩
            have X_9 := Lib.hid (X_8.out.below hbel)
            have T_9 := Lib.hid (T_8.out.below hbel)
            have x_9 := Lib.hid (x_8.out.below hbel)
            have y_9 := Lib.hid (y_8.out.below hbel)
            have p_9 := Lib.hid (p_8.out.below hbel)
            have B9 := Lib.hid (B8.out.trans (hbel.mono hsz8))
            have hsz9 := B9.out.size
            clear X_8 T_8 x_8 y_8 p_8 hbel
            go_wp2_with fail
            refine (rbwd_any kk za _ _ X_9.out hz hkk HLN.out).mono ?_
            rintro e w10 ⟨v10, rfl, hown, hbel⟩
            have X_10 := Lib.hid (X_9.out.below hbel)
            have T_10 := Lib.hid (T_9.out.below hbel)
            have x_10 := Lib.hid (x_9.out.below hbel)
            have y_10 := Lib.hid (y_9.out.below hbel)
            have p_10 := Lib.hid (p_9.out.below hbel)
            have r_10 := Lib.hid (hown.mono hsz9)
            have B10 := Lib.hid (B9.out.trans (hbel.mono hsz9))
            have hsz10 := B10.out.size
            clear X_9 T_9 x_9 y_9 p_9 hown hbel
            go_wp2_with fail
            refine (equal_yes ((trL true kk (za.map toF)).map vl) _ _ _ y_10.out.rd r_10.out.rd).mono ?_
            rintro e w11 ⟨rfl, hbel⟩
            have X_11 := Lib.hid (X_10.out.below hbel)
            have T_11 := Lib.hid (T_10.out.below hbel)
            have x_11 := Lib.hid (x_10.out.below hbel)
            have y_11 := Lib.hid (y_10.out.below hbel)
            have p_11 := Lib.hid (p_10.out.below hbel)
            have r_11 := Lib.hid (r_10.out.below hbel)
            have B11 := Lib.hid (B10.out.trans (hbel.mono hsz10))
            have hsz11 := B11.out.size
            clear X_10 T_10 x_10 y_10 p_10 r_10 hbel
            go_wp2
            go_ret
            exact ⟨rfl, B11.out⟩
          · have h6a : (6 : Int) < (kk : Int) := by omega
            clear hlN hln
            go_wp2
            go_ret
            exact ⟨rfl, B1.out⟩
        · have HNO := Lib.hid (fun (k : Nat) (hk : k ≤ 10) (e : za.length = 2 ^ k) => hno k hk (by omega))
          have CR := Lib.hid (fun w => (rlog_any (za.length : Int) w (by omega) (by omega)).mono (R' := fun e w' => e = .returned (.int .i64 (-1)) ∧ w = w') (fun e w' he => by
            rcases he with ⟨⟨k, hk, e1, _⟩ | ⟨_, e2⟩, e3⟩
            · exact absurd e1 (hno k hk)
            · exact ⟨e2, e3⟩))
          clear hno
          go_wp2_with fail
          refine (nfwd_bad za _ _ X1.out HNO.out T1.out).mono ?_
          rintro e w6 ⟨v6, rfl, hown, hbel⟩
          have X_6 := Lib.hid (X1.out.below hbel)
          have T_6 := Lib.hid (T1.out.below hbel)
          have x_6 := Lib.hid (hown.mono hsz1)
          have B6 := Lib.hid (B1.out.trans (hbel.mono hsz1))
          have hsz6 := B6.out.size
          clear X1 T1 hown hbel
          go_wp2_with fail
          refine (ninv_bad za _ _ X_6.out HNO.out T_6.out).mono ?_
          rintro e w7 ⟨v7, rfl, hown, hbel⟩
          have X_7 := Lib.hid (X_6.out.below hbel)
          have T_7 := Lib.hid (T_6.out.below hbel)
          have x_7 := Lib.hid (x_6.out.below hbel)
          have y_7 := Lib.hid (hown.mono hsz6)
          have B7 := Lib.hid (B6.out.trans (hbel.mono hsz6))
          have hsz7 := B7.out.size
          clear X_6 T_6 x_6 hown hbel
          obtain ⟨qx, cx, rfl, _, _⟩ := (Ow.rd x_7.out).shape
          obtain ⟨qy, cy, rfl, _, _⟩ := (Ow.rd y_7.out).shape
          go_wp2_with fail
          refine (CR.out _).mono ?_
          rintro e w' ⟨rfl, rfl⟩
          go_wp2
          go_ret
          exact ⟨rfl, B7.out⟩
end Go.Proofs.YtkcfnbfkbmgchaaDoor.Gm
