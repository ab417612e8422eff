/- The walk of the law ShareSays. (Its lines are printed by wip/mk_XLw.py.) -/
import Derived.Test.YtjljndnpefdifaaSe
import Derived.Test.YtjljndnpefdifaaOq
namespace Go.Proofs.Ytjljndnpefdifaa.Gm
open Go.RowKit
set_option maxHeartbeats 4000000 in
set_option maxRecDepth 100000 in
theorem wShareSays (zs az sz : List Int) (v v4 : Value) (n k : Int) (w : World) (h : Rd .u64 w v zs) (h4 : Rs w v4 az sz) (hz : B64 zs) (hwf : W63 az) (hb : B64 sz) :
    Calls Try.prog 8 #[v, .int .i64 n, .int .i64 k, v4] w (RetV w (.bool true)) := by
  have X := Lib.hid h
  have L := Lib.hid h4
  have HL := Lib.hid h4.1
  obtain ⟨a, cap, rfl, hcap, hm⟩ := h.shape
  obtain ⟨a4, cap4, rfl, hcap4, hm4⟩ := h4.shape
  clear h h4
  by_cases c1 : zs.length < 1
  · have c : zs.length < 1 ∨ n < 1 ∨ 64 < n ∨ n < zs.length := .inl c1
    have C := Lib.hid c
    clear c
    have B0 := Lib.hid (Below.refl w.heap.size w)
    have hsz0 : w.heap.size ≤ w.heap.size := Nat.le_refl _
    go_enter Try.func8, Try.ntmps8
    go_wp2_with fail
    refine (encode_bad zs _ n _ X.out C.out).mono ?_
    rintro e w1 ⟨v1, rfl, hown, hbel⟩
    have X_1 := Lib.hid (X.out.below hbel)
    have L_1 := Lib.hid (L.out.below hbel)
    have P_1 := Lib.hid (hown.mono hsz0)
    have B1 := Lib.hid (B0.out.trans (hbel.mono hsz0))
    have hsz1 := B1.out.size
    clear X L hown hbel
    go_wp2_with fail
    refine (equal_yes [] _ _ _ P_1.out.rd (Rd.nil _ _)).mono ?_
    rintro e w2 ⟨rfl, hbel⟩
    have X_2 := Lib.hid (X_1.out.below hbel)
    have L_2 := Lib.hid (L_1.out.below hbel)
    have P_2 := Lib.hid (P_1.out.below hbel)
    have B2 := Lib.hid (B1.out.trans (hbel.mono hsz1))
    have hsz2 := B2.out.size
    clear X_1 L_1 P_1 hbel
    by_cases t1 : k < 1 ∨ 64 < k
    · have T1 := Lib.hid t1
      clear t1
      go_wp2_with fail
      refine (rec_k k _ _ T1.out).mono ?_
      rintro e w3 ⟨v3, rfl, hown, hbel⟩
      have X_3 := Lib.hid (X_2.out.below hbel)
      have L_3 := Lib.hid (L_2.out.below hbel)
      have P_3 := Lib.hid (P_2.out.below hbel)
      have Q_3 := Lib.hid (hown.mono hsz2)
      have B3 := Lib.hid (B2.out.trans (hbel.mono hsz2))
      have hsz3 := B3.out.size
      clear X_2 L_2 P_2 hown hbel
      obtain ⟨qQ, cQ, rfl, _, _⟩ := Q_3.out.shape
      go_wp2_with fail
      refine (fits_k k _ _ T1.out).mono ?_
      rintro e w4 ⟨rfl, hbel⟩
      have X_4 := Lib.hid (X_3.out.below hbel)
      have L_4 := Lib.hid (L_3.out.below hbel)
      have P_4 := Lib.hid (P_3.out.below hbel)
      have Q_4 := Lib.hid (Q_3.out.below hbel)
      have B4 := Lib.hid (B3.out.trans (hbel.mono hsz3))
      have hsz4 := B4.out.size
      clear X_3 L_3 P_3 Q_3 hbel
      go_wp2_with fail
      refine (shares_k k _ _ T1.out).mono ?_
      rintro e w5 ⟨rfl, hbel⟩
      have X_5 := Lib.hid (X_4.out.below hbel)
      have L_5 := Lib.hid (L_4.out.below hbel)
      have P_5 := Lib.hid (P_4.out.below hbel)
      have Q_5 := Lib.hid (Q_4.out.below hbel)
      have B5 := Lib.hid (B4.out.trans (hbel.mono hsz4))
      have hsz5 := B5.out.size
      clear X_4 L_4 P_4 Q_4 hbel
      go_wp2
      go_ret
      exact ⟨rfl, B5.out⟩
    have hk1 : 1 ≤ k := by omega
    have hk2 : k ≤ 64 := by omega
    clear t1
    by_cases t2 : Fine az
    · have FI := Lib.hid t2
      clear t2
      obtain ⟨kn, hkn⟩ : ∃ kn : Nat, k = (kn : Int) := ⟨k.toNat, by omega⟩
      subst hkn
      have hn1 : 1 ≤ kn := by omega
      have hn2 : kn ≤ 64 := by omega
      by_cases t3 : az.length < kn
      · have hthr : ((thru az sz).length : Int) ≤ (kn : Int) := by have := thru_len az sz; omega
        have ON := Lib.hid ((sh_iff FI.out HL.out kn).1 (by omega))
        go_wp2_with fail
        refine (rec_any kn _ az sz _ _ L_2.out hwf hb rfl hn1 hn2 FI.out).mono ?_
        rintro e w3 hr
        obtain ⟨v3, rfl, hown, hbel⟩ : RetLE _ [] 4 e w3 := by
          rcases hr with ⟨_, h⟩ | ⟨h, _⟩ | ⟨h, _⟩
          · exact h
          · exact absurd h (by omega)
          · exact absurd h (by omega)
        clear hr
        have X_3 := Lib.hid (X_2.out.below hbel)
        have L_3 := Lib.hid (L_2.out.below hbel)
        have P_3 := Lib.hid (P_2.out.below hbel)
        have Q_3 := Lib.hid (hown.mono hsz2)
        have B3 := Lib.hid (B2.out.trans (hbel.mono hsz2))
        have hsz3 := B3.out.size
        clear X_2 L_2 P_2 hown hbel
        obtain ⟨qQ, cQ, rfl, _, _⟩ := Q_3.out.shape
        go_wp2_with fail
        refine (fits_any (kn : Int) az sz _ _ L_3.out hwf hb hk1 hk2 FI.out).mono ?_
        rintro e w4 ⟨rfl, hbel⟩
        have X_4 := Lib.hid (X_3.out.below hbel)
        have L_4 := Lib.hid (L_3.out.below hbel)
        have P_4 := Lib.hid (P_3.out.below hbel)
        have Q_4 := Lib.hid (Q_3.out.below hbel)
        have B4 := Lib.hid (B3.out.trans (hbel.mono hsz3))
        have hsz4 := B4.out.size
        clear X_3 L_3 P_3 Q_3 hbel
        go_wp2_with fail
        refine (shares_any (kn : Int) az sz _ _ L_4.out hwf hk1 hk2).mono ?_
        rintro e w5 ⟨hr, hbel⟩
        obtain rfl : e = .returned (.int .i64 0) := by
          rcases hr with ⟨_, h⟩ | ⟨h, _⟩
          · exact h
          · exact absurd FI.out h
        clear hr
        have X_5 := Lib.hid (X_4.out.below hbel)
        have L_5 := Lib.hid (L_4.out.below hbel)
        have P_5 := Lib.hid (P_4.out.below hbel)
        have Q_5 := Lib.hid (Q_4.out.below hbel)
        have B5 := Lib.hid (B4.out.trans (hbel.mono hsz4))
        have hsz5 := B5.out.size
        clear X_4 L_4 P_4 Q_4 hbel
        go_wp2_with fail
        refine (data_any kn _ az sz _ _ L_5.out hb rfl hn1 hn2 FI.out).mono ?_
        rintro e w6 hr
        obtain ⟨v6, rfl, hown, hbel⟩ : RetLE _ [] 4 e w6 := by
          rcases hr with ⟨h, _⟩ | ⟨_, _, h⟩ | ⟨_, h, _⟩
          · exact absurd ON.out h
          · exact h
          · exact absurd h (by omega)
        clear hr
        have X_6 := Lib.hid (X_5.out.below hbel)
        have L_6 := Lib.hid (L_5.out.below hbel)
        have P_6 := Lib.hid (P_5.out.below hbel)
        have Q_6 := Lib.hid (Q_5.out.below hbel)
        have D_6 := Lib.hid (hown.mono hsz5)
        have B6 := Lib.hid (B5.out.trans (hbel.mono hsz5))
        have hsz6 := B6.out.size
        clear X_5 L_5 P_5 Q_5 hown hbel
        go_wp2_with fail
        refine (equal_yes [] _ _ _ Q_6.out.rd D_6.out.rd).mono ?_
        rintro e w7 ⟨rfl, hbel⟩
        have X_7 := Lib.hid (X_6.out.below hbel)
        have L_7 := Lib.hid (L_6.out.below hbel)
        have P_7 := Lib.hid (P_6.out.below hbel)
        have Q_7 := Lib.hid (Q_6.out.below hbel)
        have D_7 := Lib.hid (D_6.out.below hbel)
        have B7 := Lib.hid (B6.out.trans (hbel.mono hsz6))
        have hsz7 := B7.out.size
        clear X_6 L_6 P_6 Q_6 D_6 hbel
        go_wp2
        go_ret
        exact ⟨rfl, B7.out⟩
      have t3' : kn ≤ az.length := by omega
      by_cases t4 : (thru az sz).length ≤ kn
      · have HM := Lib.hid (Nat.min_eq_right t3')
        have hthr : ((thru az sz).length : Int) ≤ (kn : Int) := by omega
        have ON := Lib.hid ((sh_iff FI.out HL.out kn).1 (by omega))
        go_wp2_with fail
        refine (rec_any kn _ az sz _ _ L_2.out hwf hb rfl hn1 hn2 FI.out).mono ?_
        rintro e w3 hr
        obtain ⟨v3, rfl, hown, hbel⟩ : RetLE _ (padF (thru az sz) kn) 0 e w3 := by
          rcases hr with ⟨h, _⟩ | ⟨_, h, _⟩ | ⟨_, _, h⟩
          · exact absurd h (by omega)
          · exact absurd h (by omega)
          · exact h
        clear hr
        rw [sh_eq FI.out HL.out kn ON.out, HM.out] at hown
        have X_3 := Lib.hid (X_2.out.below hbel)
        have L_3 := Lib.hid (L_2.out.below hbel)
        have P_3 := Lib.hid (P_2.out.below hbel)
        have Q_3 := Lib.hid (hown.mono hsz2)
        have B3 := Lib.hid (B2.out.trans (hbel.mono hsz2))
        have hsz3 := B3.out.size
        clear X_2 L_2 P_2 hown hbel
        obtain ⟨qQ, cQ, rfl, _, _⟩ := Q_3.out.shape
        go_wp2_with fail
        refine (fits_any (kn : Int) az sz _ _ L_3.out hwf hb hk1 hk2 FI.out).mono ?_
        rintro e w4 ⟨rfl, hbel⟩
        have X_4 := Lib.hid (X_3.out.below hbel)
        have L_4 := Lib.hid (L_3.out.below hbel)
        have P_4 := Lib.hid (P_3.out.below hbel)
        have Q_4 := Lib.hid (Q_3.out.below hbel)
        have B4 := Lib.hid (B3.out.trans (hbel.mono hsz3))
        have hsz4 := B4.out.size
        clear X_3 L_3 P_3 Q_3 hbel
        go_wp2_with fail
        refine (shares_any (kn : Int) az sz _ _ L_4.out hwf hk1 hk2).mono ?_
        rintro e w5 ⟨hr, hbel⟩
        obtain rfl : e = .returned (.int .i64 0) := by
          rcases hr with ⟨_, h⟩ | ⟨h, _⟩
          · exact h
          · exact absurd FI.out h
        clear hr
        have X_5 := Lib.hid (X_4.out.below hbel)
        have L_5 := Lib.hid (L_4.out.below hbel)
        have P_5 := Lib.hid (P_4.out.below hbel)
        have Q_5 := Lib.hid (Q_4.out.below hbel)
        have B5 := Lib.hid (B4.out.trans (hbel.mono hsz4))
        have hsz5 := B5.out.size
        clear X_4 L_4 P_4 Q_4 hbel
        go_wp2_with fail
        refine (data_any kn _ az sz _ _ L_5.out hb rfl hn1 hn2 FI.out).mono ?_
        rintro e w6 hr
        obtain ⟨v6, rfl, hown, hbel⟩ : RetLE _ (padF (thruK az sz (min az.length kn)) kn) 0 e w6 := by
          rcases hr with ⟨h, _⟩ | ⟨_, h, _⟩ | ⟨_, _, h⟩
          · exact absurd ON.out h
          · exact absurd h (by omega)
          · exact h
        clear hr
        rw [HM.out] at hown
        have X_6 := Lib.hid (X_5.out.below hbel)
        have L_6 := Lib.hid (L_5.out.below hbel)
        have P_6 := Lib.hid (P_5.out.below hbel)
        have Q_6 := Lib.hid (Q_5.out.below hbel)
        have D_6 := Lib.hid (hown.mono hsz5)
        have B6 := Lib.hid (B5.out.trans (hbel.mono hsz5))
        have hsz6 := B6.out.size
        clear X_5 L_5 P_5 Q_5 hown hbel
        go_wp2_with fail
        refine (equal_yes ((padF (thruK az sz kn) kn).map vl) _ _ _ Q_6.out.rd D_6.out.rd).mono ?_
        rintro e w7 ⟨rfl, hbel⟩
        have X_7 := Lib.hid (X_6.out.below hbel)
        have L_7 := Lib.hid (L_6.out.below hbel)
        have P_7 := Lib.hid (P_6.out.below hbel)
        have Q_7 := Lib.hid (Q_6.out.below hbel)
        have D_7 := Lib.hid (D_6.out.below hbel)
        have B7 := Lib.hid (B6.out.trans (hbel.mono hsz6))
        have hsz7 := B7.out.size
        clear X_6 L_6 P_6 Q_6 D_6 hbel
        go_wp2
        go_ret
        exact ⟨rfl, B7.out⟩
      · have hthr : ¬ ((thru az sz).length : Int) ≤ (kn : Int) := by omega
        have ON := Lib.hid (show ¬ On (thruK az sz (min az.length kn)) az sz az.length from fun h => absurd ((sh_iff FI.out HL.out kn).2 h) (by omega))
        go_wp2_with fail
        refine (rec_any kn _ az sz _ _ L_2.out hwf hb rfl hn1 hn2 FI.out).mono ?_
        rintro e w3 hr
        obtain ⟨v3, rfl, hown, hbel⟩ : RetLE _ [] 5 e w3 := by
          rcases hr with ⟨h, _⟩ | ⟨_, _, h⟩ | ⟨_, h, _⟩
          · exact absurd h (by omega)
          · exact h
          · exact absurd h (by omega)
        clear hr
        have X_3 := Lib.hid (X_2.out.below hbel)
        have L_3 := Lib.hid (L_2.out.below hbel)
        have P_3 := Lib.hid (P_2.out.below hbel)
        have Q_3 := Lib.hid (hown.mono hsz2)
        have B3 := Lib.hid (B2.out.trans (hbel.mono hsz2))
        have hsz3 := B3.out.size
        clear X_2 L_2 P_2 hown hbel
        obtain ⟨qQ, cQ, rfl, _, _⟩ := Q_3.out.shape
        go_wp2_with fail
        refine (fits_any (kn : Int) az sz _ _ L_3.out hwf hb hk1 hk2 FI.out).mono ?_
        rintro e w4 ⟨rfl, hbel⟩
        have X_4 := Lib.hid (X_3.out.below hbel)
        have L_4 := Lib.hid (L_3.out.below hbel)
        have P_4 := Lib.hid (P_3.out.below hbel)
        have Q_4 := Lib.hid (Q_3.out.below hbel)
        have B4 := Lib.hid (B3.out.trans (hbel.mono hsz3))
        have hsz4 := B4.out.size
        clear X_3 L_3 P_3 Q_3 hbel
        go_wp2_with fail
        refine (shares_any (kn : Int) az sz _ _ L_4.out hwf hk1 hk2).mono ?_
        rintro e w5 ⟨hr, hbel⟩
        obtain rfl : e = .returned (.int .i64 0) := by
          rcases hr with ⟨_, h⟩ | ⟨h, _⟩
          · exact h
          · exact absurd FI.out h
        clear hr
        have X_5 := Lib.hid (X_4.out.below hbel)
        have L_5 := Lib.hid (L_4.out.below hbel)
        have P_5 := Lib.hid (P_4.out.below hbel)
        have Q_5 := Lib.hid (Q_4.out.below hbel)
        have B5 := Lib.hid (B4.out.trans (hbel.mono hsz4))
        have hsz5 := B5.out.size
        clear X_4 L_4 P_4 Q_4 hbel
        go_wp2_with fail
        refine (data_any kn _ az sz _ _ L_5.out hb rfl hn1 hn2 FI.out).mono ?_
        rintro e w6 hr
        obtain ⟨v6, rfl, hown, hbel⟩ : RetLE _ [] 5 e w6 := by
          rcases hr with ⟨_, h⟩ | ⟨h, _⟩ | ⟨h, _⟩
          · exact h
          · exact absurd h ON.out
          · exact absurd h ON.out
        clear hr
        have X_6 := Lib.hid (X_5.out.below hbel)
        have L_6 := Lib.hid (L_5.out.below hbel)
        have P_6 := Lib.hid (P_5.out.below hbel)
        have Q_6 := Lib.hid (Q_5.out.below hbel)
        have D_6 := Lib.hid (hown.mono hsz5)
        have B6 := Lib.hid (B5.out.trans (hbel.mono hsz5))
        have hsz6 := B6.out.size
        clear X_5 L_5 P_5 Q_5 hown hbel
        go_wp2_with fail
        refine (equal_yes [] _ _ _ Q_6.out.rd D_6.out.rd).mono ?_
        rintro e w7 ⟨rfl, hbel⟩
        have X_7 := Lib.hid (X_6.out.below hbel)
        have L_7 := Lib.hid (L_6.out.below hbel)
        have P_7 := Lib.hid (P_6.out.below hbel)
        have Q_7 := Lib.hid (Q_6.out.below hbel)
        have D_7 := Lib.hid (D_6.out.below hbel)
        have B7 := Lib.hid (B6.out.trans (hbel.mono hsz6))
        have hsz7 := B7.out.size
        clear X_6 L_6 P_6 Q_6 D_6 hbel
        go_wp2
        go_ret
        exact ⟨rfl, B7.out⟩
    · have FI := Lib.hid t2
      clear t2
      go_wp2_with fail
      refine (rec_unfine k az sz _ _ L_2.out hwf hk1 hk2 FI.out).mono ?_
      rintro e w3 ⟨v3, rfl, hown, hbel⟩
      have X_3 := Lib.hid (X_2.out.below hbel)
      have L_3 := Lib.hid (L_2.out.below hbel)
      have P_3 := Lib.hid (P_2.out.below hbel)
      have Q_3 := Lib.hid (hown.mono hsz2)
      have B3 := Lib.hid (B2.out.trans (hbel.mono hsz2))
      have hsz3 := B3.out.size
      clear X_2 L_2 P_2 hown hbel
      obtain ⟨qQ, cQ, rfl, _, _⟩ := Q_3.out.shape
      go_wp2_with fail
      refine (fits_unfine k az sz _ _ L_3.out hwf hk1 hk2 FI.out).mono ?_
      rintro e w4 ⟨rfl, hbel⟩
      have X_4 := Lib.hid (X_3.out.below hbel)
      have L_4 := Lib.hid (L_3.out.below hbel)
      have P_4 := Lib.hid (P_3.out.below hbel)
      have Q_4 := Lib.hid (Q_3.out.below hbel)
      have B4 := Lib.hid (B3.out.trans (hbel.mono hsz3))
      have hsz4 := B4.out.size
      clear X_3 L_3 P_3 Q_3 hbel
      go_wp2_with fail
      refine (shares_any k az sz _ _ L_4.out hwf hk1 hk2).mono ?_
      rintro e w5 ⟨hr, hbel⟩
      obtain rfl : e = .returned (.int .i64 5) := by
        rcases hr with ⟨h, _⟩ | ⟨_, h⟩
        · exact absurd h FI.out
        · exact h
      clear hr
      have X_5 := Lib.hid (X_4.out.below hbel)
      have L_5 := Lib.hid (L_4.out.below hbel)
      have P_5 := Lib.hid (P_4.out.below hbel)
      have Q_5 := Lib.hid (Q_4.out.below hbel)
      have B5 := Lib.hid (B4.out.trans (hbel.mono hsz4))
      have hsz5 := B5.out.size
      clear X_4 L_4 P_4 Q_4 hbel
      go_wp2
      go_ret
      exact ⟨rfl, B5.out⟩
  have hl0 : 1 ≤ zs.length := by omega
  by_cases c2 : n < 1 ∨ 64 < n
  · have C := Lib.hid (show zs.length < 1 ∨ n < 1 ∨ 64 < n ∨ n < zs.length by omega)
    have C2 := Lib.hid c2
    clear c2 c1
    have B0 := Lib.hid (Below.refl w.heap.size w)
    have hsz0 : w.heap.size ≤ w.heap.size := Nat.le_refl _
    go_enter Try.func8, Try.ntmps8
    go_wp2_with fail
    refine (encode_bad zs _ n _ X.out C.out).mono ?_
    rintro e w1 ⟨v1, rfl, hown, hbel⟩
    have X_1 := Lib.hid (X.out.below hbel)
    have L_1 := Lib.hid (L.out.below hbel)
    have P_1 := Lib.hid (hown.mono hsz0)
    have B1 := Lib.hid (B0.out.trans (hbel.mono hsz0))
    have hsz1 := B1.out.size
    clear X L hown hbel
    go_wp2_with fail
    refine (in_no n 1 64 _ C2.out).mono ?_
    rintro e w' ⟨rfl, rfl⟩
    go_wp2_with fail
    refine (equal_yes [] _ _ _ P_1.out.rd (Rd.nil _ _)).mono ?_
    rintro e w2 ⟨rfl, hbel⟩
    have X_2 := Lib.hid (X_1.out.below hbel)
    have L_2 := Lib.hid (L_1.out.below hbel)
    have P_2 := Lib.hid (P_1.out.below hbel)
    have B2 := Lib.hid (B1.out.trans (hbel.mono hsz1))
    have hsz2 := B2.out.size
    clear X_1 L_1 P_1 hbel
    by_cases t1 : k < 1 ∨ 64 < k
    · have T1 := Lib.hid t1
      clear t1
      go_wp2_with fail
      refine (rec_k k _ _ T1.out).mono ?_
      rintro e w3 ⟨v3, rfl, hown, hbel⟩
      have X_3 := Lib.hid (X_2.out.below hbel)
      have L_3 := Lib.hid (L_2.out.below hbel)
      have P_3 := Lib.hid (P_2.out.below hbel)
      have Q_3 := Lib.hid (hown.mono hsz2)
      have B3 := Lib.hid (B2.out.trans (hbel.mono hsz2))
      have hsz3 := B3.out.size
      clear X_2 L_2 P_2 hown hbel
      obtain ⟨qQ, cQ, rfl, _, _⟩ := Q_3.out.shape
      go_wp2_with fail
      refine (fits_k k _ _ T1.out).mono ?_
      rintro e w4 ⟨rfl, hbel⟩
      have X_4 := Lib.hid (X_3.out.below hbel)
      have L_4 := Lib.hid (L_3.out.below hbel)
      have P_4 := Lib.hid (P_3.out.below hbel)
      have Q_4 := Lib.hid (Q_3.out.below hbel)
      have B4 := Lib.hid (B3.out.trans (hbel.mono hsz3))
      have hsz4 := B4.out.size
      clear X_3 L_3 P_3 Q_3 hbel
      go_wp2_with fail
      refine (shares_k k _ _ T1.out).mono ?_
      rintro e w5 ⟨rfl, hbel⟩
      have X_5 := Lib.hid (X_4.out.below hbel)
      have L_5 := Lib.hid (L_4.out.below hbel)
      have P_5 := Lib.hid (P_4.out.below hbel)
      have Q_5 := Lib.hid (Q_4.out.below hbel)
      have B5 := Lib.hid (B4.out.trans (hbel.mono hsz4))
      have hsz5 := B5.out.size
      clear X_4 L_4 P_4 Q_4 hbel
      go_wp2
      go_ret
      exact ⟨rfl, B5.out⟩
    have hk1 : 1 ≤ k := by omega
    have hk2 : k ≤ 64 := by omega
    clear t1
    by_cases t2 : Fine az
    · have FI := Lib.hid t2
      clear t2
      obtain ⟨kn, hkn⟩ : ∃ kn : Nat, k = (kn : Int) := ⟨k.toNat, by omega⟩
      subst hkn
      have hn1 : 1 ≤ kn := by omega
      have hn2 : kn ≤ 64 := by omega
      by_cases t3 : az.length < kn
      · have hthr : ((thru az sz).length : Int) ≤ (kn : Int) := by have := thru_len az sz; omega
        have ON := Lib.hid ((sh_iff FI.out HL.out kn).1 (by omega))
        go_wp2_with fail
        refine (rec_any kn _ az sz _ _ L_2.out hwf hb rfl hn1 hn2 FI.out).mono ?_
        rintro e w3 hr
        obtain ⟨v3, rfl, hown, hbel⟩ : RetLE _ [] 4 e w3 := by
          rcases hr with ⟨_, h⟩ | ⟨h, _⟩ | ⟨h, _⟩
          · exact h
          · exact absurd h (by omega)
          · exact absurd h (by omega)
        clear hr
        have X_3 := Lib.hid (X_2.out.below hbel)
        have L_3 := Lib.hid (L_2.out.below hbel)
        have P_3 := Lib.hid (P_2.out.below hbel)
        have Q_3 := Lib.hid (hown.mono hsz2)
        have B3 := Lib.hid (B2.out.trans (hbel.mono hsz2))
        have hsz3 := B3.out.size
        clear X_2 L_2 P_2 hown hbel
        obtain ⟨qQ, cQ, rfl, _, _⟩ := Q_3.out.shape
        go_wp2_with fail
        refine (fits_any (kn : Int) az sz _ _ L_3.out hwf hb hk1 hk2 FI.out).mono ?_
        rintro e w4 ⟨rfl, hbel⟩
        have X_4 := Lib.hid (X_3.out.below hbel)
        have L_4 := Lib.hid (L_3.out.below hbel)
        have P_4 := Lib.hid (P_3.out.below hbel)
        have Q_4 := Lib.hid (Q_3.out.below hbel)
        have B4 := Lib.hid (B3.out.trans (hbel.mono hsz3))
        have hsz4 := B4.out.size
        clear X_3 L_3 P_3 Q_3 hbel
        go_wp2_with fail
        refine (shares_any (kn : Int) az sz _ _ L_4.out hwf hk1 hk2).mono ?_
        rintro e w5 ⟨hr, hbel⟩
        obtain rfl : e = .returned (.int .i64 0) := by
          rcases hr with ⟨_, h⟩ | ⟨h, _⟩
          · exact h
          · exact absurd FI.out h
        clear hr
        have X_5 := Lib.hid (X_4.out.below hbel)
        have L_5 := Lib.hid (L_4.out.below hbel)
        have P_5 := Lib.hid (P_4.out.below hbel)
        have Q_5 := Lib.hid (Q_4.out.below hbel)
        have B5 := Lib.hid (B4.out.trans (hbel.mono hsz4))
        have hsz5 := B5.out.size
        clear X_4 L_4 P_4 Q_4 hbel
        go_wp2_with fail
        refine (data_any kn _ az sz _ _ L_5.out hb rfl hn1 hn2 FI.out).mono ?_
        rintro e w6 hr
        obtain ⟨v6, rfl, hown, hbel⟩ : RetLE _ [] 4 e w6 := by
          rcases hr with ⟨h, _⟩ | ⟨_, _, h⟩ | ⟨_, h, _⟩
          · exact absurd ON.out h
          · exact h
          · exact absurd h (by omega)
        clear hr
        have X_6 := Lib.hid (X_5.out.below hbel)
        have L_6 := Lib.hid (L_5.out.below hbel)
        have P_6 := Lib.hid (P_5.out.below hbel)
        have Q_6 := Lib.hid (Q_5.out.below hbel)
        have D_6 := Lib.hid (hown.mono hsz5)
        have B6 := Lib.hid (B5.out.trans (hbel.mono hsz5))
        have hsz6 := B6.out.size
        clear X_5 L_5 P_5 Q_5 hown hbel
        go_wp2_with fail
        refine (equal_yes [] _ _ _ Q_6.out.rd D_6.out.rd).mono ?_
        rintro e w7 ⟨rfl, hbel⟩
        have X_7 := Lib.hid (X_6.out.below hbel)
        have L_7 := Lib.hid (L_6.out.below hbel)
        have P_7 := Lib.hid (P_6.out.below hbel)
        have Q_7 := Lib.hid (Q_6.out.below hbel)
        have D_7 := Lib.hid (D_6.out.below hbel)
        have B7 := Lib.hid (B6.out.trans (hbel.mono hsz6))
        have hsz7 := B7.out.size
        clear X_6 L_6 P_6 Q_6 D_6 hbel
        go_wp2
        go_ret
        exact ⟨rfl, B7.out⟩
      have t3' : kn ≤ az.length := by omega
      by_cases t4 : (thru az sz).length ≤ kn
      · have HM := Lib.hid (Nat.min_eq_right t3')
        have hthr : ((thru az sz).length : Int) ≤ (kn : Int) := by omega
        have ON := Lib.hid ((sh_iff FI.out HL.out kn).1 (by omega))
        go_wp2_with fail
        refine (rec_any kn _ az sz _ _ L_2.out hwf hb rfl hn1 hn2 FI.out).mono ?_
        rintro e w3 hr
        obtain ⟨v3, rfl, hown, hbel⟩ : RetLE _ (padF (thru az sz) kn) 0 e w3 := by
          rcases hr with ⟨h, _⟩ | ⟨_, h, _⟩ | ⟨_, _, h⟩
          · exact absurd h (by omega)
          · exact absurd h (by omega)
          · exact h
        clear hr
        rw [sh_eq FI.out HL.out kn ON.out, HM.out] at hown
        have X_3 := Lib.hid (X_2.out.below hbel)
        have L_3 := Lib.hid (L_2.out.below hbel)
        have P_3 := Lib.hid (P_2.out.below hbel)
        have Q_3 := Lib.hid (hown.mono hsz2)
        have B3 := Lib.hid (B2.out.trans (hbel.mono hsz2))
        have hsz3 := B3.out.size
        clear X_2 L_2 P_2 hown hbel
        obtain ⟨qQ, cQ, rfl, _, _⟩ := Q_3.out.shape
        go_wp2_with fail
        refine (fits_any (kn : Int) az sz _ _ L_3.out hwf hb hk1 hk2 FI.out).mono ?_
        rintro e w4 ⟨rfl, hbel⟩
        have X_4 := Lib.hid (X_3.out.below hbel)
        have L_4 := Lib.hid (L_3.out.below hbel)
        have P_4 := Lib.hid (P_3.out.below hbel)
        have Q_4 := Lib.hid (Q_3.out.below hbel)
        have B4 := Lib.hid (B3.out.trans (hbel.mono hsz3))
        have hsz4 := B4.out.size
        clear X_3 L_3 P_3 Q_3 hbel
        go_wp2_with fail
        refine (shares_any (kn : Int) az sz _ _ L_4.out hwf hk1 hk2).mono ?_
        rintro e w5 ⟨hr, hbel⟩
        obtain rfl : e = .returned (.int .i64 0) := by
          rcases hr with ⟨_, h⟩ | ⟨h, _⟩
          · exact h
          · exact absurd FI.out h
        clear hr
        have X_5 := Lib.hid (X_4.out.below hbel)
        have L_5 := Lib.hid (L_4.out.below hbel)
        have P_5 := Lib.hid (P_4.out.below hbel)
        have Q_5 := Lib.hid (Q_4.out.below hbel)
        have B5 := Lib.hid (B4.out.trans (hbel.mono hsz4))
        have hsz5 := B5.out.size
        clear X_4 L_4 P_4 Q_4 hbel
        go_wp2_with fail
        refine (data_any kn _ az sz _ _ L_5.out hb rfl hn1 hn2 FI.out).mono ?_
        rintro e w6 hr
        obtain ⟨v6, rfl, hown, hbel⟩ : RetLE _ (padF (thruK az sz (min az.length kn)) kn) 0 e w6 := by
          rcases hr with ⟨h, _⟩ | ⟨_, h, _⟩ | ⟨_, _, h⟩
          · exact absurd ON.out h
          · exact absurd h (by omega)
          · exact h
        clear hr
        rw [HM.out] at hown
        have X_6 := Lib.hid (X_5.out.below hbel)
        have L_6 := Lib.hid (L_5.out.below hbel)
        have P_6 := Lib.hid (P_5.out.below hbel)
        have Q_6 := Lib.hid (Q_5.out.below hbel)
        have D_6 := Lib.hid (hown.mono hsz5)
        have B6 := Lib.hid (B5.out.trans (hbel.mono hsz5))
        have hsz6 := B6.out.size
        clear X_5 L_5 P_5 Q_5 hown hbel
        go_wp2_with fail
        refine (equal_yes ((padF (thruK az sz kn) kn).map vl) _ _ _ Q_6.out.rd D_6.out.rd).mono ?_
        rintro e w7 ⟨rfl, hbel⟩
        have X_7 := Lib.hid (X_6.out.below hbel)
        have L_7 := Lib.hid (L_6.out.below hbel)
        have P_7 := Lib.hid (P_6.out.below hbel)
        have Q_7 := Lib.hid (Q_6.out.below hbel)
        have D_7 := Lib.hid (D_6.out.below hbel)
        have B7 := Lib.hid (B6.out.trans (hbel.mono hsz6))
        have hsz7 := B7.out.size
        clear X_6 L_6 P_6 Q_6 D_6 hbel
        go_wp2
        go_ret
        exact ⟨rfl, B7.out⟩
      · have hthr : ¬ ((thru az sz).length : Int) ≤ (kn : Int) := by omega
        have ON := Lib.hid (show ¬ On (thruK az sz (min az.length kn)) az sz az.length from fun h => absurd ((sh_iff FI.out HL.out kn).2 h) (by omega))
        go_wp2_with fail
        refine (rec_any kn _ az sz _ _ L_2.out hwf hb rfl hn1 hn2 FI.out).mono ?_
        rintro e w3 hr
        obtain ⟨v3, rfl, hown, hbel⟩ : RetLE _ [] 5 e w3 := by
          rcases hr with ⟨h, _⟩ | ⟨_, _, h⟩ | ⟨_, h, _⟩
          · exact absurd h (by omega)
          · exact h
          · exact absurd h (by omega)
        clear hr
        have X_3 := Lib.hid (X_2.out.below hbel)
        have L_3 := Lib.hid (L_2.out.below hbel)
        have P_3 := Lib.hid (P_2.out.below hbel)
        have Q_3 := Lib.hid (hown.mono hsz2)
        have B3 := Lib.hid (B2.out.trans (hbel.mono hsz2))
        have hsz3 := B3.out.size
        clear X_2 L_2 P_2 hown hbel
        obtain ⟨qQ, cQ, rfl, _, _⟩ := Q_3.out.shape
        go_wp2_with fail
        refine (fits_any (kn : Int) az sz _ _ L_3.out hwf hb hk1 hk2 FI.out).mono ?_
        rintro e w4 ⟨rfl, hbel⟩
        have X_4 := Lib.hid (X_3.out.below hbel)
        have L_4 := Lib.hid (L_3.out.below hbel)
        have P_4 := Lib.hid (P_3.out.below hbel)
        have Q_4 := Lib.hid (Q_3.out.below hbel)
        have B4 := Lib.hid (B3.out.trans (hbel.mono hsz3))
        have hsz4 := B4.out.size
        clear X_3 L_3 P_3 Q_3 hbel
        go_wp2_with fail
        refine (shares_any (kn : Int) az sz _ _ L_4.out hwf hk1 hk2).mono ?_
        rintro e w5 ⟨hr, hbel⟩
        obtain rfl : e = .returned (.int .i64 0) := by
          rcases hr with ⟨_, h⟩ | ⟨h, _⟩
          · exact h
          · exact absurd FI.out h
        clear hr
        have X_5 := Lib.hid (X_4.out.below hbel)
        have L_5 := Lib.hid (L_4.out.below hbel)
        have P_5 := Lib.hid (P_4.out.below hbel)
        have Q_5 := Lib.hid (Q_4.out.below hbel)
        have B5 := Lib.hid (B4.out.trans (hbel.mono hsz4))
        have hsz5 := B5.out.size
        clear X_4 L_4 P_4 Q_4 hbel
        go_wp2_with fail
        refine (data_any kn _ az sz _ _ L_5.out hb rfl hn1 hn2 FI.out).mono ?_
        rintro e w6 hr
        obtain ⟨v6, rfl, hown, hbel⟩ : RetLE _ [] 5 e w6 := by
          rcases hr with ⟨_, h⟩ | ⟨h, _⟩ | ⟨h, _⟩
          · exact h
          · exact absurd h ON.out
          · exact absurd h ON.out
        clear hr
        have X_6 := Lib.hid (X_5.out.below hbel)
        have L_6 := Lib.hid (L_5.out.below hbel)
        have P_6 := Lib.hid (P_5.out.below hbel)
        have Q_6 := Lib.hid (Q_5.out.below hbel)
        have D_6 := Lib.hid (hown.mono hsz5)
        have B6 := Lib.hid (B5.out.trans (hbel.mono hsz5))
        have hsz6 := B6.out.size
        clear X_5 L_5 P_5 Q_5 hown hbel
        go_wp2_with fail
        refine (equal_yes [] _ _ _ Q_6.out.rd D_6.out.rd).mono ?_
        rintro e w7 ⟨rfl, hbel⟩
        have X_7 := Lib.hid (X_6.out.below hbel)
        have L_7 := Lib.hid (L_6.out.below hbel)
        have P_7 := Lib.hid (P_6.out.below hbel)
        have Q_7 := Lib.hid (Q_6.out.below hbel)
        have D_7 := Lib.hid (D_6.out.below hbel)
        have B7 := Lib.hid (B6.out.trans (hbel.mono hsz6))
        have hsz7 := B7.out.size
        clear X_6 L_6 P_6 Q_6 D_6 hbel
        go_wp2
        go_ret
        exact ⟨rfl, B7.out⟩
    · have FI := Lib.hid t2
      clear t2
      go_wp2_with fail
      refine (rec_unfine k az sz _ _ L_2.out hwf hk1 hk2 FI.out).mono ?_
      rintro e w3 ⟨v3, rfl, hown, hbel⟩
      have X_3 := Lib.hid (X_2.out.below hbel)
      have L_3 := Lib.hid (L_2.out.below hbel)
      have P_3 := Lib.hid (P_2.out.below hbel)
      have Q_3 := Lib.hid (hown.mono hsz2)
      have B3 := Lib.hid (B2.out.trans (hbel.mono hsz2))
      have hsz3 := B3.out.size
      clear X_2 L_2 P_2 hown hbel
      obtain ⟨qQ, cQ, rfl, _, _⟩ := Q_3.out.shape
      go_wp2_with fail
      refine (fits_unfine k az sz _ _ L_3.out hwf hk1 hk2 FI.out).mono ?_
      rintro e w4 ⟨rfl, hbel⟩
      have X_4 := Lib.hid (X_3.out.below hbel)
      have L_4 := Lib.hid (L_3.out.below hbel)
      have P_4 := Lib.hid (P_3.out.below hbel)
      have Q_4 := Lib.hid (Q_3.out.below hbel)
      have B4 := Lib.hid (B3.out.trans (hbel.mono hsz3))
      have hsz4 := B4.out.size
      clear X_3 L_3 P_3 Q_3 hbel
      go_wp2_with fail
      refine (shares_any k az sz _ _ L_4.out hwf hk1 hk2).mono ?_
      rintro e w5 ⟨hr, hbel⟩
      obtain rfl : e = .returned (.int .i64 5) := by
        rcases hr with ⟨h, _⟩ | ⟨_, h⟩
        · exact absurd h FI.out
        · exact h
      clear hr
      have X_5 := Lib.hid (X_4.out.below hbel)
      have L_5 := Lib.hid (L_4.out.below hbel)
      have P_5 := Lib.hid (P_4.out.below hbel)
      have Q_5 := Lib.hid (Q_4.out.below hbel)
      have B5 := Lib.hid (B4.out.trans (hbel.mono hsz4))
      have hsz5 := B5.out.size
      clear X_4 L_4 P_4 Q_4 hbel
      go_wp2
      go_ret
      exact ⟨rfl, B5.out⟩
  have hn1 : 1 ≤ n := by omega
  have hn2 : n ≤ 64 := by omega
  by_cases c3 : n < zs.length
  · have C := Lib.hid (show zs.length < 1 ∨ n < 1 ∨ 64 < n ∨ n < zs.length by omega)
    clear c2 c1
    have B0 := Lib.hid (Below.refl w.heap.size w)
    have hsz0 : w.heap.size ≤ w.heap.size := Nat.le_refl _
    go_enter Try.func8, Try.ntmps8
    go_wp2_with fail
    refine (encode_bad zs _ n _ X.out C.out).mono ?_
    rintro e w1 ⟨v1, rfl, hown, hbel⟩
    have X_1 := Lib.hid (X.out.below hbel)
    have L_1 := Lib.hid (L.out.below hbel)
    have P_1 := Lib.hid (hown.mono hsz0)
    have B1 := Lib.hid (B0.out.trans (hbel.mono hsz0))
    have hsz1 := B1.out.size
    clear X L hown hbel
    go_wp2_with fail
    refine (in_yes n 1 64 _ hn1 hn2).mono ?_
    rintro e w' ⟨rfl, rfl⟩
    go_wp2_with fail
    refine (equal_yes [] _ _ _ P_1.out.rd (Rd.nil _ _)).mono ?_
    rintro e w2 ⟨rfl, hbel⟩
    have X_2 := Lib.hid (X_1.out.below hbel)
    have L_2 := Lib.hid (L_1.out.below hbel)
    have P_2 := Lib.hid (P_1.out.below hbel)
    have B2 := Lib.hid (B1.out.trans (hbel.mono hsz1))
    have hsz2 := B2.out.size
    clear X_1 L_1 P_1 hbel
    by_cases t1 : k < 1 ∨ 64 < k
    · have T1 := Lib.hid t1
      clear t1
      go_wp2_with fail
      refine (rec_k k _ _ T1.out).mono ?_
      rintro e w3 ⟨v3, rfl, hown, hbel⟩
      have X_3 := Lib.hid (X_2.out.below hbel)
      have L_3 := Lib.hid (L_2.out.below hbel)
      have P_3 := Lib.hid (P_2.out.below hbel)
      have Q_3 := Lib.hid (hown.mono hsz2)
      have B3 := Lib.hid (B2.out.trans (hbel.mono hsz2))
      have hsz3 := B3.out.size
      clear X_2 L_2 P_2 hown hbel
      obtain ⟨qQ, cQ, rfl, _, _⟩ := Q_3.out.shape
      go_wp2_with fail
      refine (fits_k k _ _ T1.out).mono ?_
      rintro e w4 ⟨rfl, hbel⟩
      have X_4 := Lib.hid (X_3.out.below hbel)
      have L_4 := Lib.hid (L_3.out.below hbel)
      have P_4 := Lib.hid (P_3.out.below hbel)
      have Q_4 := Lib.hid (Q_3.out.below hbel)
      have B4 := Lib.hid (B3.out.trans (hbel.mono hsz3))
      have hsz4 := B4.out.size
      clear X_3 L_3 P_3 Q_3 hbel
      go_wp2_with fail
      refine (shares_k k _ _ T1.out).mono ?_
      rintro e w5 ⟨rfl, hbel⟩
      have X_5 := Lib.hid (X_4.out.below hbel)
      have L_5 := Lib.hid (L_4.out.below hbel)
      have P_5 := Lib.hid (P_4.out.below hbel)
      have Q_5 := Lib.hid (Q_4.out.below hbel)
      have B5 := Lib.hid (B4.out.trans (hbel.mono hsz4))
      have hsz5 := B5.out.size
      clear X_4 L_4 P_4 Q_4 hbel
      go_wp2
      go_ret
      exact ⟨rfl, B5.out⟩
    have hk1 : 1 ≤ k := by omega
    have hk2 : k ≤ 64 := by omega
    clear t1
    by_cases t2 : Fine az
    · have FI := Lib.hid t2
      clear t2
      obtain ⟨kn, hkn⟩ : ∃ kn : Nat, k = (kn : Int) := ⟨k.toNat, by omega⟩
      subst hkn
      have hn1 : 1 ≤ kn := by omega
      have hn2 : kn ≤ 64 := by omega
      by_cases t3 : az.length < kn
      · have hthr : ((thru az sz).length : Int) ≤ (kn : Int) := by have := thru_len az sz; omega
        have ON := Lib.hid ((sh_iff FI.out HL.out kn).1 (by omega))
        go_wp2_with fail
        refine (rec_any kn _ az sz _ _ L_2.out hwf hb rfl hn1 hn2 FI.out).mono ?_
        rintro e w3 hr
        obtain ⟨v3, rfl, hown, hbel⟩ : RetLE _ [] 4 e w3 := by
          rcases hr with ⟨_, h⟩ | ⟨h, _⟩ | ⟨h, _⟩
          · exact h
          · exact absurd h (by omega)
          · exact absurd h (by omega)
        clear hr
        have X_3 := Lib.hid (X_2.out.below hbel)
        have L_3 := Lib.hid (L_2.out.below hbel)
        have P_3 := Lib.hid (P_2.out.below hbel)
        have Q_3 := Lib.hid (hown.mono hsz2)
        have B3 := Lib.hid (B2.out.trans (hbel.mono hsz2))
        have hsz3 := B3.out.size
        clear X_2 L_2 P_2 hown hbel
        obtain ⟨qQ, cQ, rfl, _, _⟩ := Q_3.out.shape
        go_wp2_with fail
        refine (fits_any (kn : Int) az sz _ _ L_3.out hwf hb hk1 hk2 FI.out).mono ?_
        rintro e w4 ⟨rfl, hbel⟩
        have X_4 := Lib.hid (X_3.out.below hbel)
        have L_4 := Lib.hid (L_3.out.below hbel)
        have P_4 := Lib.hid (P_3.out.below hbel)
        have Q_4 := Lib.hid (Q_3.out.below hbel)
        have B4 := Lib.hid (B3.out.trans (hbel.mono hsz3))
        have hsz4 := B4.out.size
        clear X_3 L_3 P_3 Q_3 hbel
        go_wp2_with fail
        refine (shares_any (kn : Int) az sz _ _ L_4.out hwf hk1 hk2).mono ?_
        rintro e w5 ⟨hr, hbel⟩
        obtain rfl : e = .returned (.int .i64 0) := by
          rcases hr with ⟨_, h⟩ | ⟨h, _⟩
          · exact h
          · exact absurd FI.out h
        clear hr
        have X_5 := Lib.hid (X_4.out.below hbel)
        have L_5 := Lib.hid (L_4.out.below hbel)
        have P_5 := Lib.hid (P_4.out.below hbel)
        have Q_5 := Lib.hid (Q_4.out.below hbel)
        have B5 := Lib.hid (B4.out.trans (hbel.mono hsz4))
        have hsz5 := B5.out.size
        clear X_4 L_4 P_4 Q_4 hbel
        go_wp2_with fail
        refine (data_any kn _ az sz _ _ L_5.out hb rfl hn1 hn2 FI.out).mono ?_
        rintro e w6 hr
        obtain ⟨v6, rfl, hown, hbel⟩ : RetLE _ [] 4 e w6 := by
          rcases hr with ⟨h, _⟩ | ⟨_, _, h⟩ | ⟨_, h, _⟩
          · exact absurd ON.out h
          · exact h
          · exact absurd h (by omega)
        clear hr
        have X_6 := Lib.hid (X_5.out.below hbel)
        have L_6 := Lib.hid (L_5.out.below hbel)
        have P_6 := Lib.hid (P_5.out.below hbel)
        have Q_6 := Lib.hid (Q_5.out.below hbel)
        have D_6 := Lib.hid (hown.mono hsz5)
        have B6 := Lib.hid (B5.out.trans (hbel.mono hsz5))
        have hsz6 := B6.out.size
        clear X_5 L_5 P_5 Q_5 hown hbel
        go_wp2_with fail
        refine (equal_yes [] _ _ _ Q_6.out.rd D_6.out.rd).mono ?_
        rintro e w7 ⟨rfl, hbel⟩
        have X_7 := Lib.hid (X_6.out.below hbel)
        have L_7 := Lib.hid (L_6.out.below hbel)
        have P_7 := Lib.hid (P_6.out.below hbel)
        have Q_7 := Lib.hid (Q_6.out.below hbel)
        have D_7 := Lib.hid (D_6.out.below hbel)
        have B7 := Lib.hid (B6.out.trans (hbel.mono hsz6))
        have hsz7 := B7.out.size
        clear X_6 L_6 P_6 Q_6 D_6 hbel
        go_wp2
        go_ret
        exact ⟨rfl, B7.out⟩
      have t3' : kn ≤ az.length := by omega
      by_cases t4 : (thru az sz).length ≤ kn
      · have HM := Lib.hid (Nat.min_eq_right t3')
        have hthr : ((thru az sz).length : Int) ≤ (kn : Int) := by omega
        have ON := Lib.hid ((sh_iff FI.out HL.out kn).1 (by omega))
        go_wp2_with fail
        refine (rec_any kn _ az sz _ _ L_2.out hwf hb rfl hn1 hn2 FI.out).mono ?_
        rintro e w3 hr
        obtain ⟨v3, rfl, hown, hbel⟩ : RetLE _ (padF (thru az sz) kn) 0 e w3 := by
          rcases hr with ⟨h, _⟩ | ⟨_, h, _⟩ | ⟨_, _, h⟩
          · exact absurd h (by omega)
          · exact absurd h (by omega)
          · exact h
        clear hr
        rw [sh_eq FI.out HL.out kn ON.out, HM.out] at hown
        have X_3 := Lib.hid (X_2.out.below hbel)
        have L_3 := Lib.hid (L_2.out.below hbel)
        have P_3 := Lib.hid (P_2.out.below hbel)
        have Q_3 := Lib.hid (hown.mono hsz2)
        have B3 := Lib.hid (B2.out.trans (hbel.mono hsz2))
        have hsz3 := B3.out.size
        clear X_2 L_2 P_2 hown hbel
        obtain ⟨qQ, cQ, rfl, _, _⟩ := Q_3.out.shape
        go_wp2_with fail
        refine (fits_any (kn : Int) az sz _ _ L_3.out hwf hb hk1 hk2 FI.out).mono ?_
        rintro e w4 ⟨rfl, hbel⟩
        have X_4 := Lib.hid (X_3.out.below hbel)
        have L_4 := Lib.hid (L_3.out.below hbel)
        have P_4 := Lib.hid (P_3.out.below hbel)
        have Q_4 := Lib.hid (Q_3.out.below hbel)
        have B4 := Lib.hid (B3.out.trans (hbel.mono hsz3))
        have hsz4 := B4.out.size
        clear X_3 L_3 P_3 Q_3 hbel
        go_wp2_with fail
        refine (shares_any (kn : Int) az sz _ _ L_4.out hwf hk1 hk2).mono ?_
        rintro e w5 ⟨hr, hbel⟩
        obtain rfl : e = .returned (.int .i64 0) := by
          rcases hr with ⟨_, h⟩ | ⟨h, _⟩
          · exact h
          · exact absurd FI.out h
        clear hr
        have X_5 := Lib.hid (X_4.out.below hbel)
        have L_5 := Lib.hid (L_4.out.below hbel)
        have P_5 := Lib.hid (P_4.out.below hbel)
        have Q_5 := Lib.hid (Q_4.out.below hbel)
        have B5 := Lib.hid (B4.out.trans (hbel.mono hsz4))
        have hsz5 := B5.out.size
        clear X_4 L_4 P_4 Q_4 hbel
        go_wp2_with fail
        refine (data_any kn _ az sz _ _ L_5.out hb rfl hn1 hn2 FI.out).mono ?_
        rintro e w6 hr
        obtain ⟨v6, rfl, hown, hbel⟩ : RetLE _ (padF (thruK az sz (min az.length kn)) kn) 0 e w6 := by
          rcases hr with ⟨h, _⟩ | ⟨_, h, _⟩ | ⟨_, _, h⟩
          · exact absurd ON.out h
          · exact absurd h (by omega)
          · exact h
        clear hr
        rw [HM.out] at hown
        have X_6 := Lib.hid (X_5.out.below hbel)
        have L_6 := Lib.hid (L_5.out.below hbel)
        have P_6 := Lib.hid (P_5.out.below hbel)
        have Q_6 := Lib.hid (Q_5.out.below hbel)
        have D_6 := Lib.hid (hown.mono hsz5)
        have B6 := Lib.hid (B5.out.trans (hbel.mono hsz5))
        have hsz6 := B6.out.size
        clear X_5 L_5 P_5 Q_5 hown hbel
        go_wp2_with fail
        refine (equal_yes ((padF (thruK az sz kn) kn).map vl) _ _ _ Q_6.out.rd D_6.out.rd).mono ?_
        rintro e w7 ⟨rfl, hbel⟩
        have X_7 := Lib.hid (X_6.out.below hbel)
        have L_7 := Lib.hid (L_6.out.below hbel)
        have P_7 := Lib.hid (P_6.out.below hbel)
        have Q_7 := Lib.hid (Q_6.out.below hbel)
        have D_7 := Lib.hid (D_6.out.below hbel)
        have B7 := Lib.hid (B6.out.trans (hbel.mono hsz6))
        have hsz7 := B7.out.size
        clear X_6 L_6 P_6 Q_6 D_6 hbel
        go_wp2
        go_ret
        exact ⟨rfl, B7.out⟩
      · have hthr : ¬ ((thru az sz).length : Int) ≤ (kn : Int) := by omega
        have ON := Lib.hid (show ¬ On (thruK az sz (min az.length kn)) az sz az.length from fun h => absurd ((sh_iff FI.out HL.out kn).2 h) (by omega))
        go_wp2_with fail
        refine (rec_any kn _ az sz _ _ L_2.out hwf hb rfl hn1 hn2 FI.out).mono ?_
        rintro e w3 hr
        obtain ⟨v3, rfl, hown, hbel⟩ : RetLE _ [] 5 e w3 := by
          rcases hr with ⟨h, _⟩ | ⟨_, _, h⟩ | ⟨_, h, _⟩
          · exact absurd h (by omega)
          · exact h
          · exact absurd h (by omega)
        clear hr
        have X_3 := Lib.hid (X_2.out.below hbel)
        have L_3 := Lib.hid (L_2.out.below hbel)
        have P_3 := Lib.hid (P_2.out.below hbel)
        have Q_3 := Lib.hid (hown.mono hsz2)
        have B3 := Lib.hid (B2.out.trans (hbel.mono hsz2))
        have hsz3 := B3.out.size
        clear X_2 L_2 P_2 hown hbel
        obtain ⟨qQ, cQ, rfl, _, _⟩ := Q_3.out.shape
        go_wp2_with fail
        refine (fits_any (kn : Int) az sz _ _ L_3.out hwf hb hk1 hk2 FI.out).mono ?_
        rintro e w4 ⟨rfl, hbel⟩
        have X_4 := Lib.hid (X_3.out.below hbel)
        have L_4 := Lib.hid (L_3.out.below hbel)
        have P_4 := Lib.hid (P_3.out.below hbel)
        have Q_4 := Lib.hid (Q_3.out.below hbel)
        have B4 := Lib.hid (B3.out.trans (hbel.mono hsz3))
        have hsz4 := B4.out.size
        clear X_3 L_3 P_3 Q_3 hbel
        go_wp2_with fail
        refine (shares_any (kn : Int) az sz _ _ L_4.out hwf hk1 hk2).mono ?_
        rintro e w5 ⟨hr, hbel⟩
        obtain rfl : e = .returned (.int .i64 0) := by
          rcases hr with ⟨_, h⟩ | ⟨h, _⟩
          · exact h
          · exact absurd FI.out h
        clear hr
        have X_5 := Lib.hid (X_4.out.below hbel)
        have L_5 := Lib.hid (L_4.out.below hbel)
        have P_5 := Lib.hid (P_4.out.below hbel)
        have Q_5 := Lib.hid (Q_4.out.below hbel)
        have B5 := Lib.hid (B4.out.trans (hbel.mono hsz4))
        have hsz5 := B5.out.size
        clear X_4 L_4 P_4 Q_4 hbel
        go_wp2_with fail
        refine (data_any kn _ az sz _ _ L_5.out hb rfl hn1 hn2 FI.out).mono ?_
        rintro e w6 hr
        obtain ⟨v6, rfl, hown, hbel⟩ : RetLE _ [] 5 e w6 := by
          rcases hr with ⟨_, h⟩ | ⟨h, _⟩ | ⟨h, _⟩
          · exact h
          · exact absurd h ON.out
          · exact absurd h ON.out
        clear hr
        have X_6 := Lib.hid (X_5.out.below hbel)
        have L_6 := Lib.hid (L_5.out.below hbel)
        have P_6 := Lib.hid (P_5.out.below hbel)
        have Q_6 := Lib.hid (Q_5.out.below hbel)
        have D_6 := Lib.hid (hown.mono hsz5)
        have B6 := Lib.hid (B5.out.trans (hbel.mono hsz5))
        have hsz6 := B6.out.size
        clear X_5 L_5 P_5 Q_5 hown hbel
        go_wp2_with fail
        refine (equal_yes [] _ _ _ Q_6.out.rd D_6.out.rd).mono ?_
        rintro e w7 ⟨rfl, hbel⟩
        have X_7 := Lib.hid (X_6.out.below hbel)
        have L_7 := Lib.hid (L_6.out.below hbel)
        have P_7 := Lib.hid (P_6.out.below hbel)
        have Q_7 := Lib.hid (Q_6.out.below hbel)
        have D_7 := Lib.hid (D_6.out.below hbel)
        have B7 := Lib.hid (B6.out.trans (hbel.mono hsz6))
        have hsz7 := B7.out.size
        clear X_6 L_6 P_6 Q_6 D_6 hbel
        go_wp2
        go_ret
        exact ⟨rfl, B7.out⟩
    · have FI := Lib.hid t2
      clear t2
      go_wp2_with fail
      refine (rec_unfine k az sz _ _ L_2.out hwf hk1 hk2 FI.out).mono ?_
      rintro e w3 ⟨v3, rfl, hown, hbel⟩
      have X_3 := Lib.hid (X_2.out.below hbel)
      have L_3 := Lib.hid (L_2.out.below hbel)
      have P_3 := Lib.hid (P_2.out.below hbel)
      have Q_3 := Lib.hid (hown.mono hsz2)
      have B3 := Lib.hid (B2.out.trans (hbel.mono hsz2))
      have hsz3 := B3.out.size
      clear X_2 L_2 P_2 hown hbel
      obtain ⟨qQ, cQ, rfl, _, _⟩ := Q_3.out.shape
      go_wp2_with fail
      refine (fits_unfine k az sz _ _ L_3.out hwf hk1 hk2 FI.out).mono ?_
      rintro e w4 ⟨rfl, hbel⟩
      have X_4 := Lib.hid (X_3.out.below hbel)
      have L_4 := Lib.hid (L_3.out.below hbel)
      have P_4 := Lib.hid (P_3.out.below hbel)
      have Q_4 := Lib.hid (Q_3.out.below hbel)
      have B4 := Lib.hid (B3.out.trans (hbel.mono hsz3))
      have hsz4 := B4.out.size
      clear X_3 L_3 P_3 Q_3 hbel
      go_wp2_with fail
      refine (shares_any k az sz _ _ L_4.out hwf hk1 hk2).mono ?_
      rintro e w5 ⟨hr, hbel⟩
      obtain rfl : e = .returned (.int .i64 5) := by
        rcases hr with ⟨h, _⟩ | ⟨_, h⟩
        · exact absurd h FI.out
        · exact h
      clear hr
      have X_5 := Lib.hid (X_4.out.below hbel)
      have L_5 := Lib.hid (L_4.out.below hbel)
      have P_5 := Lib.hid (P_4.out.below hbel)
      have Q_5 := Lib.hid (Q_4.out.below hbel)
      have B5 := Lib.hid (B4.out.trans (hbel.mono hsz4))
      have hsz5 := B5.out.size
      clear X_4 L_4 P_4 Q_4 hbel
      go_wp2
      go_ret
      exact ⟨rfl, B5.out⟩
  · clear c2 c1
    have B0 := Lib.hid (Below.refl w.heap.size w)
    have hsz0 : w.heap.size ≤ w.heap.size := Nat.le_refl _
    go_enter Try.func8, Try.ntmps8
    go_wp2_with fail
    refine (encode_any zs _ n.toNat n _ X.out hz (by omega) (by omega) (by omega) (by omega) (by omega)).mono ?_
    rintro e w1 ⟨v1, rfl, hown, hbel⟩
    have X_1 := Lib.hid (X.out.below hbel)
    have L_1 := Lib.hid (L.out.below hbel)
    have P_1 := Lib.hid (hown.mono hsz0)
    have B1 := Lib.hid (B0.out.trans (hbel.mono hsz0))
    have hsz1 := B1.out.size
    clear X L hown hbel
    go_wp2_with fail
    refine (in_yes n 1 64 _ hn1 hn2).mono ?_
    rintro e w' ⟨rfl, rfl⟩
    go_wp2_with fail
    refine (symbols_any zs _ n.toNat n _ X_1.out hz (by omega) (by omega)).mono ?_
    rintro e w2 ⟨v2, rfl, hown, hbel⟩
    have X_2 := Lib.hid (X_1.out.below hbel)
    have L_2 := Lib.hid (L_1.out.below hbel)
    have P_2 := Lib.hid (P_1.out.below hbel)
    have S_2 := Lib.hid (hown.mono hsz1)
    have B2 := Lib.hid (B1.out.trans (hbel.mono hsz1))
    have hsz2 := B2.out.size
    clear X_1 L_1 P_1 hown hbel
    go_wp2_with fail
    refine (equal_yes ((syms (zs.map toF) n.toNat).map vl) _ _ _ P_2.out.rd S_2.out.rd).mono ?_
    rintro e w3 ⟨rfl, hbel⟩
    have X_3 := Lib.hid (X_2.out.below hbel)
    have L_3 := Lib.hid (L_2.out.below hbel)
    have P_3 := Lib.hid (P_2.out.below hbel)
    have S_3 := Lib.hid (S_2.out.below hbel)
    have B3 := Lib.hid (B2.out.trans (hbel.mono hsz2))
    have hsz3 := B3.out.size
    clear X_2 L_2 P_2 S_2 hbel
    by_cases t1 : k < 1 ∨ 64 < k
    · have T1 := Lib.hid t1
      clear t1
      go_wp2_with fail
      refine (rec_k k _ _ T1.out).mono ?_
      rintro e w4 ⟨v4, rfl, hown, hbel⟩
      have X_4 := Lib.hid (X_3.out.below hbel)
      have L_4 := Lib.hid (L_3.out.below hbel)
      have P_4 := Lib.hid (P_3.out.below hbel)
      have S_4 := Lib.hid (S_3.out.below hbel)
      have Q_4 := Lib.hid (hown.mono hsz3)
      have B4 := Lib.hid (B3.out.trans (hbel.mono hsz3))
      have hsz4 := B4.out.size
      clear X_3 L_3 P_3 S_3 hown hbel
      obtain ⟨qQ, cQ, rfl, _, _⟩ := Q_4.out.shape
      go_wp2_with fail
      refine (fits_k k _ _ T1.out).mono ?_
      rintro e w5 ⟨rfl, hbel⟩
      have X_5 := Lib.hid (X_4.out.below hbel)
      have L_5 := Lib.hid (L_4.out.below hbel)
      have P_5 := Lib.hid (P_4.out.below hbel)
      have S_5 := Lib.hid (S_4.out.below hbel)
      have Q_5 := Lib.hid (Q_4.out.below hbel)
      have B5 := Lib.hid (B4.out.trans (hbel.mono hsz4))
      have hsz5 := B5.out.size
      clear X_4 L_4 P_4 S_4 Q_4 hbel
      go_wp2_with fail
      refine (shares_k k _ _ T1.out).mono ?_
      rintro e w6 ⟨rfl, hbel⟩
      have X_6 := Lib.hid (X_5.out.below hbel)
      have L_6 := Lib.hid (L_5.out.below hbel)
      have P_6 := Lib.hid (P_5.out.below hbel)
      have S_6 := Lib.hid (S_5.out.below hbel)
      have Q_6 := Lib.hid (Q_5.out.below hbel)
      have B6 := Lib.hid (B5.out.trans (hbel.mono hsz5))
      have hsz6 := B6.out.size
      clear X_5 L_5 P_5 S_5 Q_5 hbel
      go_wp2
      go_ret
      exact ⟨rfl, B6.out⟩
    have hk1 : 1 ≤ k := by omega
    have hk2 : k ≤ 64 := by omega
    clear t1
    by_cases t2 : Fine az
    · have FI := Lib.hid t2
      clear t2
      obtain ⟨kn, hkn⟩ : ∃ kn : Nat, k = (kn : Int) := ⟨k.toNat, by omega⟩
      subst hkn
      have hn1 : 1 ≤ kn := by omega
      have hn2 : kn ≤ 64 := by omega
      by_cases t3 : az.length < kn
      · have hthr : ((thru az sz).length : Int) ≤ (kn : Int) := by have := thru_len az sz; omega
        have ON := Lib.hid ((sh_iff FI.out HL.out kn).1 (by omega))
        go_wp2_with fail
        refine (rec_any kn _ az sz _ _ L_3.out hwf hb rfl hn1 hn2 FI.out).mono ?_
        rintro e w4 hr
        obtain ⟨v4, rfl, hown, hbel⟩ : RetLE _ [] 4 e w4 := by
          rcases hr with ⟨_, h⟩ | ⟨h, _⟩ | ⟨h, _⟩
          · exact h
          · exact absurd h (by omega)
          · exact absurd h (by omega)
        clear hr
        have X_4 := Lib.hid (X_3.out.below hbel)
        have L_4 := Lib.hid (L_3.out.below hbel)
        have P_4 := Lib.hid (P_3.out.below hbel)
        have S_4 := Lib.hid (S_3.out.below hbel)
        have Q_4 := Lib.hid (hown.mono hsz3)
        have B4 := Lib.hid (B3.out.trans (hbel.mono hsz3))
        have hsz4 := B4.out.size
        clear X_3 L_3 P_3 S_3 hown hbel
        obtain ⟨qQ, cQ, rfl, _, _⟩ := Q_4.out.shape
        go_wp2_with fail
        refine (fits_any (kn : Int) az sz _ _ L_4.out hwf hb hk1 hk2 FI.out).mono ?_
        rintro e w5 ⟨rfl, hbel⟩
        have X_5 := Lib.hid (X_4.out.below hbel)
        have L_5 := Lib.hid (L_4.out.below hbel)
        have P_5 := Lib.hid (P_4.out.below hbel)
        have S_5 := Lib.hid (S_4.out.below hbel)
        have Q_5 := Lib.hid (Q_4.out.below hbel)
        have B5 := Lib.hid (B4.out.trans (hbel.mono hsz4))
        have hsz5 := B5.out.size
        clear X_4 L_4 P_4 S_4 Q_4 hbel
        go_wp2_with fail
        refine (shares_any (kn : Int) az sz _ _ L_5.out hwf hk1 hk2).mono ?_
        rintro e w6 ⟨hr, hbel⟩
        obtain rfl : e = .returned (.int .i64 0) := by
          rcases hr with ⟨_, h⟩ | ⟨h, _⟩
          · exact h
          · exact absurd FI.out h
        clear hr
        have X_6 := Lib.hid (X_5.out.below hbel)
        have L_6 := Lib.hid (L_5.out.below hbel)
        have P_6 := Lib.hid (P_5.out.below hbel)
        have S_6 := Lib.hid (S_5.out.below hbel)
        have Q_6 := Lib.hid (Q_5.out.below hbel)
        have B6 := Lib.hid (B5.out.trans (hbel.mono hsz5))
        have hsz6 := B6.out.size
        clear X_5 L_5 P_5 S_5 Q_5 hbel
        go_wp2_with fail
        refine (data_any kn _ az sz _ _ L_6.out hb rfl hn1 hn2 FI.out).mono ?_
        rintro e w7 hr
        obtain ⟨v7, rfl, hown, hbel⟩ : RetLE _ [] 4 e w7 := by
          rcases hr with ⟨h, _⟩ | ⟨_, _, h⟩ | ⟨_, h, _⟩
          · exact absurd ON.out h
          · exact h
          · exact absurd h (by omega)
        clear hr
        have X_7 := Lib.hid (X_6.out.below hbel)
        have L_7 := Lib.hid (L_6.out.below hbel)
        have P_7 := Lib.hid (P_6.out.below hbel)
        have S_7 := Lib.hid (S_6.out.below hbel)
        have Q_7 := Lib.hid (Q_6.out.below hbel)
        have D_7 := Lib.hid (hown.mono hsz6)
        have B7 := Lib.hid (B6.out.trans (hbel.mono hsz6))
        have hsz7 := B7.out.size
        clear X_6 L_6 P_6 S_6 Q_6 hown hbel
        go_wp2_with fail
        refine (equal_yes [] _ _ _ Q_7.out.rd D_7.out.rd).mono ?_
        rintro e w8 ⟨rfl, hbel⟩
        have X_8 := Lib.hid (X_7.out.below hbel)
        have L_8 := Lib.hid (L_7.out.below hbel)
        have P_8 := Lib.hid (P_7.out.below hbel)
        have S_8 := Lib.hid (S_7.out.below hbel)
        have Q_8 := Lib.hid (Q_7.out.below hbel)
        have D_8 := Lib.hid (D_7.out.below hbel)
        have B8 := Lib.hid (B7.out.trans (hbel.mono hsz7))
        have hsz8 := B8.out.size
        clear X_7 L_7 P_7 S_7 Q_7 D_7 hbel
        go_wp2
        go_ret
        exact ⟨rfl, B8.out⟩
      have t3' : kn ≤ az.length := by omega
      by_cases t4 : (thru az sz).length ≤ kn
      · have HM := Lib.hid (Nat.min_eq_right t3')
        have hthr : ((thru az sz).length : Int) ≤ (kn : Int) := by omega
        have ON := Lib.hid ((sh_iff FI.out HL.out kn).1 (by omega))
        go_wp2_with fail
        refine (rec_any kn _ az sz _ _ L_3.out hwf hb rfl hn1 hn2 FI.out).mono ?_
        rintro e w4 hr
        obtain ⟨v4, rfl, hown, hbel⟩ : RetLE _ (padF (thru az sz) kn) 0 e w4 := by
          rcases hr with ⟨h, _⟩ | ⟨_, h, _⟩ | ⟨_, _, h⟩
          · exact absurd h (by omega)
          · exact absurd h (by omega)
          · exact h
        clear hr
        rw [sh_eq FI.out HL.out kn ON.out, HM.out] at hown
        have X_4 := Lib.hid (X_3.out.below hbel)
        have L_4 := Lib.hid (L_3.out.below hbel)
        have P_4 := Lib.hid (P_3.out.below hbel)
        have S_4 := Lib.hid (S_3.out.below hbel)
        have Q_4 := Lib.hid (hown.mono hsz3)
        have B4 := Lib.hid (B3.out.trans (hbel.mono hsz3))
        have hsz4 := B4.out.size
        clear X_3 L_3 P_3 S_3 hown hbel
        obtain ⟨qQ, cQ, rfl, _, _⟩ := Q_4.out.shape
        go_wp2_with fail
        refine (fits_any (kn : Int) az sz _ _ L_4.out hwf hb hk1 hk2 FI.out).mono ?_
        rintro e w5 ⟨rfl, hbel⟩
        have X_5 := Lib.hid (X_4.out.below hbel)
        have L_5 := Lib.hid (L_4.out.below hbel)
        have P_5 := Lib.hid (P_4.out.below hbel)
        have S_5 := Lib.hid (S_4.out.below hbel)
        have Q_5 := Lib.hid (Q_4.out.below hbel)
        have B5 := Lib.hid (B4.out.trans (hbel.mono hsz4))
        have hsz5 := B5.out.size
        clear X_4 L_4 P_4 S_4 Q_4 hbel
        go_wp2_with fail
        refine (shares_any (kn : Int) az sz _ _ L_5.out hwf hk1 hk2).mono ?_
        rintro e w6 ⟨hr, hbel⟩
        obtain rfl : e = .returned (.int .i64 0) := by
          rcases hr with ⟨_, h⟩ | ⟨h, _⟩
          · exact h
          · exact absurd FI.out h
        clear hr
        have X_6 := Lib.hid (X_5.out.below hbel)
        have L_6 := Lib.hid (L_5.out.below hbel)
        have P_6 := Lib.hid (P_5.out.below hbel)
        have S_6 := Lib.hid (S_5.out.below hbel)
        have Q_6 := Lib.hid (Q_5.out.below hbel)
        have B6 := Lib.hid (B5.out.trans (hbel.mono hsz5))
        have hsz6 := B6.out.size
        clear X_5 L_5 P_5 S_5 Q_5 hbel
        go_wp2_with fail
        refine (data_any kn _ az sz _ _ L_6.out hb rfl hn1 hn2 FI.out).mono ?_
        rintro e w7 hr
        obtain ⟨v7, rfl, hown, hbel⟩ : RetLE _ (padF (thruK az sz (min az.length kn)) kn) 0 e w7 := by
          rcases hr with ⟨h, _⟩ | ⟨_, h, _⟩ | ⟨_, _, h⟩
          · exact absurd ON.out h
          · exact absurd h (by omega)
          · exact h
        clear hr
        rw [HM.out] at hown
        have X_7 := Lib.hid (X_6.out.below hbel)
        have L_7 := Lib.hid (L_6.out.below hbel)
        have P_7 := Lib.hid (P_6.out.below hbel)
        have S_7 := Lib.hid (S_6.out.below hbel)
        have Q_7 := Lib.hid (Q_6.out.below hbel)
        have D_7 := Lib.hid (hown.mono hsz6)
        have B7 := Lib.hid (B6.out.trans (hbel.mono hsz6))
        have hsz7 := B7.out.size
        clear X_6 L_6 P_6 S_6 Q_6 hown hbel
        go_wp2_with fail
        refine (equal_yes ((padF (thruK az sz kn) kn).map vl) _ _ _ Q_7.out.rd D_7.out.rd).mono ?_
        rintro e w8 ⟨rfl, hbel⟩
        have X_8 := Lib.hid (X_7.out.below hbel)
        have L_8 := Lib.hid (L_7.out.below hbel)
        have P_8 := Lib.hid (P_7.out.below hbel)
        have S_8 := Lib.hid (S_7.out.below hbel)
        have Q_8 := Lib.hid (Q_7.out.below hbel)
        have D_8 := Lib.hid (D_7.out.below hbel)
        have B8 := Lib.hid (B7.out.trans (hbel.mono hsz7))
        have hsz8 := B8.out.size
        clear X_7 L_7 P_7 S_7 Q_7 D_7 hbel
        go_wp2
        go_ret
        exact ⟨rfl, B8.out⟩
      · have hthr : ¬ ((thru az sz).length : Int) ≤ (kn : Int) := by omega
        have ON := Lib.hid (show ¬ On (thruK az sz (min az.length kn)) az sz az.length from fun h => absurd ((sh_iff FI.out HL.out kn).2 h) (by omega))
        go_wp2_with fail
        refine (rec_any kn _ az sz _ _ L_3.out hwf hb rfl hn1 hn2 FI.out).mono ?_
        rintro e w4 hr
        obtain ⟨v4, rfl, hown, hbel⟩ : RetLE _ [] 5 e w4 := by
          rcases hr with ⟨h, _⟩ | ⟨_, _, h⟩ | ⟨_, h, _⟩
          · exact absurd h (by omega)
          · exact h
          · exact absurd h (by omega)
        clear hr
        have X_4 := Lib.hid (X_3.out.below hbel)
        have L_4 := Lib.hid (L_3.out.below hbel)
        have P_4 := Lib.hid (P_3.out.below hbel)
        have S_4 := Lib.hid (S_3.out.below hbel)
        have Q_4 := Lib.hid (hown.mono hsz3)
        have B4 := Lib.hid (B3.out.trans (hbel.mono hsz3))
        have hsz4 := B4.out.size
        clear X_3 L_3 P_3 S_3 hown hbel
        obtain ⟨qQ, cQ, rfl, _, _⟩ := Q_4.out.shape
        go_wp2_with fail
        refine (fits_any (kn : Int) az sz _ _ L_4.out hwf hb hk1 hk2 FI.out).mono ?_
        rintro e w5 ⟨rfl, hbel⟩
        have X_5 := Lib.hid (X_4.out.below hbel)
        have L_5 := Lib.hid (L_4.out.below hbel)
        have P_5 := Lib.hid (P_4.out.below hbel)
        have S_5 := Lib.hid (S_4.out.below hbel)
        have Q_5 := Lib.hid (Q_4.out.below hbel)
        have B5 := Lib.hid (B4.out.trans (hbel.mono hsz4))
        have hsz5 := B5.out.size
        clear X_4 L_4 P_4 S_4 Q_4 hbel
        go_wp2_with fail
        refine (shares_any (kn : Int) az sz _ _ L_5.out hwf hk1 hk2).mono ?_
        rintro e w6 ⟨hr, hbel⟩
        obtain rfl : e = .returned (.int .i64 0) := by
          rcases hr with ⟨_, h⟩ | ⟨h, _⟩
          · exact h
          · exact absurd FI.out h
        clear hr
        have X_6 := Lib.hid (X_5.out.below hbel)
        have L_6 := Lib.hid (L_5.out.below hbel)
        have P_6 := Lib.hid (P_5.out.below hbel)
        have S_6 := Lib.hid (S_5.out.below hbel)
        have Q_6 := Lib.hid (Q_5.out.below hbel)
        have B6 := Lib.hid (B5.out.trans (hbel.mono hsz5))
        have hsz6 := B6.out.size
        clear X_5 L_5 P_5 S_5 Q_5 hbel
        go_wp2_with fail
        refine (data_any kn _ az sz _ _ L_6.out hb rfl hn1 hn2 FI.out).mono ?_
        rintro e w7 hr
        obtain ⟨v7, rfl, hown, hbel⟩ : RetLE _ [] 5 e w7 := by
          rcases hr with ⟨_, h⟩ | ⟨h, _⟩ | ⟨h, _⟩
          · exact h
          · exact absurd h ON.out
          · exact absurd h ON.out
        clear hr
        have X_7 := Lib.hid (X_6.out.below hbel)
        have L_7 := Lib.hid (L_6.out.below hbel)
        have P_7 := Lib.hid (P_6.out.below hbel)
        have S_7 := Lib.hid (S_6.out.below hbel)
        have Q_7 := Lib.hid (Q_6.out.below hbel)
        have D_7 := Lib.hid (hown.mono hsz6)
        have B7 := Lib.hid (B6.out.trans (hbel.mono hsz6))
        have hsz7 := B7.out.size
        clear X_6 L_6 P_6 S_6 Q_6 hown hbel
        go_wp2_with fail
        refine (equal_yes [] _ _ _ Q_7.out.rd D_7.out.rd).mono ?_
        rintro e w8 ⟨rfl, hbel⟩
        have X_8 := Lib.hid (X_7.out.below hbel)
        have L_8 := Lib.hid (L_7.out.below hbel)
        have P_8 := Lib.hid (P_7.out.below hbel)
        have S_8 := Lib.hid (S_7.out.below hbel)
        have Q_8 := Lib.hid (Q_7.out.below hbel)
        have D_8 := Lib.hid (D_7.out.below hbel)
        have B8 := Lib.hid (B7.out.trans (hbel.mono hsz7))
        have hsz8 := B8.out.size
        clear X_7 L_7 P_7 S_7 Q_7 D_7 hbel
        go_wp2
        go_ret
        exact ⟨rfl, B8.out⟩
    · have FI := Lib.hid t2
      clear t2
      go_wp2_with fail
      refine (rec_unfine k az sz _ _ L_3.out hwf hk1 hk2 FI.out).mono ?_
      rintro e w4 ⟨v4, rfl, hown, hbel⟩
      have X_4 := Lib.hid (X_3.out.below hbel)
      have L_4 := Lib.hid (L_3.out.below hbel)
      have P_4 := Lib.hid (P_3.out.below hbel)
      have S_4 := Lib.hid (S_3.out.below hbel)
      have Q_4 := Lib.hid (hown.mono hsz3)
      have B4 := Lib.hid (B3.out.trans (hbel.mono hsz3))
      have hsz4 := B4.out.size
      clear X_3 L_3 P_3 S_3 hown hbel
      obtain ⟨qQ, cQ, rfl, _, _⟩ := Q_4.out.shape
      go_wp2_with fail
      refine (fits_unfine k az sz _ _ L_4.out hwf hk1 hk2 FI.out).mono ?_
      rintro e w5 ⟨rfl, hbel⟩
      have X_5 := Lib.hid (X_4.out.below hbel)
      have L_5 := Lib.hid (L_4.out.below hbel)
      have P_5 := Lib.hid (P_4.out.below hbel)
      have S_5 := Lib.hid (S_4.out.below hbel)
      have Q_5 := Lib.hid (Q_4.out.below hbel)
      have B5 := Lib.hid (B4.out.trans (hbel.mono hsz4))
      have hsz5 := B5.out.size
      clear X_4 L_4 P_4 S_4 Q_4 hbel
      go_wp2_with fail
      refine (shares_any k az sz _ _ L_5.out hwf hk1 hk2).mono ?_
      rintro e w6 ⟨hr, hbel⟩
      obtain rfl : e = .returned (.int .i64 5) := by
        rcases hr with ⟨h, _⟩ | ⟨_, h⟩
        · exact absurd h FI.out
        · exact h
      clear hr
      have X_6 := Lib.hid (X_5.out.below hbel)
      have L_6 := Lib.hid (L_5.out.below hbel)
      have P_6 := Lib.hid (P_5.out.below hbel)
      have S_6 := Lib.hid (S_5.out.below hbel)
      have Q_6 := Lib.hid (Q_5.out.below hbel)
      have B6 := Lib.hid (B5.out.trans (hbel.mono hsz5))
      have hsz6 := B6.out.size
      clear X_5 L_5 P_5 S_5 Q_5 hbel
      go_wp2
      go_ret
      exact ⟨rfl, B6.out⟩
end Go.Proofs.Ytjljndnpefdifaa.Gm
