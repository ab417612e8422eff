/- ntt.Forward, ntt.Inverse. -/
import Derived.Test.YtkcfnbfkbmgchaaDoorNu
import Derived.Test.YtkcfnbfkbmgchaaDoorAp
namespace Go.Proofs.YtkcfnbfkbmgchaaDoor.Gm
open Go.RowKit
set_option linter.unusedVariables false
theorem trL_fwd (k : Nat) (l : List F) : trL false k l = (List.range (2 ^ k)).map (dft (2 ^ k) (root k) (cf l)) := by
  unfold trL; exact List.map_congr_left (fun j _ => tr_fwd k _ j)
theorem nfwd_ok (k : Nat) (zs : List Int) (v : Value) (w : World) (h : Rd .u64 w v zs) (hz : B64 zs) (hk : k ≤ 10) (hl : zs.length = 2 ^ k) (hT : Tb w) :
    Calls Tryd.prog 15 #[v] w (RetLE w (trL false k (zs.map toF)) 0) := by
  rw [trL_fwd]
  have HR := Lib.hid h
  obtain ⟨a, cap, rfl, hcap, hm⟩ := h.shape
  have HL := Lib.hid hl
  clear h hl
  go_enter Tryd.func15, Tryd.ntmps15
  go_wp2_with fail
  refine (nlog_pow k _ _ hk HL.out hT).mono ?_
  rintro e w1 ⟨rfl, hb1⟩
  have B1 := Lib.hid hb1
  have hs1 := hb1.size
  clear hb1
  go_wp2_with fail
  refine (root_any k _ (by omega)).mono ?_
  rintro e w' ⟨rfl, rfl⟩
  go_wp2_with fail
  refine (turn_any k zs _ (root k) _ (HR.out.below B1.out) hz hk HL.out (rt_root k (by omega))).mono ?_
  rintro e w2 ⟨v2, rfl, ho, hb⟩
  have O2 := Lib.hid (ho.mono hs1)
  have B2 := Lib.hid (B1.out.trans (hb.mono hs1))
  clear ho hb
  go_wp2
  go_ret2
  exact ⟨_, rfl, O2.out, B2.out⟩
theorem nfwd_bad (zs : List Int) (v : Value) (w : World) (h : Rd .u64 w v zs) (hl : ∀ k : Nat, k ≤ 10 → zs.length ≠ 2 ^ k) (hT : Tb w) :
    Calls Tryd.prog 15 #[v] w (RetLE w [] 5) := by
  obtain ⟨a, cap, rfl, hcap, hm⟩ := h.shape
  have HL := Lib.hid hl
  clear h hl
  go_enter Tryd.func15, Tryd.ntmps15
  go_wp2_with fail
  refine (nlog_any _ _ (by omega) hT).mono ?_
  rintro e w1 ⟨⟨k, hk, he, rfl⟩ | ⟨_, z, rfl⟩, hb1⟩
  · exact absurd he (HL.out k hk)
  have B1 := Lib.hid hb1
  clear hb1
  go_wp2
  go_ret2
  exact ⟨_, rfl, Ow.nil _ _, B1.out⟩
/-- the first m numbers of a list times c -/
@[irreducible] def scl (l : List F) (c : F) (m : Nat) : List F := (List.range l.length).map fun p => if p < m then cf l p * c else cf l p
theorem scl_len (l : List F) (c : F) (m : Nat) : (scl l c m).length = l.length := by unfold scl; simp
theorem cf_scl (l : List F) (c : F) (m : Nat) {p : Nat} (hp : p < l.length) : cf (scl l c m) p = if p < m then cf l p * c else cf l p := by unfold scl; exact cf_ofFn _ hp
theorem scl_zero (l : List F) (c : F) : scl l c 0 = l := by
  refine ext_cf (scl_len _ _ _) (fun i hi => ?_)
  rw [scl_len] at hi
  rw [cf_scl _ _ _ hi, if_neg (by omega)]
theorem scl_step (l : List F) (c : F) {m : Nat} (hm : m < l.length) : (scl l c m).set m (cf (scl l c m) m * c) = scl l c (m + 1) := by
  refine ext_cf (by rw [List.length_set, scl_len, scl_len]) (fun p hp => ?_)
  rw [List.length_set, scl_len] at hp
  rw [cf_set _ _ _ _ (by rw [scl_len]; exact hm), cf_scl _ _ _ hp, cf_scl _ _ _ hp, cf_scl _ _ _ hm, if_neg (Nat.lt_irrefl m)]
  by_cases h : m = p
  · subst h; rw [if_pos rfl, if_pos (by omega)]
  · rw [if_neg h]
    by_cases h2 : p < m
    · rw [if_pos h2, if_pos (by omega)]
    · rw [if_neg h2, if_neg (by omega)]
theorem trL_inv (k : Nat) (l : List F) : scl ((List.range (2 ^ k)).map (dft (2 ^ k) (inv (root k)) (cf l))) (inv (cast (2 ^ k))) (2 ^ k) = trL true k l := by
  refine ext_cf (by rw [scl_len, trL_len]; simp) (fun i hi => ?_)
  rw [scl_len] at hi
  have hi' : i < 2 ^ k := by simpa using hi
  rw [cf_scl _ _ _ hi, if_pos hi', cf_trL _ _ _ hi', cf_ofFn _ hi', tr_inv]
  generalize inv (cast (2 ^ k)) = c
  grind
def InvRel (w : World) (n g cp : Nat) (l : List F) (c : F) (i : Value) (wr : World) : Prop :=
  ∃ m : Nat, m ≤ n ∧ i = .int .i64 m ∧ Ow w.heap.size wr (.slice (some ⟨g, 0, none⟩) n cp) (scl l c m) ∧ Below w.heap.size w wr
set_option maxHeartbeats 2000000 in
set_option maxRecDepth 100000 in
theorem ninv_abs (k : Nat) (zs : List Int) (v : Value) (w : World) (h : Rd .u64 w v zs) (hz : B64 zs) (hk : k ≤ 10) (hl : zs.length = 2 ^ k) (hT : Tb w) (r q c : F) (L : List F) (n : Nat) (hn : n = zs.length)
    (h1 : ∀ w, Calls Tryd.prog 16 #[.int .i64 k] w fun e w' => e = .returned (.tuple #[.int .u64 (vl r), .int .i64 0]) ∧ w = w')
    (h2 : ∀ w, Calls Tryd.prog 63 #[.int .u64 (vl r)] w fun e w' => e = .returned (.tuple #[.int .u64 (vl q), .int .i64 0]) ∧ w = w')
    (h3 : ∀ w, Calls Tryd.prog 63 #[.int .u64 (n : Int)] w fun e w' => e = .returned (.tuple #[.int .u64 (vl c), .int .i64 0]) ∧ w = w')
    (h4 : ∀ v w, Rd .u64 w v zs → Calls Tryd.prog 59 #[v, .int .i64 k, .int .u64 (vl q)] w (RetL w L)) (hL : L.length = n) :
    Calls Tryd.prog 22 #[v] w (RetLE w (scl L c n) 0) := by
  have hk2 : 2 ^ k ≤ 2 ^ 10 := Nat.pow_le_pow_right (by omega) hk
  have hk1 := Nat.two_pow_pos k
  have HR := Lib.hid h
  obtain ⟨a, cap, rfl, hcap, hm⟩ := h.shape
  have C1 := Lib.hid h1
  have C2 := Lib.hid h2
  have C3 := Lib.hid h3
  have C4 := Lib.hid h4
  have HL := Lib.hid hl
  have SL := Lib.hid (fun m => scl_len L c m)
  have SS := Lib.hid (fun m => scl_step L c (m := m))
  have SZ := Lib.hid (scl_zero L c)
  have hl1 : 1 ≤ n := by omega
  have hln : n ≤ 1024 := by omega
  have HT := Lib.hid hT
  have HNZ := Lib.hid hn
  have HN := Lib.hid hL.symm
  rw [← hn] at hcap ⊢
  have hn2 : n = 2 ^ k := by omega
  have CL := Lib.hid (fun w hT => nlog_pow k n w hk hn2 hT)
  have ew : IntKind.u64.wrap (n : Int) = (n : Int) := IntWalk.u64_in _ (by omega)
  clear h hl h1 h2 h3 h4 hL hk2 hk1 hT hn2 hn
  go_enter Tryd.func22, Tryd.ntmps22
  go_wp2_with fail
  refine (CL.out _ HT.out).mono ?_
  rintro e w1 ⟨rfl, hb1⟩
  have B1 := Lib.hid hb1
  have hs1 := hb1.size
  clear hb1
  go_wp2_with fail
  refine (C1.out _).mono ?_
  rintro e w' ⟨rfl, rfl⟩
  go_wp2_with fail
  refine (C2.out _).mono ?_
  rintro e w' ⟨rfl, rfl⟩
  go_wp2_with fail
  refine (C3.out _).mono ?_
  rintro e w' ⟨rfl, rfl⟩
  go_wp2_with fail
  refine (C4.out (.slice a n cap) _ (by have := HR.out.below B1.out; rw [HNZ.out]; exact this)).mono ?_
  rintro e w2 ⟨v2, rfl, ho, hb⟩
  obtain ⟨g, cp, rfl, hcp, hcm⟩ := ho.opened (by rw [← HN.out]; exact hl1)
  have O2 := ho.mono hs1
  rw [← HN.out] at O2 hcp
  rw [← SZ.out] at O2
  have O2 := Lib.hid O2
  have B2 := Lib.hid (B1.out.trans (hb.mono hs1))
  clear ho hb
  rw [← HN.out]
  go_wp2
  go_loopw [11, 43] (fun _ i wr => InvRel w n g cp L c i wr) (fun _ i _ => n - (intOf i).toNat)
  case atStart => exact ⟨0, by omega, rfl, O2.out, B2.out⟩
  case round =>
    obtain ⟨m, hm1, rfl, hown, hbel⟩ := hrel
    have OO := Lib.hid hown
    have HB := Lib.hid hbel
    have hwsz := hbel.size
    clear hown hbel
    by_cases hml : m < n
    · have LL := Lib.hid ((SL.out m).trans HN.out.symm)
      have hcl : wr.cell? ⟨g, m, none⟩ = some (.int .u64 (vl (cf (scl L c m) m))) := Ow.cell (l := scl L c m) (cap := cp) (by rw [LL.out]; exact OO.out) (by rw [LL.out]; omega)
      have SM := Lib.hid (SS.out m (by rw [← HN.out]; exact hml))
      generalize cf (scl L c m) m = X at *
      go_wp2_with fail
      refine (mul_F X c _).mono ?_
      rintro e w' ⟨rfl, rfl⟩
      go_wp2_with (refine wl_storeF _ rfl (.tmp 54) (.tmp 53) rfl w.heap.size g m n cp (scl L c m) (X * c) rfl rfl OO.out LL.out hml ?_)
      intro w3 hown3 ho3 hs3
      rw [SM.out] at hown3
      have hgB := OO.out.base.1
      have O3 := Lib.hid hown3
      have B3 := Lib.hid (HB.out.trans (ho3.below hwsz (fun gg e => by omega)))
      clear hown3 ho3 hs3
      go_wp2
      go_roundw
      case rel => exact ⟨m + 1, by omega, by go_num, O3.out, B3.out⟩
      case measure => simp [intOf] <;> omega
    · obtain rfl : n = m := by omega
      go_wp2
      go_ret2
      exact ⟨_, rfl, OO.out, HB.out⟩
theorem ninv_ok (k : Nat) (zs : List Int) (v : Value) (w : World) (h : Rd .u64 w v zs) (hz : B64 zs) (hk : k ≤ 10) (hl : zs.length = 2 ^ k) (hT : Tb w) :
    Calls Tryd.prog 22 #[v] w (RetLE w (trL true k (zs.map toF)) 0) := by
  have hk2 : 2 ^ k ≤ 2 ^ 10 := Nat.pow_le_pow_right (by omega) hk
  have hk1 := Nat.two_pow_pos k
  have CW : toF (zs.length : Int) = cast (2 ^ k) := by rw [cast_toF, hl]
  have hLL : ((List.range (2 ^ k)).map (dft (2 ^ k) (inv (root k)) (cf (zs.map toF)))).length = 2 ^ k := by simp
  have := ninv_abs k zs v w h hz hk hl hT (root k) (inv (root k)) (inv (cast (2 ^ k))) ((List.range (2 ^ k)).map (dft (2 ^ k) (inv (root k)) (cf (zs.map toF)))) zs.length rfl
    (fun w => root_any k w (by omega)) (fun w => by have := inv_any (vl (root k)) w (vl_lo _) (vl_64 _) (by rw [toF_vl]; exact root_ne k); rwa [toF_vl] at this)
    (fun w => by have := inv_any (zs.length : Int) w (by omega) (by omega) (by rw [CW]; exact cast_pow_ne hk); rwa [CW] at this)
    (fun v w h => turn_any k zs v (inv (root k)) w h hz hk hl (rt_inv (rt_root k (by omega)))) (by rw [hLL, hl])
  rw [hl, trL_inv] at this
  exact this
theorem ninv_bad (zs : List Int) (v : Value) (w : World) (h : Rd .u64 w v zs) (hl : ∀ k : Nat, k ≤ 10 → zs.length ≠ 2 ^ k) (hT : Tb w) :
    Calls Tryd.prog 22 #[v] w (RetLE w [] 5) := by
  obtain ⟨a, cap, rfl, hcap, hm⟩ := h.shape
  have HL := Lib.hid hl
  clear h hl
  go_enter Tryd.func22, Tryd.ntmps22
  go_wp2_with fail
  refine (nlog_any _ _ (by omega) hT).mono ?_
  rintro e w1 ⟨⟨k, hk, he, rfl⟩ | ⟨_, z, rfl⟩, hb1⟩
  · exact absurd he (HL.out k hk)
  have B1 := Lib.hid hb1
  clear hb1
  go_wp2
  go_ret2
  exact ⟨_, rfl, Ow.nil _ _, B1.out⟩
end Go.Proofs.YtkcfnbfkbmgchaaDoor.Gm
