/- ntt.Order, ntt.turn. -/
import Derived.Test.YtkcfnbfkbmgchaaDoorTz
import Derived.Test.YtkcfnbfkbmgchaaDoorHl
import Derived.Test.YtkcfnbfkbmgchaaDoorOc
import Derived.Test.YtkcfnbfkbmgchaaDoorAp
namespace Go.Proofs.YtkcfnbfkbmgchaaDoor.Gm
open Go.RowKit
set_option linter.unusedVariables false
/-- a call's end: a list of integers of its own, an error's number -/
def RetIE (w : World) (l : List Int) (n : Int) (e : Ending) (w' : World) : Prop := ∃ v, e = .returned (.tuple #[v, .int .i64 n]) ∧ Oz .i64 3 w.heap.size w' v l ∧ Below w.heap.size w w'
theorem order_bad (z : Int) (w : World) (h : z < 0 ∨ 10 < z) : Calls Tryd.prog 20 #[.int .i64 z] w (RetIE w [] 1) := by
  rcases (show z < 0 ∨ (0 ≤ z ∧ 10 < z) by omega) with h1 | ⟨h1, h2⟩
  all_goals
    clear h
    go_enter Tryd.func20, Tryd.ntmps20
    go_wp2
    go_ret2
    exact ⟨_, rfl, Oz.nil _ _ _ _, Below.refl _ _⟩
def OrRel (w : World) (k g n : Nat) (i : Value) (wr : World) : Prop :=
  ∃ m : Nat, m ≤ n ∧ i = .int .i64 m ∧ Oz .i64 3 w.heap.size wr (.slice (some ⟨g, 0, none⟩) n n) (reL k m) ∧ Below w.heap.size w wr
set_option maxHeartbeats 2000000 in
set_option maxRecDepth 100000 in
theorem order_any (k : Nat) (z : Int) (w : World) (hk : k ≤ 10) (hz : z = k) : Calls Tryd.prog 20 #[.int .i64 z] w (RetIE w (reL k (2 ^ k)) 0) := by
  subst hz
  obtain ⟨n, hn⟩ : ∃ n, n = 2 ^ k := ⟨_, rfl⟩
  have hk2 : 2 ^ k ≤ 2 ^ 10 := Nat.pow_le_pow_right (by omega) hk
  have hn1 : n ≤ 1024 := by omega
  have hn0 : 1 ≤ n := by rw [hn]; exact Nat.two_pow_pos k
  have HL := Lib.hid (fun m => (reL_len k m).trans hn.symm)
  have HS := Lib.hid (fun m => reL_step k m)
  have HZ := Lib.hid (show List.replicate n 0 = reL k 0 by rw [reL_zero, hn])
  have HR := Lib.hid (show ∀ m, m < n → r64 (m : Int) / ((2 ^ (64 - k) : Nat) : Int) = (rev k m : Int) ∧ rev k m < 1024 from fun m hm => ⟨r64_rev ⟨k, by omega⟩ ⟨m, by omega⟩ (by rw [← hn]; exact hm), by have := rev_lt k m; omega⟩)
  have e2 : IntKind.i64.wrap (1 * 2 ^ k) = (n : Int) := by rw [Int.one_mul, hn]; exact wrap_two k (by omega)
  have e3 : IntKind.i64.wrap (2 ^ k) = (n : Int) := by rw [hn]; exact wrap_two k (by omega)
  have hnm : n ≤ 1000000 := by omega
  obtain ⟨c, hc⟩ : ∃ c, c = 64 - k := ⟨_, rfl⟩
  have hcc : (64 : Int) - (k : Int) = (c : Int) := by omega
  rw [← hc] at HR
  rw [← hn]
  clear hn hk2 hc
  go_enter Tryd.func20, Tryd.ntmps20
  go_wp2_with (refine wl_make_int _ rfl (.tmp 13) (.tmp 13) rfl w.heap.size _ _ n w rfl rfl rfl rfl hnm (Below.refl _ _) (Nat.le_refl _) ?_)
  intro g w1 _ hown1 hbel1
  have O1 := Lib.hid hown1
  have B1 := Lib.hid hbel1
  clear hown1 hbel1
  go_wp2
  go_loopw [5, 17] (fun _ i wr => OrRel w k g n i wr) (fun _ i _ => n - (intOf i).toNat)
  case atStart => exact ⟨0, by omega, rfl, by rw [← HZ.out]; exact O1.out, B1.out⟩
  case round =>
    obtain ⟨m, hm, rfl, hown, hbel⟩ := hrel
    have OO := Lib.hid hown
    have HB := Lib.hid hbel
    clear hown hbel
    by_cases hml : m < n
    · have hrv := HR.out m hml
      have ew := wrap_nat (n := rev k m) (by omega)
      have HSm := Lib.hid (HS.out m)
      have HLm := Lib.hid (HL.out m)
      clear HR
      generalize rev k m = y at *
      have hrv1 := hrv.1
      have ey : (y : Int) < 1024 := by omega
      have e5 : ((2 : Int) ^ c) = ((2 ^ c : Nat) : Int) := by rw [Int.natCast_pow]; rfl
      rw [← e5] at hrv1
      have ew2 : wrap64 (y : Int) = (y : Int) := by unfold wrap64; omega
      clear hrv e5
      go_wp2_with fail
      refine (rev64_any _ _).mono ?_
      rintro e w' ⟨rfl, rfl⟩
      generalize r64 (m : Int) = r at *
      go_wp2_with (refine wl_storeZ .i64 3 _ rfl (.tmp 29) (.tmp 28) (fun _ => rfl) rfl w.heap.size g m n n (reL k m) y w rfl rfl OO.out HLm.out hml HB.out ?_)
      intro w3 hown3 hbel3 _
      rw [HSm.out] at hown3
      have O3 := Lib.hid hown3
      have B3 := Lib.hid hbel3
      clear hown3 hbel3
      go_wp2
      go_roundw
      case rel => exact ⟨m + 1, by omega, by go_num, O3.out, B3.out⟩
      case measure => simp [intOf] <;> omega
    · obtain rfl : m = n := by omega
      go_wp2
      go_ret2
      exact ⟨_, rfl, OO.out, HB.out⟩
def TnA (w : World) (k n g b2 off2 cap2 B2 : Nat) (a : Nat → F) (i : Value) (wr : World) : Prop :=
  ∃ m : Nat, m ≤ n ∧ i = .int .i64 m ∧ Ow w.heap.size wr (.slice (some ⟨g, 0, none⟩) n n) (orL k a m) ∧ Oz .i64 3 B2 wr (.slice (some ⟨b2, off2, none⟩) n cap2) (reL k (2 ^ k)) ∧ Below w.heap.size w wr
/-- cell of an own list that is not written from its block's beginning -/
theorem Oz.cell_at {k : IntKind} {te : TypeId} {B b off n cap : Nat} {w : World} {l : List Int} (h : Oz k te B w (.slice (some ⟨b, off, none⟩) n cap) l) {i : Nat} (hi : i < l.length) : w.cell? ⟨b, off + i, none⟩ = some (.int k (gd l i)) := by
  obtain ⟨a, c, b', off', e, _, _, hx, hc⟩ := h.rd.opened
  injection e with e1 e2 e3
  rcases hx with hx | hx
  · omega
  · rw [← e1] at hx
    injection hx with hx
    injection hx with h1 h2
    subst h1 h2
    exact hc i hi
def TnB (w : World) (k n g : Nat) (r : F) (a : Nat → F) (half : Value) (wr : World) : Prop :=
  ∃ s h : Nat, s ≤ k ∧ h = 2 ^ s ∧ h ≤ n ∧ half = .int .i64 h ∧ Ow w.heap.size wr (.slice (some ⟨g, 0, none⟩) n n) (stL k r a s) ∧ Below w.heap.size w wr
def TnC (w : World) (k n g s h M : Nat) (r : F) (a : Nat → F) (at_ : Value) (wr : World) : Prop :=
  ∃ B : Nat, B ≤ M ∧ at_ = .int .i64 ((B * (2 * h) : Nat) : Int) ∧ Ow w.heap.size wr (.slice (some ⟨g, 0, none⟩) n n) (miL k r a s B 0) ∧ Below w.heap.size w wr
def TnD (w : World) (k n g s h B p0 : Nat) (r : F) (a : Nat → F) (y : F) (t i : Value) (wr : World) : Prop :=
  ∃ j q : Nat, j ≤ h ∧ q = p0 + j ∧ i = .int .i64 q ∧ t = .int .u64 (vl (y ^ j)) ∧ Ow w.heap.size wr (.slice (some ⟨g, 0, none⟩) n n) (miL k r a s B j) ∧ Below w.heap.size w wr
set_option maxHeartbeats 4000000 in
set_option maxRecDepth 100000 in
theorem turn_any (k : Nat) (zs : List Int) (v : Value) (r : F) (w : World) (h : Rd .u64 w v zs) (hz : B64 zs) (hk : k ≤ 10) (hl : zs.length = 2 ^ k) (hr : Rt r k) :
    Calls Tryd.prog 59 #[v, .int .i64 k, .int .u64 (vl r)] w (RetL w ((List.range (2 ^ k)).map (dft (2 ^ k) r (cf (zs.map toF))))) := by
  rw [← stL_last]
  obtain ⟨a, cap, b, off, rfl, hcap, hm, hx, hc⟩ := h.opened
  obtain ⟨n, hn⟩ : ∃ n, n = 2 ^ k := ⟨_, rfl⟩
  have hk2 : 2 ^ k ≤ 2 ^ 10 := Nat.pow_le_pow_right (by omega) hk
  have hn1 : n ≤ 1024 := by omega
  have hn0 : 1 ≤ n := by rw [hn]; exact Nat.two_pow_pos k
  have hnm : n ≤ 1000000 := by omega
  obtain ⟨fa, hfa⟩ : ∃ fa, fa = cf (zs.map toF) := ⟨_, rfl⟩
  have GA := Lib.hid (show ∀ i, fa i = toF (gd zs i) from fun i => by rw [hfa, cf_map])
  rw [← hfa]
  have HC := Lib.hid hc
  have hln : zs.length = n := by omega
  have HN := Lib.hid hn
  rw [hln] at hcap hx
  obtain rfl := hx.resolve_left (by omega)
  have ORL := Lib.hid (fun m => (orL_len k fa m).trans hn.symm)
  have ORZ := Lib.hid (show List.replicate n 0 = orL k fa 0 by rw [orL_zero, hn])
  have ORF := Lib.hid (show orL k fa n = stL k r fa 0 by rw [hn]; exact orL_full k r fa)
  have ORS := Lib.hid (show ∀ m, m < n → (orL k fa m).set (rev k m) (fa m) = orL k fa (m + 1) from fun m hm => orL_step k fa (by omega))
  have REL := Lib.hid (show ∀ m, m < n → gd (reL k (2 ^ k)) m = (rev k m : Int) ∧ rev k m < n from fun m hm => ⟨by rw [gd_reL _ _ (by omega), if_pos (by omega)], by have := rev_lt k m; omega⟩)
  have RLL := Lib.hid (show (reL k (2 ^ k)).length = n by rw [reL_len, hn])
  rw [hln]
  have HLN := Lib.hid hln
  clear hl hk2 hc h hfa hn hln
  go_enter Tryd.func59, Tryd.ntmps59
  go_wp2_with (refine wl_make _ rfl (.tmp 20) (.tmp 20) rfl w.heap.size _ _ n w rfl rfl rfl rfl hnm (Below.refl _ _) (Nat.le_refl _) ?_)
  intro g w1 _ hown1 hbel1
  have O1 := Lib.hid hown1
  have B1 := Lib.hid hbel1
  have hw1 := hbel1.size
  have hgw : g < w1.heap.size := hown1.base.2
  have hgB : w.heap.size ≤ g := hown1.base.1
  clear hown1 hbel1
  go_wp2_with fail
  refine (order_any k _ _ hk rfl).mono ?_
  rintro e w2 ⟨v2, rfl, hord, hbel2⟩
  have OR := Lib.hid hord
  have O2 := Lib.hid (O1.out.below hbel2)
  have B2 := Lib.hid (B1.out.trans (hbel2.mono hw1))
  obtain ⟨a2, cap2, b2, off2, e2, hcap2, hm2, hx2, hc2⟩ := hord.rd.opened
  rw [RLL.out] at e2 hcap2 hx2
  obtain rfl := hx2.resolve_left (by omega)
  subst e2
  have HC2 := Lib.hid hc2
  have hw2 := hbel2.size
  clear hc2 hord hbel2 O1 B1 hx2
  go_wp2
  go_loopw [10, 11, 29] (fun _ _ i wr => TnA w k n g b2 off2 cap2 w1.heap.size fa i wr) (fun _ _ i _ => n - (intOf i).toNat)
  case atStart => exact ⟨0, by omega, rfl, by rw [← ORZ.out]; exact O2.out, OR.out, B2.out⟩
  case round =>
    obtain ⟨m, hm1, rfl, hown, hord, hbel⟩ := hrel
    have OO := Lib.hid hown
    have OP := Lib.hid hord
    have HB := Lib.hid hbel
    have hwsz := hbel.size
    clear hown hord hbel
    by_cases hml : m < n
    · have hca := HC.out m (by rw [HLN.out]; exact hml)
      have hcw : wr.cell? ⟨b, off + m, none⟩ = some (.int .u64 (gd zs m)) := (HB.out.cell (p := ⟨b, off + m, none⟩) (World.block_lt_of_cell? _ _ hca)).trans hca
      have hco := OP.out.cell_at (i := m) (by rw [RLL.out]; exact hml)
      have hrm := REL.out m hml
      rw [hrm.1] at hco
      have hyn := hrm.2
      have hbz := hz.get m
      have SM := Lib.hid (ORS.out m hml)
      have LM := Lib.hid (ORL.out m)
      have GM := Lib.hid (GA.out m)
      rw [GM.out] at SM
      clear hrm hca
      generalize rev k m = y at *
      go_wp2_with fail
      refine (norm_any _ _ hbz.1 hbz.2).mono ?_
      rintro e w' ⟨rfl, rfl⟩
      go_wp2_with (refine wl_storeF _ rfl (.tmp 41) (.tmp 40) rfl w.heap.size g y n n (orL k fa m) (toF (gd zs m)) rfl rfl OO.out LM.out hyn ?_)
      intro w3 hown3 ho3 hs3
      rw [SM.out] at hown3
      have O3 := Lib.hid hown3
      have P3 := Lib.hid (OP.out.only ho3 (fun gg e eg => by
        have e1 : b2 = gg := by simpa [Value.ownBlock] using e
        have h1 := (OP.out.lt gg e).1
        omega))
      have B3 := Lib.hid (HB.out.trans (ho3.below hwsz (fun gg e => by omega)))
      clear hown3 ho3 hs3
      go_wp2
      go_roundw
      case rel => exact ⟨m + 1, by omega, by go_num, O3.out, P3.out, B3.out⟩
      case measure => simp [intOf] <;> omega
    · obtain rfl : n = m := by omega
      have O4 := OO.out
      rw [ORF.out] at O4
      have O4 := Lib.hid O4
      have hp0 : 2 ^ 0 ≤ n := by simpa using hn0
      clear OO OP OR O2 HC2 ORS REL RLL ORL ORZ ORF
      go_wp2
      go_loopw [12, 13, 14, 15, 16, 17, 18] (fun half _ _ _ _ _ _ wr => TnB w k n g r fa half wr) (fun half _ _ _ _ _ _ _ => n - (intOf half).toNat)
      case atStart => exact ⟨0, 1, by omega, rfl, hn0, rfl, O4.out, HB.out⟩
      case round =>
        obtain ⟨s, hf, hs, hh, hhn, rfl, hown, hbel⟩ := hrel
        have OO := Lib.hid hown
        have HB2 := Lib.hid hbel
        have HH := Lib.hid hh
        have h1 : 1 ≤ hf := by rw [hh]; exact Nat.two_pow_pos s
        clear hown hbel O4 HB
        by_cases hlt : hf < n
        · have hsk : s < k := by
            apply Classical.byContradiction
            intro hn'
            have : s = k := by omega
            subst this
            rw [hh, HN.out] at hlt
            omega
          obtain ⟨M, hM⟩ : ∃ M, M = 2 ^ (k - s - 1) := ⟨_, rfl⟩
          have hsp : n = M * (2 * hf) := by rw [HN.out, hM, hh]; exact pow_spl hsk
          have hM1 : 1 ≤ M := by rw [hM]; exact Nat.two_pow_pos _
          have hMn : M ≤ n := by rw [hsp]; exact Nat.le_mul_of_pos_right _ (by omega)
          have h2n : 2 * hf ≤ n := by rw [hsp]; exact Nat.le_mul_of_pos_left _ (by omega)
          have HM := Lib.hid hM
          obtain ⟨d, hd⟩ : ∃ d, d = 2 * hf := ⟨_, rfl⟩
          have e1 : IntKind.i64.wrap (2 * (hf : Int)) = (d : Int) := by rw [show 2 * (hf : Int) = ((2 * hf : Nat) : Int) by omega, hd]; exact wrap_nat (by omega)
          rw [← hd] at hsp h2n
          have e2 : (n : Int).tdiv (d : Int) = (M : Int) := by rw [nat_quo, hsp, Nat.mul_div_cancel _ (by omega)]
          have HD := Lib.hid hd
          have HSP := Lib.hid hsp
          have hd0 : ¬ d = 0 := by omega
          have e3 : IntKind.i64.wrap (M : Int) = (M : Int) := wrap_nat (by omega)
          have e4 : IntKind.u64.wrap (M : Int) = (M : Int) := IntWalk.u64_in _ (by omega)
          have hhi : (hf : Int) < (n : Int) := by omega
          have IN := Lib.hid (show ∀ B j : Nat, B < M → j < hf → cf (miL k r fa s B j) (B * (2 * hf) + j) = stage k r fa s (B * (2 * hf) + j) ∧ cf (miL k r fa s B j) (B * (2 * hf) + j + hf) = stage k r fa s (B * (2 * hf) + hf + j) ∧
              (((miL k r fa s B j).set (B * (2 * hf) + j) (stage k r fa s (B * (2 * hf) + j) + stage k r fa s (B * (2 * hf) + hf + j) * (r ^ M) ^ j)).set (B * (2 * hf) + j + hf)
                (stage k r fa s (B * (2 * hf) + j) - stage k r fa s (B * (2 * hf) + hf + j) * (r ^ M) ^ j)) = miL k r fa s B (j + 1) from fun B j hB hj => by
            rw [hM] at hB ⊢
            rw [hh] at hj ⊢
            exact ⟨miL_at1 k r fa hsk hB hj, miL_at2 k r fa hsk hB hj, miL_step hr fa hsk hB hj⟩)
          have ML := Lib.hid (fun B j => (miL_len k r fa s B j).trans HN.out.symm)
          have MS := Lib.hid (miL_start k r fa s)
          have MN := Lib.hid (fun B => (show miL k r fa s B hf = miL k r fa s (B + 1) 0 from by rw [hh]; exact miL_next k r fa s B))
          have MD := Lib.hid (show miL k r fa s M 0 = stL k r fa (s + 1) from by rw [hM]; exact miL_done k r fa hsk)
          have PB := Lib.hid (show ∀ B : Nat, B < M → B * (2 * hf) + d ≤ n from fun B hB => by
            have := Nat.mul_le_mul_right d (show B + 1 ≤ M from hB)
            rw [Nat.add_mul, Nat.one_mul] at this
            rw [hsp, ← hd]
            exact this)
          have HH2 := Lib.hid (show d = 2 ^ (s + 1) by rw [hd, hh, Nat.pow_succ, Nat.mul_comm])
          clear hh hM hd hsp
          go_wp2_with fail
          refine (pow_any (vl r) M _ (vl_lo _) (vl_64 _) (by omega)).mono ?_
          rintro e w' ⟨rfl, rfl⟩
          rw [toF_vl]
          generalize r ^ M = y at *
          go_wp2
          go_loopw [14, 15, 16, 17, 18] (fun at_ _ _ _ _ wr => TnC w k n g s hf M r fa at_ wr) (fun at_ _ _ _ _ _ => n - (intOf at_).toNat)
          case atStart => exact ⟨0, by omega, by rw [Nat.zero_mul]; rfl, by rw [MS.out]; exact OO.out, HB2.out⟩
          case round =>
            obtain ⟨B, hB, rfl, hown, hbel⟩ := hrel
            have O5 := Lib.hid hown
            have B5 := Lib.hid hbel
            clear hown hbel OO HB2
            by_cases hBM : B < M
            · have hpb := PB.out B hBM
              have INB := Lib.hid (fun j hj => IN.out B j hBM hj)
              have EP := Lib.hid (show ((B + 1) * (2 * hf) : Nat) = B * (2 * hf) + d by rw [Nat.add_mul, Nat.one_mul, HD.out])
              clear IN PB
              generalize B * (2 * hf) = p0 at *
              have hp0n : p0 < n := by omega
              have hdh : d = 2 * hf := HD.out
              have hph : p0 + 2 * hf ≤ n := by omega
              clear hdh
              have e7 : IntKind.i64.wrap ((p0 : Int) + (hf : Int)) = (p0 : Int) + (hf : Int) := IntWalk.i64_in _ (by omega)
              go_wp2
              go_loopw [15, 16, 17, 18] (fun t i _ _ wr => TnD w k n g s hf B p0 r fa y t i wr) (fun _ i _ _ _ => p0 + hf - (intOf i).toNat)
              case atStart => exact ⟨0, p0, by omega, by omega, rfl, by rw [pow_zero, vl_one], O5.out, B5.out⟩
              case round =>
                obtain ⟨j, q, hj, hq, rfl, rfl, hown, hbel⟩ := hrel
                have O6 := Lib.hid hown
                have B6 := Lib.hid hbel
                have hwsz := hbel.size
                clear hown hbel O5 B5
                by_cases hjh : j < hf
                · obtain ⟨i1, i2, i3⟩ := INB.out j hjh
                  have LL := ML.out B j
                  rw [← hq] at i1 i2 i3
                  have hq2 : p0 + hf + j = q + hf := by omega
                  rw [hq2] at i2 i3
                  have hqh : q + hf < n := by omega
                  obtain ⟨q2, hq2⟩ : ∃ q2, q2 = q + hf := ⟨_, rfl⟩
                  have c1 : wr.cell? ⟨g, q, none⟩ = some (.int .u64 (vl (stage k r fa s q))) := by
                    rw [← i1]; exact Ow.cell (l := miL k r fa s B j) (cap := n) (by rw [LL]; exact O6.out) (by rw [LL]; omega)
                  have c2 : wr.cell? ⟨g, q2, none⟩ = some (.int .u64 (vl (stage k r fa s q2))) := by
                    rw [hq2, ← i2]; exact Ow.cell (l := miL k r fa s B j) (cap := n) (by rw [LL]; exact O6.out) (by rw [LL]; omega)
                  rw [← hq2] at i3
                  have LM := Lib.hid LL
                  have IS := Lib.hid i3
                  have ek : ((q : Int) + (hf : Int)).toNat = q2 := by omega
                  have ek2 : (q : Int) + (hf : Int) < (n : Int) := by omega
                  have ek3 : (0 : Int) ≤ (q : Int) + (hf : Int) := by omega
                  have ew : IntKind.i64.wrap ((q : Int) + (hf : Int)) = (q : Int) + (hf : Int) := IntWalk.i64_in _ (by omega)
                  have eq1 : (q : Int) < (p0 : Int) + (hf : Int) := by omega
                  have eqn : q < n := by omega
                  have eq2n : q2 < n := by omega
                  have HQ := Lib.hid hq
                  have HQ2 := Lib.hid hq2
                  clear i1 i2 i3 LL hq hq2
                  generalize stage k r fa s q = X at *
                  generalize stage k r fa s q2 = Y at *
                  go_wp2
                  go_quiet ((first | (go_at_call 18; exact q_same (mul_F Y (y ^ j) _))))
                  go_wp2_with fail
                  refine (add_F X (Y * y ^ j) _).mono ?_
                  rintro e w' ⟨rfl, rfl⟩
                  go_wp2_with fail
                  refine (sub_F X (Y * y ^ j) _).mono ?_
                  rintro e w' ⟨rfl, rfl⟩
                  have O7 := Lib.hid (O6.out.drewN nq)
                  have B7 := Lib.hid (below_drewN B6.out nq)
                  go_wp2_with (refine wl_storeF _ rfl (.tmp 97) (.tmp 93) rfl w.heap.size g q n n (miL k r fa s B j) (X + Y * y ^ j) rfl rfl O7.out LM.out eqn ?_)
                  intro w5 hown5 ho5 hs5
                  have O8 := Lib.hid hown5
                  have hsz7 := B7.out.size
                  have B8 := Lib.hid (B7.out.trans (ho5.below hsz7 (fun gg e => by omega)))
                  have hsz8 := B8.out.size
                  clear hown5 ho5 hs5 c1 c2
                  go_wp2_with (refine wl_storeF _ rfl (.tmp 98) (.tmp 96) rfl w.heap.size g q2 n n ((miL k r fa s B j).set q (X + Y * y ^ j)) (X - Y * y ^ j) rfl rfl O8.out (by rw [List.length_set]; exact LM.out) eq2n ?_)
                  intro w6 hown6 ho6 hs6
                  rw [IS.out] at hown6
                  have O9 := Lib.hid hown6
                  have B9 := Lib.hid (B8.out.trans (ho6.below hsz8 (fun gg e => by omega)))
                  clear hown6 ho6 hs6
                  go_wp2_with fail
                  refine (mul_F (y ^ j) y _).mono ?_
                  rintro e w' ⟨rfl, rfl⟩
                  rw [← pow_succ]
                  go_wp2
                  go_roundw
                  case rel => exact ⟨j + 1, q + 1, by omega, by have := HQ.out; omega, by go_num, rfl, O9.out, B9.out⟩
                  case measure => have := HQ.out; simp [intOf] <;> omega
                · obtain rfl : hf = j := by omega
                  rw [MN.out] at O6
                  have hnq : ¬ ((q : Int) < (p0 : Int) + (hf : Int)) := by omega
                  have hnq2 : (p0 : Int) + (hf : Int) ≤ (q : Int) := by omega
                  have HQ := Lib.hid hq
                  have e8 : IntKind.i64.wrap ((p0 : Int) + (d : Int)) = (p0 : Int) + (d : Int) := IntWalk.i64_in _ (by omega)
                  clear hq
                  go_wp2
                  go_roundw
                  case rel => exact ⟨B + 1, by omega, by rw [EP.out]; go_num, O6.out, B6.out⟩
                  case measure => have := HD.out; simp [intOf] <;> omega
            · obtain rfl : M = B := by omega
              rw [MD.out] at O5
              have hge : ((M * (2 * hf) : Nat) : Int) = (n : Int) := by rw [← HD.out, ← HSP.out]
              rw [hge]
              have e9 : IntKind.i64.wrap ((hf : Int) * 2) = (d : Int) := by rw [Int.mul_comm]; exact e1
              clear hge
              go_wp2
              go_roundw
              case rel => exact ⟨s + 1, d, by omega, HH2.out, h2n, by go_num, O5.out, B5.out⟩
              case measure => have := HD.out; simp [intOf] <;> omega
        · have hsk : s = k := by
            apply Classical.byContradiction
            intro hne
            have h2 := Nat.pow_lt_pow_right (show 1 < 2 by omega) (show s < k by omega)
            rw [← HH.out, ← HN.out] at h2
            omega
          obtain rfl : k = s := hsk.symm
          obtain rfl : n = hf := by omega
          clear hh
          go_wp2
          go_ret
          exact ⟨_, rfl, OO.out, HB2.out⟩
end Go.Proofs.YtkcfnbfkbmgchaaDoor.Gm
