/- many.Turn: a line of an array where it stands. -/
import Derived.Test.YtkcfnbfkbmgchaaDoorNp
import Derived.Test.YtkcfnbfkbmgchaaDoorNv
import Derived.Test.YtkcfnbfkbmgchaaDoorVt
import Derived.Test.YtkcfnbfkbmgchaaDoorCu
namespace Go.Proofs.YtkcfnbfkbmgchaaDoor.Gm
open Go.RowKit
set_option linter.unusedVariables false
/-- numbers at places -/
@[irreducible] def atL (zs : List Int) (ln : List Nat) (m : Nat) : List Int := (List.range m).map fun j => gd zs (nd ln j)
theorem atL_zero (zs : List Int) (ln : List Nat) : atL zs ln 0 = [] := by unfold atL; rfl
theorem atL_succ (zs : List Int) (ln : List Nat) (m : Nat) : atL zs ln (m + 1) = atL zs ln m ++ [gd zs (nd ln m)] := by unfold atL; rw [List.range_succ, List.map_append]; rfl
theorem atL_len (zs : List Int) (ln : List Nat) (m : Nat) : (atL zs ln m).length = m := by unfold atL; simp
theorem gd_atL (zs : List Int) (ln : List Nat) {m i : Nat} (h : i < m) : gd (atL zs ln m) i = gd zs (nd ln i) := by unfold atL; exact gd_range h
theorem atL_64 {zs : List Int} (h : B64 zs) (ln : List Nat) (m : Nat) : B64 (atL zs ln m) := by
  intro z hz
  unfold atL at hz
  obtain ⟨p, _, rfl⟩ := List.mem_map.1 hz
  exact h.get _
/-- numbers put at places -/
def puR (zs : List Int) (ln : List Nat) (f : Nat → F) : Nat → List Int
  | 0 => zs
  | m + 1 => (puR zs ln f m).set (nd ln m) (vl (f m))
@[irreducible] def puL (zs : List Int) (ln : List Nat) (f : Nat → F) (m : Nat) : List Int := puR zs ln f m
theorem puL_zero (zs : List Int) (ln : List Nat) (f : Nat → F) : puL zs ln f 0 = zs := by unfold puL; rfl
theorem puL_succ (zs : List Int) (ln : List Nat) (f : Nat → F) (m : Nat) : puL zs ln f (m + 1) = (puL zs ln f m).set (nd ln m) (vl (f m)) := by unfold puL; rfl
theorem puL_len (zs : List Int) (ln : List Nat) (f : Nat → F) (m : Nat) : (puL zs ln f m).length = zs.length := by
  induction m with
  | zero => rw [puL_zero]
  | succ m ih => rw [puL_succ, List.length_set, ih]
def TuA (w : World) (N : Nat) (zs : List Int) (ln : List Nat) (x i : Value) (wr : World) : Prop :=
  ∃ m : Nat, m ≤ N ∧ i = .int .i64 m ∧ Oz .u64 25 w.heap.size wr x (atL zs ln m) ∧ Below w.heap.size w wr
def TuB (w : World) (B B2 N g n cap : Nat) (zs : List Int) (ln : List Nat) (f : Nat → F) (lv xv : Value) (xl : List F) (i : Value) (wr : World) : Prop :=
  ∃ m : Nat, m ≤ N ∧ i = .int .i64 m ∧ Oz .u64 25 B wr (.slice (some ⟨g, 0, none⟩) n cap) (puL zs ln f m) ∧ Ow w.heap.size wr xv xl ∧ Oz .i64 3 B2 wr lv (zi ln) ∧ Only (fun k => k = g) w wr
/-- a call's end that changes one block alone -/
def RetTu (B g n cap : Nat) (L : List Int) (w : World) (e : Ending) (w' : World) : Prop := e = .returned (.tuple #[]) ∧ Oz .u64 25 B w' (.slice (some ⟨g, 0, none⟩) n cap) L ∧ Only (fun k => k = g) w w'
set_option maxHeartbeats 4000000 in
set_option maxRecDepth 100000 in
theorem turnl_any (back : Bool) (k g n cap B B2 : Nat) (zs : List Int) (ln : List Nat) (lv : Value) (w : World) (h : Oz .u64 25 B w (.slice (some ⟨g, 0, none⟩) n cap) zs) (hz : B64 zs) (hn : zs.length = n) (hnm : n ≤ 1024)
    (hl : Oz .i64 3 B2 w lv (zi ln)) (hk : k ≤ 10) (hlk : ln.length = 2 ^ k) (hin : ∀ i, i < 2 ^ k → nd ln i < n) (hT : Tb w) :
    Calls Tryd.prog 84 #[.slice (some ⟨g, 0, none⟩) n cap, lv, .bool back] w (RetTu B g n cap (puL zs ln (tr back k (fun i => toF (gd zs (nd ln i)))) (2 ^ k)) w) := by
  obtain ⟨N, hN⟩ : ∃ N, N = 2 ^ k := ⟨_, rfl⟩
  have hk2 : 2 ^ k ≤ 2 ^ 10 := Nat.pow_le_pow_right (by omega) hk
  have hN1 : N ≤ 1024 := by omega
  have hN0 : 1 ≤ N := by rw [hN]; exact Nat.two_pow_pos k
  have O := Lib.hid h
  have OL := Lib.hid hl
  have T := Lib.hid hT
  obtain ⟨la, lc, lb, lo, rfl, hlc, hlm, hlx, hle⟩ := hl.rd.opened
  have hzl : (zi ln).length = N := by rw [zi_len, hlk, hN]
  rw [hzl] at hlc hlx hle OL ⊢
  obtain rfl := hlx.resolve_left (by omega)
  have hg : g < w.heap.size := h.base.2
  have hgb : lb ≠ g := by
    have := own_ne (v := .slice (some ⟨lb, lo, none⟩) (zi ln).length lc) hl h (by decide)
    rcases this with h1 | h1
    · simp [Value.ownBlock] at h1
    · intro e
      subst e
      exact h1 (by simp [Value.ownBlock])
  have IN := Lib.hid hin
  have HLE := Lib.hid (show ∀ i, i < N → w.cell? ⟨lb, lo + i, none⟩ = some (.int .i64 (nd ln i : Int)) from fun i hi => by have := hle i hi; rw [gd_zi] at this; exact this)
  have AL := Lib.hid (fun m => atL_len zs ln m)
  have AS := Lib.hid (fun m => atL_succ zs ln m)
  have AZ := Lib.hid (atL_zero zs ln)
  have CF := Lib.hid (fun w v h hT => nfwd_ok k (atL zs ln N) v w h (atL_64 hz ln N) hk ((atL_len zs ln N).trans hN) hT)
  have CB := Lib.hid (fun w v h hT => ninv_ok k (atL zs ln N) v w h (atL_64 hz ln N) hk ((atL_len zs ln N).trans hN) hT)
  obtain ⟨f, hf⟩ : ∃ f, f = tr back k (fun i => toF (gd zs (nd ln i))) := ⟨_, rfl⟩
  obtain ⟨xl, hxl⟩ : ∃ xl, xl = trL back k ((atL zs ln N).map toF) := ⟨_, rfl⟩
  have XC := Lib.hid (show ∀ j, j < N → cf xl j = f j from fun j hj => by
    rw [hxl, cf_trL _ _ _ (by omega), hf]
    refine tr_congr (fun i hi => ?_) j
    rw [cf_map, gd_atL _ _ (by omega)])
  have XL := Lib.hid (show xl.length = N by rw [hxl, trL_len, hN])
  have HXL := Lib.hid hxl
  have PS := Lib.hid (fun m => puL_succ zs ln f m)
  have PL := Lib.hid (fun m => (puL_len zs ln f m).trans hn)
  have PZ := Lib.hid (puL_zero zs ln f)
  rw [← hf, ← hN]
  have HN := Lib.hid hN
  clear h hl hT hin hle hlk hf hxl hk2 hzl
  rw [← hN] at IN
  clear hN
  go_enter Tryd.func84, Tryd.ntmps84
  cases back
  all_goals
    go_wp2
    go_loopw [7, 9, 15] (fun x _ i wr => TuA w N zs ln x i wr) (fun _ _ i _ => N - (intOf i).toNat)
    case atStart => exact ⟨0, by omega, rfl, by rw [AZ.out]; exact Oz.nil _ _ _ _, Below.refl _ _⟩
    case round =>
      obtain ⟨m, hm, rfl, hown, hbel⟩ := hrel
      have OX := Lib.hid hown
      have HB := Lib.hid hbel
      have hwsz := hbel.size
      clear hown hbel
      by_cases hml : m < N
      · have hcl := (HLE.out m hml)
        have hcw : wr.cell? ⟨lb, lo + m, none⟩ = some (.int .i64 (nd ln m : Int)) := (HB.out.cell (p := ⟨lb, lo + m, none⟩) (World.block_lt_of_cell? _ _ hcl)).trans hcl
        have hlt := IN.out m hml
        have hca : wr.cell? ⟨g, nd ln m, none⟩ = some (.int .u64 (gd zs (nd ln m))) := (O.out.below HB.out).cell (by rw [hn]; exact hlt)
        have ASm := Lib.hid (AS.out m)
        have hll : (atL zs ln m).length ≤ 1000000 := by rw [AL.out]; omega
        generalize gd zs (nd ln m) = y at *
        generalize nd ln m = p at *
        clear hcl
        go_wp2_with (at_builtin; refine wl_app_u64 _ rfl (.tmp 19) (.tmp 24) rfl w.heap.size _ (atL zs ln m) y w rfl rfl OX.out HB.out hwsz hll ?_)
        intro v3 w3 hown3 hbel3
        rw [← ASm.out] at hown3
        have O3 := Lib.hid hown3
        have B3 := Lib.hid hbel3
        clear hown3 hbel3
        go_wp2
        go_roundw
        case rel => exact ⟨m + 1, by omega, by go_num, O3.out, B3.out⟩
        case measure => simp [intOf] <;> omega
      · obtain rfl : N = m := by omega
        have T1 := Lib.hid (T.out.below HB.out)
        have OG := Lib.hid (O.out.below HB.out)
        have OLL := Lib.hid (OL.out.below HB.out)
        have OB := Lib.hid (Only.of_below (S := fun k => k = g) HB.out (fun k hk hk2 => by omega))
        go_wp2_with fail
        first
          | refine (CF.out _ _ OX.out.rd T1.out).mono ?_
          | refine (CB.out _ _ OX.out.rd T1.out).mono ?_
        rintro e w4 ⟨v4, rfl, ho, hb⟩
        rw [← HXL.out] at ho
        obtain ⟨gx, cx, rfl, hcx, hmx⟩ := Ow.opened ho (by rw [XL.out]; exact hN0)
        have OX4 := Ow.mono (l := xl) ho hwsz
        rw [XL.out] at OX4 hcx
        have OX4 := Lib.hid OX4
        have hgx : gx ≠ g := by have := OX4.out.base.1; omega
        have OG4 := OG.out.below hb
        rw [← PZ.out] at OG4
        have OG4 := Lib.hid OG4
        have OL4 := Lib.hid (OLL.out.below hb)
        have OB4 := Lib.hid (OB.out.then hb hwsz)
        clear ho hb OX OG OLL OB T1 HB
        rw [XL.out]
        go_wp2
        go_loopw [10, 11, 35] (fun _ _ i wr => TuB w B B2 N g n cap zs ln f (.slice (some ⟨lb, lo, none⟩) N lc) (.slice (some ⟨gx, 0, none⟩) N cx) xl i wr) (fun _ _ i _ => N - (intOf i).toNat)
        case atStart => exact ⟨0, by omega, rfl, OG4.out, OX4.out, OL4.out, OB4.out⟩
        case round =>
          obtain ⟨m, hm, rfl, h1, h2, h3, h4⟩ := hrel
          have P1 := Lib.hid h1
          have P2 := Lib.hid h2
          have P3 := Lib.hid h3
          have P4 := Lib.hid h4
          clear h1 h2 h3 h4 OG4 OX4 OL4 OB4
          by_cases hml : m < N
          · have hcl := P3.out.cell_at (i := m) (by rw [zi_len]; have := P3.out.rd.opened; obtain ⟨_, _, _, _, e, _⟩ := this; injection e with _ e2; rw [zi_len] at e2; omega)
            rw [gd_zi] at hcl
            have hcx' : wr.cell? ⟨gx, m, none⟩ = some (.int .u64 (vl (f m))) := by
              rw [← XC.out m hml]; exact Ow.cell (l := xl) (cap := cx) (by rw [XL.out]; exact P2.out) (by rw [XL.out]; exact hml)
            have hlt := IN.out m hml
            have LM := Lib.hid (PL.out m)
            have PSm := Lib.hid (PS.out m)
            generalize nd ln m = p at *
            generalize f m = y at *
            go_wp2_with (refine wl_storeI .u64 25 _ rfl (.tmp 46) (.tmp 45) (fun _ => rfl) rfl B g p n cap (puL zs ln f m) (vl y) rfl rfl P1.out LM.out hlt ?_)
            intro w5 hown5 ho5 hs5
            rw [← PSm.out] at hown5
            have Q1 := Lib.hid hown5
            have Q2 := Ow.only P2.out ho5 (fun gg e eg => by
              have e1 : gx = gg := by simpa [Value.ownBlock] using e
              omega)
            have Q3 := P3.out.only ho5 (fun gg e eg => by
              have e1 : lb = gg := by simpa [Value.ownBlock] using e
              omega)
            have Q4 := P4.out.trans ho5
            have Q2 := Lib.hid Q2
            have Q3 := Lib.hid Q3
            have Q4 := Lib.hid Q4
            clear hown5 ho5 hs5 hcl hcx'
            go_wp2
            go_roundw
            case rel => exact ⟨m + 1, by omega, by go_num, Q1.out, Q2.out, Q3.out, Q4.out⟩
            case measure => simp [intOf] <;> omega
          · obtain rfl : N = m := by omega
            go_wp2
            go_end0
            exact ⟨rfl, P1.out, P4.out⟩
end Go.Proofs.YtkcfnbfkbmgchaaDoor.Gm
