/- The walks of the reference's Normal, Sum, Product. -/
import Derived.Test.YtjljndnpefdifaaRp
namespace Go.Proofs.Ytjljndnpefdifaa.Gm
open Go.RowKit
/-- the last place that isn't 0, among the first k; -1: there is none -/
def LastRel (fs : List F) (n : Nat) (last i : Value) : Prop :=
  ∃ k m : Nat, k ≤ n ∧ i = .int .i64 k ∧ last = .int .i64 ((m : Int) - 1) ∧ m ≤ k ∧ (∀ j, m ≤ j → j < k → cf fs j = 0) ∧ (0 < m → cf fs (m - 1) ≠ 0)
def NrmOutR (B : Nat) (w : World) (fs : List F) (n : Nat) (v i : Value) (wr : World) : Prop :=
  ∃ k : Nat, k ≤ n ∧ i = .int .i64 k ∧ Ow B wr v (fs.take k) ∧ Below B w wr
theorem strip_upto {fs : List F} {m : Nat} (hm : m ≤ fs.length) (h1 : ∀ j, m ≤ j → j < fs.length → cf fs j = 0) (h2 : 0 < m → cf fs (m - 1) ≠ 0) : strip fs = fs.take m :=
  strip_take hm h1 (by by_cases h : 0 < m; · exact .inr (h2 h)
                       · left; omega)
set_option maxHeartbeats 2000000 in
theorem rnormal_any (zs : List Int) (v : Value) (w : World) (h : Rd .u64 w v zs) (hz : B64 zs) (hl : zs.length ≤ 1000000) :
    Calls Try.prog 66 #[v] w (RetL w (strip (zs.map toF))) := by
  obtain ⟨a, cap, b, off, rfl, hcap, hm, hx, hc⟩ := h
  obtain ⟨fs, hfs⟩ : ∃ fs, fs = zs.map toF := ⟨_, rfl⟩
  have hlen : fs.length = zs.length := by rw [hfs, List.length_map]
  have hget : ∀ i, cf fs i = toF (gd zs i) := fun i => by rw [hfs, cf_map]
  rw [← hfs]
  have Hlen := Lib.hid hlen
  have Hget := Lib.hid hget
  have Hc := Lib.hid hc
  clear hfs hlen hget hc
  rcases hx with hx | rfl
  · subst hx
    obtain rfl : fs = [] := List.length_eq_zero_iff.1 (by rw [Hlen.out]; rfl)
    clear Hc Hget Hlen
    go_enter Try.func66, Try.ntmps66
    go_wp2
    refine wp_loop_rounds 1 ?_
    rw [rounds_succ]
    go_wp2
    refine wp_loop_rounds 1 ?_
    rw [rounds_succ]
    go_wp2
    go_ret
    exact ⟨_, rfl, Ow.nil _ _, Below.refl _ _⟩
  · go_enter Try.func66, Try.ntmps66
    go_wp2
    go_loop [3, 4] (fun l i => LastRel fs zs.length l i) (fun _ i => zs.length - (intOf i).toNat)
    case atStart => exact ⟨0, 0, by omega, rfl, rfl, by omega, by omega, by omega⟩
    case round =>
      obtain ⟨k, m, hk, rfl, rfl, hmk, h1, h2⟩ := hrel
      have H1 := Lib.hid h1
      have H2 := Lib.hid h2
      clear h1 h2
      by_cases hlt : k < zs.length
      · have hck := Hc.out k hlt
        have hb := hz.get k
        have HG := Lib.hid (Hget.out k)
        by_cases h0 : toF (gd zs k) = 0
        · have hz0 : (vl (toF (gd zs k)) != 0) = false := by rw [(vl_eq_zero _).2 h0]; rfl
          have H0 := Lib.hid h0
          clear h0
          go_wp2_with fail
          refine (rnorm_any _ _ hb.1 hb.2).mono ?_
          rintro e w' ⟨rfl, rfl⟩
          go_wp2
          go_round
          case rel => exact ⟨k + 1, m, by omega, by go_num, rfl, by omega, fun j j1 j2 => by
            by_cases hj : j = k
            · rw [hj, HG.out, H0.out]
            · exact H1.out j j1 (by omega), H2.out⟩
          case measure => simp [intOf] <;> omega
        · have hz0 : (vl (toF (gd zs k)) != 0) = true := by rw [bne_iff_ne]; exact fun e => h0 ((vl_eq_zero _).1 e)
          have H0 := Lib.hid h0
          clear h0
          go_wp2_with fail
          refine (rnorm_any _ _ hb.1 hb.2).mono ?_
          rintro e w' ⟨rfl, rfl⟩
          go_wp2
          go_round
          case rel => exact ⟨k + 1, k + 1, by omega, by go_num, by go_num, by omega, by omega, fun _ => by rw [Nat.add_sub_cancel, HG.out]; exact H0.out⟩
          case measure => simp [intOf] <;> omega
      · obtain hkl : k = zs.length := by omega
        have HS := Lib.hid (strip_upto (fs := fs) (m := m) (by rw [Hlen.out]; omega) (by rw [Hlen.out, ← hkl]; exact H1.out) H2.out)
        subst hkl
        go_wp2
        go_loopw [5, 6] (fun v i wr => NrmOutR w.heap.size w fs m v i wr) (fun _ i _ => m - (intOf i).toNat)
        case atStart => exact ⟨0, by omega, rfl, Ow.nil _ _, Below.refl _ _⟩
        case round =>
          obtain ⟨k, hk, rfl, hown, hbel⟩ := hrel
          by_cases hlt2 : k < m
          · have hcw := Hc.out k (by omega)
            have hck : wr.cell? ⟨b, off + k, none⟩ = some (.int .u64 (gd zs k)) := (hbel.cell (World.block_lt_of_cell? _ _ hcw)).trans hcw
            have hbk := hz.get k
            have HG := Lib.hid (take_snoc_F fs k (by rw [Hlen.out]; omega))
            have HG2 := Lib.hid (Hget.out k)
            have Ho := Lib.hid hown
            have Hb := Lib.hid hbel
            have hsz := hbel.size
            have hln : (fs.take k).length ≤ 1000000 := by rw [List.length_take]; omega
            clear hcw hown hbel
            go_wp2_with fail
            refine (rnorm_any _ _ hbk.1 hbk.2).mono ?_
            rintro e w' ⟨rfl, rfl⟩
            go_wp2_with (at_builtin; refine wl_app _ rfl (.tmp 25) (.tmp 31) rfl w.heap.size _ (fs.take k) (toF (gd zs k)) w rfl rfl Ho.out Hb.out hsz hln ?_)
            intro v' w1 hown1 hbel1
            rw [← HG2.out, ← HG.out] at hown1
            have Ho1 := Lib.hid hown1
            have Hb1 := Lib.hid hbel1
            clear hown1 hbel1
            go_wp2
            go_roundw
            case rel => exact ⟨k + 1, by omega, by go_num, Ho1.out, Hb1.out⟩
            case measure => simp [intOf] <;> omega
          · obtain rfl : k = m := by omega
            go_wp2
            go_ret
            exact ⟨_, rfl, by rw [HS.out]; exact hown, hbel⟩
theorem cf_addL_take (l m : List F) (k : Nat) (h : k < max l.length m.length) : (addL l m).take (k+1) = (addL l m).take k ++ [cf l k + cf m k] := by
  rw [take_snoc_F _ _ (by simp only [addL, List.length_map, List.length_range]; exact h), cf_addL]
set_option maxHeartbeats 2000000 in
theorem rsum_any (zs ys : List Int) (v v2 : Value) (w : World) (h : Rd .u64 w v zs) (h2 : Rd .u64 w v2 ys) (hz : B64 zs) (hy : B64 ys) (hl : zs.length ≤ 100000) (hl2 : ys.length ≤ 100000) :
    Calls Try.prog 48 #[v, v2] w (RetL w (strip (addL (zs.map toF) (ys.map toF)))) := by
  have HR := Lib.hid h
  have HR2 := Lib.hid h2
  obtain ⟨a, cap, b, off, rfl, hcap, hm, hx, hc⟩ := h
  obtain ⟨a2, cap2, b2, off2, rfl, hcap2, hm2, hx2, hc2⟩ := h2
  clear hx hc hx2 hc2
  obtain ⟨fs, hfs⟩ : ∃ fs, fs = addL (zs.map toF) (ys.map toF) := ⟨_, rfl⟩
  have hlen : fs.length = max zs.length ys.length := by rw [hfs]; simp [addL]
  have hget : ∀ i, i < max zs.length ys.length → fs.take (i+1) = fs.take i ++ [cf (zs.map toF) i + cf (ys.map toF) i] := fun i hi => by
    rw [hfs]; exact cf_addL_take _ _ i (by simpa using hi)
  rw [← hfs]
  have Hlen := Lib.hid hlen
  have Hget := Lib.hid hget
  clear hfs hlen hget
  obtain ⟨n, hn⟩ : ∃ n, n = max zs.length ys.length := ⟨_, rfl⟩
  have hn1 : n ≤ 100000 := by omega
  have hn2 : zs.length ≤ n := by omega
  have hn3 : ys.length ≤ n := by omega
  have Hn := Lib.hid hn
  clear hn
  go_enter Try.func48, Try.ntmps48
  go_wp2
  go_loopw [5, 6] (fun v i wr => SumRel w.heap.size w fs n v i wr) (fun _ i _ => n - (intOf i).toNat)
  case atStart => exact ⟨0, by omega, rfl, Ow.nil _ _, Below.refl _ _⟩
  case round =>
    obtain ⟨k, hk, rfl, hown, hbel⟩ := hrel
    have HX := Lib.hid (HR.out.below hbel)
    have HY := Lib.hid (HR2.out.below hbel)
    have Ho := Lib.hid hown
    have Hb := Lib.hid hbel
    have hsz := hbel.size
    by_cases hlt : k < n
    · have HG := Lib.hid (Hget.out k (by rw [← Hn.out]; exact hlt))
      have hln : (fs.take k).length ≤ 1000000 := by rw [List.length_take]; omega
      have hd : k < zs.length ∨ (¬ k < zs.length ∧ k < ys.length) := by have := Hn.out; omega
      clear hown hbel
      rcases hd with hlz | ⟨hlz, hly⟩
      all_goals
        go_wp2_with fail
        refine (at_any zs _ k _ HX.out hz (by omega)).mono ?_
        rintro e w' ⟨rfl, rfl⟩
        go_wp2_with fail
        refine (at_any ys _ k _ HY.out hy (by omega)).mono ?_
        rintro e w' ⟨rfl, rfl⟩
        go_wp2_with fail
        refine (radd_F _ _ _).mono ?_
        rintro e w' ⟨rfl, rfl⟩
        go_wp2_with (at_builtin; refine wl_app _ rfl (.tmp 19) (.tmp 27) rfl w.heap.size _ (fs.take k) (cf (zs.map toF) k + cf (ys.map toF) k) w rfl rfl Ho.out Hb.out hsz hln ?_)
        intro v' w1 hown1 hbel1
        rw [← HG.out] at hown1
        have Ho1 := Lib.hid hown1
        have Hb1 := Lib.hid hbel1
        clear hown1 hbel1
        go_wp2
        go_roundw
        case rel => exact ⟨k + 1, by omega, by go_num, Ho1.out, Hb1.out⟩
        case measure => simp [intOf] <;> omega
    · have hz1 : ¬ k < zs.length := by have := Hn.out; omega
      have hz2 : ¬ k < ys.length := by have := Hn.out; omega
      have hkf : fs.take k = fs := by rw [List.take_of_length_le]; rw [Hlen.out, ← Hn.out]; omega
      rw [hkf] at hown
      have Hrd := Lib.hid hown.rd
      have hfl : (fs.map vl).length ≤ 1000000 := by rw [List.length_map, Hlen.out, ← Hn.out]; omega
      clear hown hbel hkf Ho
      go_wp2_with fail
      refine (rnormal_any (fs.map vl) _ _ Hrd.out (B64.vl fs) hfl).mono ?_
      rintro e w' ⟨v', rfl, hown', hbel'⟩
      rw [map_toF_vl] at hown'
      have Ho' := Lib.hid (hown'.mono hsz)
      have Hb' := Lib.hid (Hb.out.trans (hbel'.mono hsz))
      clear hown' hbel'
      go_wp2
      go_ret
      exact ⟨_, rfl, Ho'.out, Hb'.out⟩
end Go.Proofs.Ytjljndnpefdifaa.Gm
