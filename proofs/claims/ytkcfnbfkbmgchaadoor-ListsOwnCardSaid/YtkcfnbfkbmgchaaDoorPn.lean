/- The walk of poly.normal. -/
import Derived.Test.YtkcfnbfkbmgchaaDoorRd
import Derived.Test.YtkcfnbfkbmgchaaDoorFx
namespace Go.Proofs.YtkcfnbfkbmgchaaDoor.Gm
open Go.RowKit
theorem strip_tail (l : List F) (i : Nat) (h : (strip l).length ≤ i) : cf l i = 0 := by
  rw [← cf_strip]; exact cf_ge h
theorem strip_is_take (l : List F) : strip l = l.take (strip l).length := by
  apply ext_cf
  · rw [List.length_take, Nat.min_eq_left (strip_len l)]
  · intro i hi
    rw [cf_strip, cf_take _ _ _ hi]
theorem strip_end (l : List F) (h : 0 < (strip l).length) : cf l ((strip l).length - 1) ≠ 0 := by
  rcases strip_last l with h1 | h1
  · rw [h1] at h; simp at h
  · exact h1
theorem take_snoc_F (l : List F) (k : Nat) (h : k < l.length) : l.take (k+1) = l.take k ++ [cf l k] := by
  rw [List.take_succ_eq_append_getElem h, cf_lt h]
def NrmRel (n m : Nat) (i : Value) : Prop := ∃ k : Nat, n ≤ k ∧ k ≤ m ∧ i = .int .i64 k
def NrmOut (B : Nat) (w : World) (fs : List F) (n : Nat) (v i : Value) (wr : World) : Prop :=
  ∃ k : Nat, k ≤ n ∧ i = .int .i64 k ∧ Ow B wr v (fs.take k) ∧ Below B w wr
set_option maxHeartbeats 1000000 in
theorem normal_any (zs : List Int) (v : Value) (w : World) (h : Rd .u64 w v zs) (hz : B64 zs) (hl : zs.length ≤ 1000000) :
    Calls Tryd.prog 74 #[v] w (RetL w (strip (zs.map toF))) := by
  obtain ⟨a, cap, b, off, rfl, hcap, hm, hx, hc⟩ := h
  obtain ⟨fs, hfs⟩ : ∃ fs, fs = zs.map toF := ⟨_, rfl⟩
  obtain ⟨n, hn⟩ : ∃ n, n = (strip fs).length := ⟨_, rfl⟩
  have hlen : fs.length = zs.length := by rw [hfs, List.length_map]
  have hnl : n ≤ zs.length := by rw [hn, ← hlen]; exact strip_len fs
  have htail : ∀ i, n ≤ i → vl (toF (gd zs i)) = 0 := fun i hi => by
    rw [← cf_map, ← hfs, strip_tail fs i (by omega), vl_zero]
  have hend : 0 < n → (vl (toF (gd zs (n-1))) == 0) = false := fun h0 => by
    rw [beq_eq_false_iff_ne, ← cf_map, ← hfs]
    intro e
    have := strip_end fs (by omega)
    rw [← hn] at this
    exact this ((vl_eq_zero _).1 e)
  have hfin : strip (zs.map toF) = fs.take n := by rw [← hfs, hn]; exact strip_is_take fs
  have hget : ∀ i, i < zs.length → fs.take (i+1) = fs.take i ++ [toF (gd zs i)] := fun i hi => by
    rw [take_snoc_F fs i (by omega), hfs, cf_map]
  rw [hfin]
  have Hn := Lib.hid hn
  have Hfs := Lib.hid hfs
  have Hlen := Lib.hid hlen
  have Htail := Lib.hid htail
  have Hend := Lib.hid hend
  have Hget := Lib.hid hget
  clear hn hfs hlen htail hend hget hfin
  rcases hx with rfl | rfl
  · obtain rfl : n = 0 := by simpa using hnl
    go_enter Tryd.func74, Tryd.ntmps74
    go_wp2
    refine wp_loop_rounds 1 ?_
    rw [rounds_succ]
    go_wp2
    refine wp_loop_rounds 1 ?_
    rw [rounds_succ]
    go_wp2
    go_ret
    exact ⟨_, rfl, Ow.nil _ _, Below.refl _ _⟩
  · have Hc := Lib.hid hc
    clear hc
    go_enter Tryd.func74, Tryd.ntmps74
    go_wp2
    go_loop [3] (fun i => NrmRel n zs.length i) (fun i => (intOf i).toNat)
    case atStart => exact ⟨zs.length, hnl, Nat.le_refl _, rfl⟩
    case round =>
      obtain ⟨k, hk1, hk2, rfl⟩ := hrel
      by_cases hgt : n < k
      · obtain ⟨j, rfl⟩ : ∃ j, k = j + 1 := ⟨k - 1, by omega⟩
        have hcell := Hc.out j (by omega)
        have hzero := Htail.out j (by omega)
        have hb := hz.get j
        go_wp2_with fail
        refine (norm_any _ _ hb.1 hb.2).mono ?_
        rintro e w' ⟨rfl, rfl⟩
        go_wp2
        go_round
        case rel => exact ⟨j, by omega, by omega, by go_num⟩
        case measure => simp [intOf] <;> omega
      · obtain rfl : k = n := by omega
        by_cases h0 : 0 < k
        · obtain ⟨j, rfl⟩ : ∃ j, k = j + 1 := ⟨k - 1, by omega⟩
          have hcell := Hc.out j (by omega)
          have hnz := Hend.out (by omega)
          rw [Nat.add_sub_cancel] at hnz
          have hb := hz.get j
          go_wp2_with fail
          refine (norm_any _ _ hb.1 hb.2).mono ?_
          rintro e w' ⟨rfl, rfl⟩
          go_wp2
          go_loopw [4, 26] (fun v i wr => NrmOut w.heap.size w fs (j+1) v i wr) (fun _ i _ => (j + 1) - (intOf i).toNat)
          case atStart => exact ⟨0, by omega, rfl, Ow.nil _ _, Below.refl _ _⟩
          case round =>
            obtain ⟨k, hk, rfl, hown, hbel⟩ := hrel
            by_cases hlt : k < j + 1
            · have hcw := Hc.out k (by omega)
              have hck : wr.cell? ⟨b, off + k, none⟩ = some (.int .u64 (gd zs k)) := (hbel.cell (World.block_lt_of_cell? _ _ hcw)).trans hcw
              have hbk := hz.get k
              have HG := Lib.hid (Hget.out k (by omega))
              have Ho := Lib.hid hown
              have Hb := Lib.hid hbel
              have hsz := hbel.size
              have hln : (fs.take k).length ≤ 1000000 := by rw [List.length_take]; omega
              clear hcw hown hbel hcell hnz hb
              go_wp2_with fail
              refine (norm_any _ _ hbk.1 hbk.2).mono ?_
              rintro e w' ⟨rfl, rfl⟩
              go_wp2_with (at_builtin; refine wl_app _ rfl (.tmp 30) (.tmp 33) rfl w.heap.size _ (fs.take k) (toF (gd zs k)) w rfl rfl Ho.out Hb.out hsz hln ?_)
              intro v' w1 hown1 hbel1
              rw [← HG.out] at hown1
              have Ho1 := Lib.hid hown1
              have Hb1 := Lib.hid hbel1
              clear hown1 hbel1
              go_wp2
              go_roundw
              case rel => exact ⟨k + 1, by omega, by go_num, Ho1.out, Hb1.out⟩
              case measure => simp [intOf] <;> omega
            · obtain rfl : k = j + 1 := by omega
              go_wp2
              go_ret
              exact ⟨_, rfl, hown, hbel⟩
        · obtain rfl : k = 0 := by omega
          go_wp2
          refine wp_loop_rounds 1 ?_
          rw [rounds_succ]
          go_wp2
          go_ret
          exact ⟨_, rfl, Ow.nil _ _, Below.refl _ _⟩
end Go.Proofs.YtkcfnbfkbmgchaaDoor.Gm
