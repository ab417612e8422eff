/- slices.Index, slices.Contains over tasks. (Printed by wip/mk_XIx.py.) -/
import Derived.Test.YtcakeenfkdhedaaDoorGd
namespace Go.Proofs.YtcakeenfkdhedaaDoor.Gm
open Go.RowKit
set_option linter.unusedVariables false
def IxP (n : Nat) (f : Option Nat) (w : World) (e : Ending) (w' : World) : Prop := (match f with | none => e = .returned (.int .i64 (-1)) | some f => ∃ k : Nat, k ≤ f ∧ e = .returned (.int .i64 (k : Int))) ∧ Below w.heap.size w w'
def IxR (n : Nat) (f : Option Nat) (w : World) (i : Value) (wr : World) : Prop := ∃ k : Nat, k ≤ n ∧ (∀ j, f = some j → k ≤ j) ∧ i = .int .i64 k ∧ Below w.heap.size w wr

set_option maxHeartbeats 1000000 in
theorem indexT_any (l : List T3) (x0 x1 x2 : Int) (f : Option Nat) (v : Value) (w : World) (h : Rk w v l) (hf : ∀ j, f = some j → j < l.length ∧ tg l j = (x0, x1, x2)) (hn : f = none → ∀ j, j < l.length → tg l j ≠ (x0, x1, x2)) :
    Calls Tryd.prog 62 #[v, .agg #[.int .i64 x0, .int .i64 x1, .int .i64 x2]] w (IxP l.length f w) := by
  obtain ⟨a, cap, b, off, rfl, hcap, hm, hx, hc⟩ := h
  obtain ⟨n, hnl⟩ : ∃ n, n = l.length := ⟨_, rfl⟩
  rw [← hnl] at hcap hx ⊢
  have HC := Lib.hid hc
  have HF := Lib.hid hf
  have HN := Lib.hid hn
  have HL := Lib.hid hnl
  clear hc hf hn hnl
  have KB := Lib.hid (Blk.new w 56 #[.int .i64 x0, .int .i64 x1, .int .i64 x2])
  have AL := Lib.hid ((Below.refl w.heap.size w).alloc (Nat.le_refl _) (.cells #[.int .i64 x0, .int .i64 x1, .int .i64 x2] 56))
  go_enter Tryd.func62, Tryd.ntmps62
  go_wp2
  obtain ⟨bb, hbb⟩ : ∃ bb, bb = w.heap.size := ⟨_, rfl⟩
  rw [← hbb] at KB ⊢
  have HBB := Lib.hid hbb
  have hsz : (w.alloc (.cells #[.int .i64 x0, .int .i64 x1, .int .i64 x2] 56)).heap.size = bb + 1 := by simp [hbb]
  have HSZ := Lib.hid hsz
  clear hbb hsz
  obtain ⟨w0, hw0⟩ : ∃ w0, w0 = w.alloc (.cells #[.int .i64 x0, .int .i64 x1, .int .i64 x2] 56) := ⟨_, rfl⟩
  rw [← hw0] at KB AL HSZ ⊢
  clear hw0
  go_loopw [5, 8] (fun _ i wr => IxR n f w0 i wr) (fun _ i _ => n - (intOf i).toNat)
  case atStart => exact ⟨0, by omega, fun _ _ => by omega, rfl, Below.refl _ _⟩
  case round =>
    obtain ⟨k, hk, hkf, rfl, hbel⟩ := hrel
    have BW := Lib.hid hbel
    have HKF := Lib.hid hkf
    clear hkf
    by_cases hlt : k < n
    · obtain rfl := hx.resolve_left (by omega)
      obtain ⟨c0, c1, c2⟩ := HC.out k (by rw [← HL.out]; exact hlt)
      have hbw := AL.out.trans (BW.out.mono (by rw [HSZ.out, ← HBB.out]; omega))
      have c0 := (hbw.cell (p := ⟨b, _, none⟩) (World.block_lt_of_cell? w _ c0)).trans c0
      have c1 := (hbw.cell (p := ⟨b, _, none⟩) (World.block_lt_of_cell? w _ c1)).trans c1
      have c2 := (hbw.cell (p := ⟨b, _, none⟩) (World.block_lt_of_cell? w _ c2)).trans c2
      have b0 : wr.cell? ⟨bb, 0, none⟩ = some (.int .i64 x0) := (hbel.cell (p := ⟨bb, 0, none⟩) (by rw [HSZ.out]; exact Nat.lt_succ_self _)).trans (KB.out.cell 0)
      have b1 : wr.cell? ⟨bb, 1, none⟩ = some (.int .i64 x1) := (hbel.cell (p := ⟨bb, 1, none⟩) (by rw [HSZ.out]; exact Nat.lt_succ_self _)).trans (KB.out.cell 1)
      have b2 : wr.cell? ⟨bb, 2, none⟩ = some (.int .i64 x2) := (hbel.cell (p := ⟨bb, 2, none⟩) (by rw [HSZ.out]; exact Nat.lt_succ_self _)).trans (KB.out.cell 2)
      have HT := Lib.hid (show tg l k = ((tg l k).1, (tg l k).2.1, (tg l k).2.2) from rfl)
      generalize (tg l k).1 = y0 at *
      generalize (tg l k).2.1 = y1 at *
      generalize (tg l k).2.2 = y2 at *
      clear hbw hbel
      by_cases he : x0 = y0 ∧ x1 = y1 ∧ x2 = y2
      · obtain ⟨rfl, rfl, rfl⟩ := he
        have FE := Lib.hid (show ∃ j, f = some j ∧ k ≤ j from by
          cases hf : f with
          | none => exact absurd HT.out (HN.out hf k (by rw [← HL.out]; exact hlt))
          | some j => exact ⟨j, rfl, HKF.out j hf⟩)
        go_wp2
        go_quiet (fail)
        go_wp2
        go_ret
        obtain ⟨j, rfl, hj⟩ := FE.out
        exact ⟨⟨k, hj, rfl⟩, AL.out.trans ((below_drewN BW.out _).mono (by rw [HSZ.out, ← HBB.out]; omega))⟩
      · have KF := Lib.hid (show ∀ j, f = some j → k + 1 ≤ j from fun j hj => by
          have h1 := HKF.out j hj
          rcases Nat.lt_or_ge k j with h2 | h2
          · exact h2
          · obtain rfl : k = j := by omega
            have h3 := (HF.out _ hj).2
            rw [HT.out] at h3
            injection h3 with e0 e1
            injection e1 with e1 e2
            exact absurd ⟨e0.symm, e1.symm, e2.symm⟩ he)
        clear HT
        have h3 : ¬ x0 = y0 ∨ (x0 = y0 ∧ ¬ x1 = y1) ∨ (x0 = y0 ∧ x1 = y1 ∧ ¬ x2 = y2) := by omega
        clear he
        rcases h3 with hd0 | ⟨rfl, hd0⟩ | ⟨rfl, rfl, hd0⟩
        all_goals
          go_wp2
          go_quiet (fail)
          go_wp2
          go_roundw
          case rel => exact ⟨k + 1, by omega, KF.out, by go_num, below_drewN BW.out _⟩
          case measure => simp [intOf] <;> omega
    · obtain rfl : n = k := by omega
      have FN := Lib.hid (show f = none from by
        cases hf : f with
        | none => rfl
        | some j => have h1 := HKF.out j hf; have h2 := (HF.out j hf).1; have := HL.out; omega)
      go_wp2
      go_ret
      rw [FN.out]
      exact ⟨rfl, AL.out.trans (BW.out.mono (by rw [HSZ.out, ← HBB.out]; omega))⟩
theorem containsT_yes (l : List T3) (x0 x1 x2 : Int) (v : Value) (w : World) (h : Rk w v l) (hm : (x0, x1, x2) ∈ l) :
    Calls Tryd.prog 39 #[v, .agg #[.int .i64 x0, .int .i64 x1, .int .i64 x2]] w (RetV w (.bool true)) := by
  obtain ⟨j, hj, e⟩ := List.getElem_of_mem hm
  have AL := Lib.hid ((Below.refl w.heap.size w).alloc (Nat.le_refl _) (.cells #[.int .i64 x0, .int .i64 x1, .int .i64 x2] 56))
  have CI := Lib.hid (indexT_any l x0 x1 x2 (some j) v _ (h.below AL.out) (fun k e2 => by injection e2 with e2; subst e2; exact ⟨hj, by rw [tg_lt hj, e]⟩) (fun e => by cases e))
  have KB := Lib.hid (Blk.new w 56 #[.int .i64 x0, .int .i64 x1, .int .i64 x2])
  have b0 := KB.out.cell 0
  have b1 := KB.out.cell 1
  have b2 := KB.out.cell 2
  clear hm e hj h
  go_enter Tryd.func39, Tryd.ntmps39
  go_wp2_with fail
  refine CI.out.mono ?_
  rintro e w' ⟨⟨k, hk, rfl⟩, hb⟩
  have HB := Lib.hid (AL.out.trans (hb.mono (by simp)))
  clear hb CI hk
  go_wp2
  go_ret
  exact ⟨by simp, HB.out⟩
theorem containsT_no (l : List T3) (x0 x1 x2 : Int) (v : Value) (w : World) (h : Rk w v l) (hm : (x0, x1, x2) ∉ l) :
    Calls Tryd.prog 39 #[v, .agg #[.int .i64 x0, .int .i64 x1, .int .i64 x2]] w (RetV w (.bool false)) := by
  have AL := Lib.hid ((Below.refl w.heap.size w).alloc (Nat.le_refl _) (.cells #[.int .i64 x0, .int .i64 x1, .int .i64 x2] 56))
  have CI := Lib.hid (indexT_any l x0 x1 x2 none v _ (h.below AL.out) (fun k e2 => by cases e2) (fun _ j hj e => hm (by rw [← e, tg_lt hj]; exact List.getElem_mem hj)))
  have KB := Lib.hid (Blk.new w 56 #[.int .i64 x0, .int .i64 x1, .int .i64 x2])
  have b0 := KB.out.cell 0
  have b1 := KB.out.cell 1
  have b2 := KB.out.cell 2
  clear hm h
  go_enter Tryd.func39, Tryd.ntmps39
  go_wp2_with fail
  refine CI.out.mono ?_
  rintro e w' ⟨rfl, hb⟩
  have HB := Lib.hid (AL.out.trans (hb.mono (by simp)))
  clear hb CI
  go_wp2
  go_ret
  exact ⟨by simp, HB.out⟩

set_option maxHeartbeats 1000000 in
theorem indexP_any (l : List T3) (x0 x1 x2 : Int) (f : Option Nat) (v : Value) (w : World) (h : Rk w v l) (hf : ∀ j, f = some j → j < l.length ∧ tg l j = (x0, x1, x2)) (hn : f = none → ∀ j, j < l.length → tg l j ≠ (x0, x1, x2)) :
    Calls Tryd.prog 63 #[v, .agg #[.int .i64 x0, .int .i64 x1, .int .i64 x2]] w (IxP l.length f w) := by
  obtain ⟨a, cap, b, off, rfl, hcap, hm, hx, hc⟩ := h
  obtain ⟨n, hnl⟩ : ∃ n, n = l.length := ⟨_, rfl⟩
  rw [← hnl] at hcap hx ⊢
  have HC := Lib.hid hc
  have HF := Lib.hid hf
  have HN := Lib.hid hn
  have HL := Lib.hid hnl
  clear hc hf hn hnl
  have KB := Lib.hid (Blk.new w 56 #[.int .i64 x0, .int .i64 x1, .int .i64 x2])
  have AL := Lib.hid ((Below.refl w.heap.size w).alloc (Nat.le_refl _) (.cells #[.int .i64 x0, .int .i64 x1, .int .i64 x2] 56))
  go_enter Tryd.func63, Tryd.ntmps63
  go_wp2
  obtain ⟨bb, hbb⟩ : ∃ bb, bb = w.heap.size := ⟨_, rfl⟩
  rw [← hbb] at KB ⊢
  have HBB := Lib.hid hbb
  have hsz : (w.alloc (.cells #[.int .i64 x0, .int .i64 x1, .int .i64 x2] 56)).heap.size = bb + 1 := by simp [hbb]
  have HSZ := Lib.hid hsz
  clear hbb hsz
  obtain ⟨w0, hw0⟩ : ∃ w0, w0 = w.alloc (.cells #[.int .i64 x0, .int .i64 x1, .int .i64 x2] 56) := ⟨_, rfl⟩
  rw [← hw0] at KB AL HSZ ⊢
  clear hw0
  go_loopw [5, 8] (fun _ i wr => IxR n f w0 i wr) (fun _ i _ => n - (intOf i).toNat)
  case atStart => exact ⟨0, by omega, fun _ _ => by omega, rfl, Below.refl _ _⟩
  case round =>
    obtain ⟨k, hk, hkf, rfl, hbel⟩ := hrel
    have BW := Lib.hid hbel
    have HKF := Lib.hid hkf
    clear hkf
    by_cases hlt : k < n
    · obtain rfl := hx.resolve_left (by omega)
      obtain ⟨c0, c1, c2⟩ := HC.out k (by rw [← HL.out]; exact hlt)
      have hbw := AL.out.trans (BW.out.mono (by rw [HSZ.out, ← HBB.out]; omega))
      have c0 := (hbw.cell (p := ⟨b, _, none⟩) (World.block_lt_of_cell? w _ c0)).trans c0
      have c1 := (hbw.cell (p := ⟨b, _, none⟩) (World.block_lt_of_cell? w _ c1)).trans c1
      have c2 := (hbw.cell (p := ⟨b, _, none⟩) (World.block_lt_of_cell? w _ c2)).trans c2
      have b0 : wr.cell? ⟨bb, 0, none⟩ = some (.int .i64 x0) := (hbel.cell (p := ⟨bb, 0, none⟩) (by rw [HSZ.out]; exact Nat.lt_succ_self _)).trans (KB.out.cell 0)
      have b1 : wr.cell? ⟨bb, 1, none⟩ = some (.int .i64 x1) := (hbel.cell (p := ⟨bb, 1, none⟩) (by rw [HSZ.out]; exact Nat.lt_succ_self _)).trans (KB.out.cell 1)
      have b2 : wr.cell? ⟨bb, 2, none⟩ = some (.int .i64 x2) := (hbel.cell (p := ⟨bb, 2, none⟩) (by rw [HSZ.out]; exact Nat.lt_succ_self _)).trans (KB.out.cell 2)
      have HT := Lib.hid (show tg l k = ((tg l k).1, (tg l k).2.1, (tg l k).2.2) from rfl)
      generalize (tg l k).1 = y0 at *
      generalize (tg l k).2.1 = y1 at *
      generalize (tg l k).2.2 = y2 at *
      clear hbw hbel
      by_cases he : x0 = y0 ∧ x1 = y1 ∧ x2 = y2
      · obtain ⟨rfl, rfl, rfl⟩ := he
        have FE := Lib.hid (show ∃ j, f = some j ∧ k ≤ j from by
          cases hf : f with
          | none => exact absurd HT.out (HN.out hf k (by rw [← HL.out]; exact hlt))
          | some j => exact ⟨j, rfl, HKF.out j hf⟩)
        go_wp2
        go_quiet (fail)
        go_wp2
        go_ret
        obtain ⟨j, rfl, hj⟩ := FE.out
        exact ⟨⟨k, hj, rfl⟩, AL.out.trans ((below_drewN BW.out _).mono (by rw [HSZ.out, ← HBB.out]; omega))⟩
      · have KF := Lib.hid (show ∀ j, f = some j → k + 1 ≤ j from fun j hj => by
          have h1 := HKF.out j hj
          rcases Nat.lt_or_ge k j with h2 | h2
          · exact h2
          · obtain rfl : k = j := by omega
            have h3 := (HF.out _ hj).2
            rw [HT.out] at h3
            injection h3 with e0 e1
            injection e1 with e1 e2
            exact absurd ⟨e0.symm, e1.symm, e2.symm⟩ he)
        clear HT
        have h3 : ¬ x0 = y0 ∨ (x0 = y0 ∧ ¬ x1 = y1) ∨ (x0 = y0 ∧ x1 = y1 ∧ ¬ x2 = y2) := by omega
        clear he
        rcases h3 with hd0 | ⟨rfl, hd0⟩ | ⟨rfl, rfl, hd0⟩
        all_goals
          go_wp2
          go_quiet (fail)
          go_wp2
          go_roundw
          case rel => exact ⟨k + 1, by omega, KF.out, by go_num, below_drewN BW.out _⟩
          case measure => simp [intOf] <;> omega
    · obtain rfl : n = k := by omega
      have FN := Lib.hid (show f = none from by
        cases hf : f with
        | none => rfl
        | some j => have h1 := HKF.out j hf; have h2 := (HF.out j hf).1; have := HL.out; omega)
      go_wp2
      go_ret
      rw [FN.out]
      exact ⟨rfl, AL.out.trans (BW.out.mono (by rw [HSZ.out, ← HBB.out]; omega))⟩
theorem containsP_yes (l : List T3) (x0 x1 x2 : Int) (v : Value) (w : World) (h : Rk w v l) (hm : (x0, x1, x2) ∈ l) :
    Calls Tryd.prog 40 #[v, .agg #[.int .i64 x0, .int .i64 x1, .int .i64 x2]] w (RetV w (.bool true)) := by
  obtain ⟨j, hj, e⟩ := List.getElem_of_mem hm
  have AL := Lib.hid ((Below.refl w.heap.size w).alloc (Nat.le_refl _) (.cells #[.int .i64 x0, .int .i64 x1, .int .i64 x2] 56))
  have CI := Lib.hid (indexP_any l x0 x1 x2 (some j) v _ (h.below AL.out) (fun k e2 => by injection e2 with e2; subst e2; exact ⟨hj, by rw [tg_lt hj, e]⟩) (fun e => by cases e))
  have KB := Lib.hid (Blk.new w 56 #[.int .i64 x0, .int .i64 x1, .int .i64 x2])
  have b0 := KB.out.cell 0
  have b1 := KB.out.cell 1
  have b2 := KB.out.cell 2
  clear hm e hj h
  go_enter Tryd.func40, Tryd.ntmps40
  go_wp2_with fail
  refine CI.out.mono ?_
  rintro e w' ⟨⟨k, hk, rfl⟩, hb⟩
  have HB := Lib.hid (AL.out.trans (hb.mono (by simp)))
  clear hb CI hk
  go_wp2
  go_ret
  exact ⟨by simp, HB.out⟩
theorem containsP_no (l : List T3) (x0 x1 x2 : Int) (v : Value) (w : World) (h : Rk w v l) (hm : (x0, x1, x2) ∉ l) :
    Calls Tryd.prog 40 #[v, .agg #[.int .i64 x0, .int .i64 x1, .int .i64 x2]] w (RetV w (.bool false)) := by
  have AL := Lib.hid ((Below.refl w.heap.size w).alloc (Nat.le_refl _) (.cells #[.int .i64 x0, .int .i64 x1, .int .i64 x2] 56))
  have CI := Lib.hid (indexP_any l x0 x1 x2 none v _ (h.below AL.out) (fun k e2 => by cases e2) (fun _ j hj e => hm (by rw [← e, tg_lt hj]; exact List.getElem_mem hj)))
  have KB := Lib.hid (Blk.new w 56 #[.int .i64 x0, .int .i64 x1, .int .i64 x2])
  have b0 := KB.out.cell 0
  have b1 := KB.out.cell 1
  have b2 := KB.out.cell 2
  clear hm h
  go_enter Tryd.func40, Tryd.ntmps40
  go_wp2_with fail
  refine CI.out.mono ?_
  rintro e w' ⟨rfl, hb⟩
  have HB := Lib.hid (AL.out.trans (hb.mono (by simp)))
  clear hb CI
  go_wp2
  go_ret
  exact ⟨by simp, HB.out⟩
end Go.Proofs.YtcakeenfkdhedaaDoor.Gm
