/- The reference's Data. -/
import Derived.Test.YtjljndnpefdifaaSv
namespace Go.Proofs.Ytjljndnpefdifaa.Gm
open Go.RowKit
theorem heap1' (w : World) (o p : Obj) : ((w.alloc o).alloc p).heap[w.heap.size]? = some o := by
  rw [Below.heap_alloc _ _ _ (by simp)]; exact heap_alloc_new w o
/-- the polynomial through the first shares -/
@[irreducible] def thruK (az sz : List Int) (m : Nat) : List F := lagr (pts (az.take m)) ((sz.take m).map toF) m
theorem fine_take {az : List Int} (h : Fine az) (m : Nat) : Fine (az.take m) :=
  ⟨fun a ha => h.1 a (List.mem_of_mem_take ha), h.2.sublist (List.take_sublist _ _)⟩
theorem thruK_len (az sz : List Int) (m : Nat) (hm : m ≤ az.length) : (thruK az sz m).length ≤ m := by
  unfold thruK
  have h := lagr_len (pts (az.take m)) ((sz.take m).map toF) m (by rw [pts_len, List.length_take]; omega)
  rw [pts_len, List.length_take] at h
  omega
/-- all the shares lie on it -/
def On (T : List F) (az sz : List Int) (n : Nat) : Prop := ∀ i, i < n → evl T (pt (gd az i).toNat) = toF (gd sz i)
def DataRel (T : List F) (az sz : List Int) (wo : World) (i : Value) (wr : World) : Prop :=
  ∃ j : Nat, j ≤ az.length ∧ i = .int .i64 j ∧ On T az sz j ∧ Below wo.heap.size wo wr
def PadRel (w : World) (T : List F) (k : Nat) (p : Value) (wr : World) : Prop :=
  ∃ j : Nat, T.length + j ≤ k ∧ Oz .u64 27 w.heap.size wr p (T.map vl ++ List.replicate j 0) ∧ Below w.heap.size w wr
theorem reval_F (T : List F) (v : Value) (x : F) {B : Nat} {w : World} (h : Ow B w v T) :
    Calls Try.prog 22 #[v, .int .u64 (vl x)] w fun e w' => e = .returned (.int .u64 (vl (evl T x))) ∧ w = w' := by
  have h1 := reval_any (T.map vl) v (vl x) w h.rd (B64.vl T) (vl_lo x) (vl_64 x)
  rwa [map_toF_vl, toF_vl] at h1
set_option maxHeartbeats 4000000 in
set_option maxRecDepth 100000 in
theorem data_any (k : Nat) (z : Int) (az sz : List Int) (v : Value) (w : World) (h : Rs w v az sz) (hb : B64 sz) (hzk : z = k) (hk1 : 1 ≤ k) (hk2 : k ≤ 64) (hf : Fine az) :
    Calls Try.prog 37 #[.int .i64 z, v] w (fun e w' => (¬ On (thruK az sz (min az.length k)) az sz az.length ∧ RetLE w [] 5 e w') ∨
      (On (thruK az sz (min az.length k)) az sz az.length ∧ az.length < k ∧ RetLE w [] 4 e w') ∨ (On (thruK az sz (min az.length k)) az sz az.length ∧ k ≤ az.length ∧ RetLE w (padF (thruK az sz (min az.length k)) k) 0 e w')) := by
  subst hzk
  obtain ⟨M, hM⟩ : ∃ M, M = min az.length k := ⟨_, rfl⟩
  rw [← hM]
  have hM1 : M ≤ az.length := by omega
  have hM2 : M ≤ k := by omega
  have hM3 : M = az.length ∨ M = k := by omega
  clear hM
  have TL := Lib.hid (thruK_len az sz M hM1)
  obtain ⟨T, hT⟩ : ∃ T, T = thruK az sz M := ⟨_, rfl⟩
  rw [← hT] at TL ⊢
  have HT := Lib.hid hT
  clear hT
  obtain ⟨hlen, a, cap, b, off, rfl, hcap, hm, hx, hc⟩ := h
  have Hc := Lib.hid hc
  have HL := Lib.hid hlen
  have FI := Lib.hid hf
  have hl64 := fine_len hf
  clear hc hlen hf
  rcases hx with hx | rfl
  rotate_left
  all_goals
    go_enter Try.func37, Try.ntmps37
    go_wp2
    go_loopw [6, 7, 8] (fun xs ys i wr => ThrLoop w az sz M xs ys i wr) (fun _ _ i _ => M - (intOf i).toNat)
    case atStart => exact ⟨0, by omega, rfl, by rw [List.take_zero]; exact Oz.nil _ _ _ _, by rw [List.take_zero]; exact Oz.nil _ _ _ _, .inl rfl, Below.refl _ _⟩
    case round =>
      obtain ⟨j, hj, rfl, hxs, hys, hap, hbel⟩ := hrel
      have AP := Lib.hid hap
      have OX := Lib.hid hxs
      have OY := Lib.hid hys
      have HB := Lib.hid hbel
      have hwsz := hbel.size
      clear hxs hys hap hbel
      by_cases hjn : j < M
      · first
        | (exfalso; omega)
        | (have hjl : j < az.length := by omega
           have hjk : j < k := by omega
           have hcw := Hc.out j hjl
           have hfj := FI.out.1 _ (gd_mem az j hjl)
           have hwr := wrap_small (gd az j) (gd az j).toNat (by omega) (by omega)
           have lt1 := World.block_lt_of_cell? _ _ hcw.1
           have hc1 : wr.cell? ⟨b, off + j * 2, none⟩ = some (.int .i64 (gd az j)) := (HB.out.cell (p := ⟨b, off + j * 2, none⟩) lt1).trans hcw.1
           have hc2 : wr.cell? ⟨b, off + j * 2 + 1, none⟩ = some (.int .u64 (gd sz j)) := (HB.out.cell (p := ⟨b, off + j * 2 + 1, none⟩) lt1).trans hcw.2
           clear hcw
           have lt2 : b < w.heap.size := lt1
           have TX := Lib.hid (show (pts (az.take (j+1))).map vl = (pts (az.take j)).map vl ++ [vl (pt (gd az j).toNat)] by rw [take_snoc_Z az j hjl, pts_snoc, List.map_append]; rfl)
           have TY := Lib.hid (take_snoc_Z sz j (by rw [← HL.out]; exact hjl))
           have hlx : ((pts (az.take j)).map vl).length ≤ 1000000 := by simp [pts]; omega
           have hly : (sz.take j).length ≤ 1000000 := by rw [List.length_take]; omega
           have FX := Lib.hid (show ∀ n, some (wr.heap.size + n) ≠ u6.ownBlock from fun n e => by have := (OX.out.lt _ e.symm).2; omega)
           have FXb := Lib.hid (show some b ≠ u6.ownBlock from fun e => by have := (OX.out.lt _ e.symm).1; omega)
           have FYb := Lib.hid (show some b ≠ u7.ownBlock from fun e => by have := (OY.out.lt _ e.symm).1; omega)
           have ltw : b < wr.heap.size := by omega
           have hi0 : (0 : Int) ≤ (j : Int) := by omega
           have hi1 : (j : Int) < (az.length : Int) := by omega
           go_wp2
           go_region_held3 (fun w' => w'.cell? ⟨b, off + j * 2, none⟩ = some (.int .i64 (gd az j)) ∧ w'.cell? ⟨b, off + j * 2 + 1, none⟩ = some (.int .u64 (gd sz j)))
             (first | go_keep | (go_split_ands; refine ⟨?_, ?_⟩ <;> (rw [G1.cell_far _ (by simp <;> omega) FXb.out]; assumption)) | (go_split_ands; refine ⟨?_, ?_⟩ <;> (rw [G2.cell_far _ (by have := G1.size; simp at this ⊢; omega) FYb.out]; assumption)))
             (first | (go_at_call 60; refine (rroot_six _).mono ?_; rintro e w' ⟨rfl, rfl⟩) | (go_at_call 59; refine (rpoint_pow (gd az j).toNat _ _ (by omega) (by first | omega | (rw [hwr]; omega))).mono ?_; rintro e w' ⟨rfl, rfl⟩) | (refine st_app_u64 _ (by rfl) (.tmp 22) (.tmp 31) (by rfl) w.heap.size u6 ((pts (az.take j)).map vl) (vl (pt (gd az j).toNat)) w _ (by rfl) (by rfl) (OX.out.below (by repeat (first | exact Below.refl _ _ | refine Below.drew ?_ | refine Below.alloc ?_ (by first | exact Nat.le_refl _ | (simp; done) | (simp; omega)) _))) (by first | exact heap_alloc_new _ _ | exact heap1' _ _ _ | exact heap2 _ _ _) (by repeat (first | exact HB.out | refine Below.drew ?_ | refine Below.alloc ?_ (by first | omega | (simp; omega)) _)) (by first | omega | (simp; omega)) hlx ?_; intro v1 w1 O1 B1 G1 A1; have hs1 := B1.size; have OY1 := Oz.kept (OY.out.below (by repeat (first | exact Below.refl _ _ | refine Below.drew ?_ | refine Below.alloc ?_ (by first | exact Nat.le_refl _ | (simp; done) | (simp; omega)) _))) G1 AP.out; have AP1 := Ap.next AP.out (OY.out.below (by repeat (first | exact Below.refl _ _ | refine Below.drew ?_ | refine Below.alloc ?_ (by first | exact Nat.le_refl _ | (simp; done) | (simp; omega)) _))) A1) | (refine st_app_u64 _ (by rfl) (.tmp 33) (.tmp 39) (by rfl) w.heap.size u7 (sz.take j) (gd sz j) w _ (by rfl) (by rfl) (OY1.below (by repeat (first | exact Below.refl _ _ | refine Below.drew ?_ | refine Below.alloc ?_ (by first | exact Nat.le_refl _ | (simp; done) | (simp; omega)) _))) (by first | exact heap_alloc_new _ _ | exact (G1.block _ (by simp <;> omega) (FX.out 0)).trans (heap1' _ _ _) | exact (G1.block _ (by simp <;> omega) (FX.out _)).trans (heap2 _ _ _)) (by repeat (first | exact B1 | refine Below.drew ?_ | refine Below.alloc ?_ (by first | omega | (simp; omega)) _)) (by have := G1.size; simp at this ⊢; omega) hly ?_; intro v2 w2 O2 B2 G2 A2; have O1b := Oz.kept (O1.below (by repeat (first | exact Below.refl _ _ | refine Below.drew ?_ | refine Below.alloc ?_ (by first | exact Nat.le_refl _ | (simp; done) | (simp; omega)) _))) G2 (Ap.symm AP1); have AP2 := Ap.symm (Ap.next (Ap.symm AP1) (O1.below (by repeat (first | exact Below.refl _ _ | refine Below.drew ?_ | refine Below.alloc ?_ (by first | exact Nat.le_refl _ | (simp; done) | (simp; omega)) _))) A2)))
           all_goals
             (go_wp2
              go_roundw
              case rel => exact ⟨j + 1, by omega, by go_num, by rw [TX.out]; exact O1b, by rw [TY.out]; exact O2, AP2, B2⟩
              case measure => simp [intOf] <;> omega))
      · obtain rfl : j = M := by omega
        have hlx : ((pts (az.take j)).map vl).length = j := by rw [List.length_map, pts_len, List.length_take]; omega
        have hly : (sz.take j).length = j := by rw [List.length_take, ← HL.out]; omega
        have LX := Lib.hid hlx
        have hl1 : ((pts (az.take j)).map vl).length = (sz.take j).length := by omega
        have hl2 : ((pts (az.take j)).map vl).length ≤ 128 := by omega
        have ND := Lib.hid (show (((pts (az.take j)).map vl).map toF).Nodup by rw [map_toF_vl]; exact pts_nodup (fine_take FI.out j))
        have BS := Lib.hid (show B64 (sz.take j) from hb.take j)
        have hcase : (¬ j < az.length) ∨ (j < az.length ∧ ¬ j < k) := by omega
        clear hM3 hlx hly
        rcases hcase with hcase | ⟨hcase, hcase2⟩
        all_goals
          first
          | (exfalso; omega)
          | (go_wp2_with fail
             refine (rthrough_any ((pts (az.take j)).map vl) (sz.take j) _ _ _ OX.out.rd OY.out.rd (B64.vl _) BS.out hl1 hl2 ND.out).mono ?_
             rintro e w5 ⟨v5, rfl, O5, B5⟩
             rw [map_toF_vl, LX.out, show lagr (pts (az.take j)) ((sz.take j).map toF) j = thruK az sz j by unfold thruK; rfl, ← HT.out] at O5
             have O6 := Lib.hid (O5.mono hwsz)
             have B6 := Lib.hid (HB.out.trans (B5.mono hwsz))
             have hws6 := B6.out.size
             obtain ⟨a5, c5, rfl, hc5, hm5⟩ := O5.rd.shape
             rw [List.length_map] at hc5
             rw [List.length_map] at O6 ⊢
             clear O5 B5 HT OX OY AP hl1 hl2 ND BS LX HB
             go_wp2
             go_loopw [10] (fun i wr => DataRel T az sz w5 i wr) (fun i _ => az.length - (intOf i).toNat)
             case atStart => exact ⟨0, by omega, rfl, fun i hi => absurd hi (by omega), Below.refl _ _⟩
             case round =>
               obtain ⟨i, hi, rfl, hon, hbel⟩ := hrel
               have ON := Lib.hid hon
               have BO := Lib.hid hbel
               have B7 := Lib.hid (B6.out.trans (hbel.mono hws6))
               have O7 := Lib.hid (O6.out.below hbel)
               clear hon hbel
               by_cases hin : i < az.length
               · first
                 | (exfalso; omega)
                 | (have hcw := Hc.out i hin
                    have hfi := FI.out.1 _ (gd_mem az i hin)
                    have hwr2 := wrap_small (gd az i) (gd az i).toNat (by omega) (by omega)
                    have hbi := hb.get i
                    have hc1 : wr.cell? ⟨b, off + i * 2, none⟩ = some (.int .i64 (gd az i)) := (B7.out.cell (p := ⟨b, off + i * 2, none⟩) (World.block_lt_of_cell? _ _ hcw.1)).trans hcw.1
                    have hc2 : wr.cell? ⟨b, off + i * 2 + 1, none⟩ = some (.int .u64 (gd sz i)) := (B7.out.cell (p := ⟨b, off + i * 2 + 1, none⟩) (World.block_lt_of_cell? _ _ hcw.2)).trans hcw.2
                    clear hcw
                    have hpz : gd az i = ((gd az i).toNat : Int) := by omega
                    have HPZ := Lib.hid hpz
                    clear hpz
                    by_cases heq : evl T (pt (gd az i).toNat) = toF (gd sz i)
                    · have hb1 : (vl (evl T (pt (gd az i).toNat)) != vl (toF (gd sz i))) = false := by rw [heq]; simp
                      have ON2 := Lib.hid (show On T az sz (i + 1) from fun x hx => by rcases Nat.lt_succ_iff_lt_or_eq.1 hx with h | h; exact ON.out x h; rw [h]; exact heq)
                      clear heq
                      go_wp2
                      go_quiet ((first | (go_at_call 60; exact q_same (rroot_six _)) | (go_at_call 59; first | exact q_same (rpoint_pow (gd az i).toNat _ _ (by omega) HPZ.out) | exact q_same (rpoint_pow (gd az i).toNat _ _ (by omega) (by rw [hwr2]; exact HPZ.out))) | (go_at_call 22; exact q_same (reval_F _ _ _ (O7.out.drewN _))) | (go_at_call 44; exact q_same (rnorm_any _ _ hbi.1 hbi.2))))
                      go_wp2
                      go_roundw
                      case rel => exact ⟨i + 1, by omega, by go_num, ON2.out, below_drewN BO.out _⟩
                      case measure => simp [intOf] <;> omega
                    · have hb1 : (vl (evl T (pt (gd az i).toNat)) != vl (toF (gd sz i))) = true := by rw [bne_iff_ne]; exact fun e => heq (vl_inj e)
                      have NO := Lib.hid (show ¬ On T az sz az.length from fun h => heq (h i hin))
                      clear heq
                      go_wp2
                      go_quiet ((first | (go_at_call 60; exact q_same (rroot_six _)) | (go_at_call 59; first | exact q_same (rpoint_pow (gd az i).toNat _ _ (by omega) HPZ.out) | exact q_same (rpoint_pow (gd az i).toNat _ _ (by omega) (by rw [hwr2]; exact HPZ.out))) | (go_at_call 22; exact q_same (reval_F _ _ _ (O7.out.drewN _))) | (go_at_call 44; exact q_same (rnorm_any _ _ hbi.1 hbi.2))))
                      go_wp2
                      go_ret2
                      exact .inl ⟨NO.out, _, rfl, Ow.nil _ _, below_drewN B7.out _⟩)
               · obtain rfl : i = az.length := by omega
                 by_cases hfew : az.length < k
                 · go_wp2
                   go_ret2
                   exact .inr (.inl ⟨ON.out, hfew, _, rfl, Ow.nil _ _, B7.out⟩)
                 · have hge : k ≤ az.length := by omega
                   first
                   | (exfalso; omega)
                   | (have hTk : T.length ≤ k := Nat.le_trans TL.out hM2
                      have OS := Lib.hid (show Oz .u64 27 w.heap.size wr (.slice a5 T.length c5) (T.map vl ++ List.replicate 0 0) by rw [List.replicate_zero, List.append_nil]; exact O7.out.oz)
                      go_wp2
                      go_loopw [9] (fun p wr => PadRel w T k p wr) (fun p _ => match p with | .slice _ n _ => k - n | _ => 0)
                      case atStart => exact ⟨0, by omega, OS.out, B7.out⟩
                      case round =>
                        obtain ⟨m, hm1, ho, hb7⟩ := hrel
                        have OP := Lib.hid ho
                        have BP := Lib.hid hb7
                        have hwp := hb7.size
                        obtain ⟨a8, c8, rfl, hc8, hm8, _⟩ := ho.shape
                        have hpl : (T.map vl ++ List.replicate m 0).length = T.length + m := by rw [List.length_append, List.length_map, List.length_replicate]
                        rw [hpl] at OP hc8 ⊢
                        have PL := Lib.hid hpl
                        clear ho hb7 hpl
                        by_cases hmk : T.length + m < k
                        · go_wp2_with (first | (refine wl_app_u64 _ rfl (.tmp 75) (.tmp 76) rfl w.heap.size _ (T.map vl ++ List.replicate m 0) 0 w rfl rfl OP.out BP.out hwp (by rw [PL.out]; omega) ?_; intro v9 w9 O9 B9) | go_in)
                          obtain ⟨a9, c9, rfl, hc9, hm9, _⟩ := O9.shape
                          go_wp2
                          go_roundw
                          case rel => exact ⟨m + 1, by omega, by rw [List.replicate_succ', ← List.append_assoc]; exact O9, B9⟩
                          case measure => simp [List.length_append] <;> omega
                        · have hke : k = T.length + m := by omega
                          go_wp2
                          go_ret2
                          refine .inr (.inr ⟨ON.out, hge, _, rfl, ?_, BP.out⟩)
                          refine Oz.ow ?_
                          have e : (padF T k).map vl = T.map vl ++ List.replicate m 0 := by
                            unfold padF
                            rw [List.map_append, List.drop_replicate, List.map_replicate, vl_zero, hke, Nat.add_sub_cancel_left]
                          rw [e]
                          exact OP.out))
end Go.Proofs.Ytjljndnpefdifaa.Gm
