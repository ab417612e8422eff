/- The walk of the reference's Through: Lagrange. -/
import Derived.Test.YtjljndnpefdifaaRq
import Derived.Test.YtjljndnpefdifaaRt
namespace Go.Proofs.Ytjljndnpefdifaa.Gm
open Go.RowKit
def LagRel (w : World) (fx fy : List F) (n : Nat) (out i : Value) (wr : World) : Prop :=
  ∃ k : Nat, k ≤ n ∧ i = .int .i64 k ∧ Ow w.heap.size wr out (lagr fx fy k) ∧ Below w.heap.size w wr
def LagIn (w : World) (fx : List F) (n k : Nat) (one under j : Value) (wo wr : World) : Prop :=
  ∃ m : Nat, m ≤ n ∧ j = .int .i64 m ∧ Ow w.heap.size wr one (lbase fx k m) ∧ under = .int .u64 (vl (lunder fx k m)) ∧ Below w.heap.size w wr ∧ Below wo.heap.size wo wr
theorem rsub_0x (x : Int) (w : World) (hx0 : 0 ≤ x) (hx1 : x < 18446744073709551616) :
    Calls Try.prog 46 #[.int .u64 0, .int .u64 x] w fun e w' => e = .returned (.int .u64 (vl (0 - toF x))) ∧ w = w' := by
  have h := rsub_any 0 x w (by omega) (by omega) hx0 hx1
  rwa [toF_zero] at h
theorem rinv_F (x : F) (w : World) (h : x ≠ 0) :
    Calls Try.prog 49 #[.int .u64 (vl x)] w fun e w' => e = .returned (.int .u64 (vl (inv x))) ∧ w = w' := by
  have h1 := rinv_any (vl x) w (vl_lo x) (vl_64 x) (by rw [toF_vl]; exact h)
  rwa [toF_vl] at h1
set_option maxHeartbeats 4000000 in
set_option maxRecDepth 100000 in
theorem rthrough_any (zs ys : List Int) (v v2 : Value) (w : World) (h : Rd .u64 w v zs) (h2 : Rd .u64 w v2 ys) (hz : B64 zs) (hy : B64 ys) (hle : zs.length = ys.length) (hl : zs.length ≤ 128) (hnd : (zs.map toF).Nodup) :
    Calls Try.prog 13 #[v, v2] w (RetL w (lagr (zs.map toF) (ys.map toF) zs.length)) := by
  obtain ⟨a, cap, b, off, rfl, hcap, hm, hx, hc⟩ := h.opened
  obtain ⟨a2, cap2, b2, off2, rfl, hcap2, hm2, hx2, hc2⟩ := h2.opened
  have hl2 : ys.length ≤ 128 := by omega
  have hle1 : zs.length ≤ ys.length := by omega
  have hle2 : ys.length ≤ zs.length := by omega
  obtain ⟨fx, hfx⟩ : ∃ fx, fx = zs.map toF := ⟨_, rfl⟩
  obtain ⟨fy, hfy⟩ : ∃ fy, fy = ys.map toF := ⟨_, rfl⟩
  have Lx := Lib.hid (show fx.length = zs.length by rw [hfx, List.length_map])
  have Ly := Lib.hid (show fy.length = ys.length by rw [hfy, List.length_map])
  have Gx := Lib.hid (show ∀ i, cf fx i = toF (gd zs i) from fun i => by rw [hfx, cf_map])
  have Gy := Lib.hid (show ∀ i, cf fy i = toF (gd ys i) from fun i => by rw [hfy, cf_map])
  rw [← hfx, ← hfy]
  rw [← hfx] at hnd
  have ND := Lib.hid hnd
  have Hc := Lib.hid hc
  have Hc2 := Lib.hid hc2
  clear hfx hfy hc hc2 h h2 hle hnd
  rcases hx with hx | rfl <;> rcases hx2 with hx2 | rfl
  rotate_left
  rotate_left
  rotate_left
  all_goals
    first
    | (exfalso; omega)
    | (go_enter Try.func13, Try.ntmps13
       go_wp2
       go_loopw [5, 6, 7, 8, 9] (fun out i _ _ _ wr => LagRel w fx fy zs.length out i wr) (fun _ i _ _ _ _ => zs.length - (intOf i).toNat)
       case atStart => exact ⟨0, by omega, rfl, Ow.nil _ _, Below.refl _ _⟩
       case round =>
         obtain ⟨k, hk, rfl, hout, hbel⟩ := hrel
         have OO := Lib.hid hout
         have HB := Lib.hid hbel
         have hwsz := hbel.size
         clear hout hbel
         obtain ⟨wo, hwo⟩ : ∃ wo : World, wo = wr := ⟨_, rfl⟩
         subst hwo
         by_cases hkn : k < zs.length
         · first
           | (exfalso; omega)
           | (have hone := Ow.lit1 wo 1
              rw [vl_one] at hone
              have O1 := Lib.hid (hone.mono hwsz)
              have B1 := Lib.hid (HB.out.alloc hwsz (.cells #[.int .u64 1] 27))
              clear hone
              go_wp2
              go_loopw [7, 8, 9] (fun one under j wr => LagIn w fx zs.length k one under j wo wr) (fun _ _ j _ => zs.length - (intOf j).toNat)
              case atStart => exact ⟨0, by omega, rfl, O1.out, by show _ = Value.int .u64 (vl 1); rw [vl_one], B1.out, (Below.refl _ _).alloc (Nat.le_refl _) _⟩
              case round =>
                obtain ⟨m, hm1, rfl, hone, rfl, hbel, hbo⟩ := hrel
                have O2 := Lib.hid hone
                have B2 := Lib.hid hbel
                have BO := Lib.hid hbo
                have hwsz2 := hbel.size
                by_cases hmn : m < zs.length
                · have hcw := Hc.out k hkn
                  have hcw2 := Hc.out m hmn
                  have hbk := hz.get k
                  have hbm := hz.get m
                  have GK := Lib.hid (Gx.out k)
                  have GM := Lib.hid (Gx.out m)
                  have CK := Lib.hid hcw
                  by_cases hmk : m = k
                  · have hd1 : ((m : Int) != (k : Int)) = false := by rw [hmk]; simp
                    have hd2 : (m != k) = false := by rw [hmk]; simp
                    have E1 := Lib.hid (show lbase fx k (m+1) = lbase fx k m by show (if m = k then _ else _) = _; rw [if_pos hmk])
                    have E2 := Lib.hid (show lunder fx k (m+1) = lunder fx k m by show (if m = k then _ else _) = _; rw [if_pos hmk])
                    clear hmk hcw hcw2 hone hbel hbo
                    go_wp2
                    go_roundw
                    case rel => exact ⟨m + 1, by omega, by go_num, by rw [E1.out]; exact O2.out, by rw [E2.out], B2.out, BO.out⟩
                    case measure => simp [intOf] <;> omega
                  · have hd1 : ((m : Int) != (k : Int)) = true := by rw [bne_iff_ne]; omega
                    have hd2 : (m != k) = true := by rw [bne_iff_ne]; exact hmk
                    have E1 := Lib.hid (show lbase fx k (m+1) = mulL (lbase fx k m) [0 - cf fx m, 1] by show (if m = k then _ else _) = _; rw [if_neg hmk])
                    have E2 := Lib.hid (show lunder fx k (m+1) = lunder fx k m * (cf fx k - cf fx m) by show (if m = k then _ else _) = _; rw [if_neg hmk])
                    have hbl : ((lbase fx k m).map vl).length ≤ 100000 := by rw [List.length_map, lbase_len]; split <;> omega
                    have hcm : wr.cell? ⟨b, off + m, none⟩ = some (.int .u64 (gd zs m)) := (hbel.cell (p := ⟨b, off + m, none⟩) (World.block_lt_of_cell? _ _ hcw2)).trans hcw2
                    have CM := Lib.hid hcw2
                    have lc2 : ([0 - cf fx m, 1].map vl).length ≤ 100000 := by simp
                    clear hmk hcw hcw2 hone hbel hbo
                    go_wp2_with fail
                    refine (rsub_0x (gd zs m) _ hbm.1 hbm.2).mono ?_
                    rintro e w' ⟨rfl, rfl⟩
                    rw [← GM.out]
                    clear hcm
                    go_wp2_with fail
                    refine (rproduct_any ((lbase fx k m).map vl) ([0 - cf fx m, 1].map vl) _ _ _ (O2.out.rd.alloc _) (Rd.lit2 wr (0 - cf fx m)) (B64.vl _) (B64.vl _) hbl lc2).mono ?_
                    rintro e w3 ⟨v3, rfl, hown3, hbel3⟩
                    rw [map_toF_vl, map_toF_vl] at hown3
                    have hB3 : Below wr.heap.size wr w3 := ((Below.refl wr.heap.size wr).alloc (Nat.le_refl _) (.cells #[.int .u64 (vl (0 - cf fx m)), .int .u64 1] 27)).trans (hbel3.mono (B' := wr.heap.size) (by simp))
                    have O3 := Lib.hid (hown3.mono (B' := w.heap.size) (by simp; omega))
                    have B3 := Lib.hid (B2.out.trans (hB3.mono hwsz2))
                    have BO3 := Lib.hid (BO.out.trans (hB3.mono BO.out.size))
                    have hck3 : w3.cell? ⟨b, off + k, none⟩ = some (.int .u64 (gd zs k)) := (B3.out.cell (p := ⟨b, off + k, none⟩) (World.block_lt_of_cell? _ _ CK.out)).trans CK.out
                    have hcm3 : w3.cell? ⟨b, off + m, none⟩ = some (.int .u64 (gd zs m)) := (B3.out.cell (p := ⟨b, off + m, none⟩) (World.block_lt_of_cell? _ _ CM.out)).trans CM.out
                    clear hown3 hbel3 hB3 O2
                    go_wp2
                    go_quiet ((first | (go_at_call 46; exact q_same (rsub_any _ _ _ hbk.1 hbk.2 hbm.1 hbm.2)) | (go_at_call 47; exact q_same (rmul_F _ _ _))))
                    go_wp2
                    go_roundw
                    case rel => exact ⟨m + 1, by omega, by go_num, by rw [E1.out]; exact O3.out.drewN _, by rw [E2.out, GK.out, GM.out], below_drewN B3.out _, below_drewN BO3.out _⟩
                    case measure => simp [intOf] <;> omega
                · obtain rfl : m = zs.length := by omega
                  have hcw := Hc2.out k (by omega)
                  have hcy : wr.cell? ⟨b2, off2 + k, none⟩ = some (.int .u64 (gd ys k)) := (hbel.cell (p := ⟨b2, off2 + k, none⟩) (World.block_lt_of_cell? _ _ hcw)).trans hcw
                  have hby := hy.get k
                  clear hcw hone hbel hbo
                  have hun := lunder_ne ND.out (i := k) (by rw [Lx.out]; omega) zs.length (by rw [Lx.out]; omega)
                  have HUN := Lib.hid hun
                  have hbl : ((lbase fx k zs.length).map vl).length ≤ 100000 := by rw [List.length_map, lbase_len]; split <;> omega
                  have hll : ((lagr fx fy k).map vl).length ≤ 100000 := by rw [List.length_map]; have := lagr_len fx fy k (by rw [Lx.out]; omega); rw [Lx.out] at this; omega
                  have GY := Lib.hid (Gy.out k)
                  have hk1 : (0 : Int) ≤ (k : Int) := by omega
                  have hk2 : (k : Int) < (ys.length : Int) := by omega
                  have lc1 : ([toF (gd ys k) * inv (lunder fx k zs.length)].map vl).length ≤ 100000 := by simp
                  have hml : ((mulL (lbase fx k zs.length) [toF (gd ys k) * inv (lunder fx k zs.length)]).map vl).length ≤ 100000 := by
                    rw [List.length_map]; have h5 := mulL_le (lbase fx k zs.length) [toF (gd ys k) * inv (lunder fx k zs.length)]; rw [lbase_len] at h5; simp only [List.length_singleton] at h5; split at h5 <;> omega
                  have hszd : wr.heap.size ≤ (wr.alloc (.cells #[.int .u64 (vl (toF (gd ys k) * inv (lunder fx k zs.length)))] 27)).drew.heap.size := by simp
                  have hblt : b2 < wr.heap.size := World.block_lt_of_cell? _ _ hcy
                  have OOw := Lib.hid (OO.out.below BO.out)
                  clear hun
                  go_wp2
                  go_region_held3 (fun w' => w'.cell? ⟨b2, off2 + k, none⟩ = some (.int .u64 (gd ys k))) (go_keep) (first | (go_at_call 49; refine (rinv_F _ _ HUN.out).mono ?_; rintro e w' ⟨rfl, rfl⟩) | (go_at_call 47; refine (rmul_xF _ _ _ hby.1 hby.2).mono ?_; rintro e w' ⟨rfl, rfl⟩) | (go_at_call 45; refine (rproduct_any ((lbase fx k zs.length).map vl) ([toF (gd ys k) * inv (lunder fx k zs.length)].map vl) _ _ _ (Rd.drew (O2.out.rd.alloc _)) (Rd.drew (Rd.lit1 wr _)) (B64.vl _) (B64.vl _) hbl lc1).mono ?_; rintro e w3 ⟨v3, rfl, hown3, hbel3⟩; rw [map_toF_vl, map_toF_vl] at hown3; have hB3 : Below wr.heap.size wr w3 := (((Below.refl wr.heap.size wr).alloc (Nat.le_refl _) _).drew).trans (hbel3.mono hszd); have hcy3 : w3.cell? ⟨b2, off2 + k, none⟩ = some (.int .u64 (gd ys k)) := (hB3.cell (p := ⟨b2, off2 + k, none⟩) hblt).trans hcy; have O3 := Lib.hid hown3; have B3 := Lib.hid hB3; clear hown3 hB3 hbel3) | (go_at_call 48; refine (rsum_any ((lagr fx fy k).map vl) ((mulL (lbase fx k zs.length) [toF (gd ys k) * inv (lunder fx k zs.length)]).map vl) _ _ _ (OOw.out.below B3.out).rd O3.out.rd (B64.vl _) (B64.vl _) hll hml).mono ?_; rintro e w4 ⟨v4, rfl, hown4, hbel4⟩; rw [map_toF_vl, map_toF_vl] at hown4; have O4 := Lib.hid (hown4.mono (Nat.le_trans hwsz2 B3.out.size)); have B4 := Lib.hid ((B2.out.trans (B3.out.mono hwsz2)).trans (hbel4.mono (Nat.le_trans hwsz2 B3.out.size))); have hcy4 : w4.cell? ⟨b2, off2 + k, none⟩ = some (.int .u64 (gd ys k)) := (hbel4.cell (p := ⟨b2, off2 + k, none⟩) (Nat.lt_of_lt_of_le hblt B3.out.size)).trans hcy3; clear hown4 hbel4))
                  have ST := Lib.hid (show lagr fx fy (k+1) = strip (addL (lagr fx fy k) (mulL (lbase fx k zs.length) [toF (gd ys k) * inv (lunder fx k zs.length)])) by show strip (addL (lagr fx fy k) (mulL (lbase fx k fx.length) [cf fy k * inv (lunder fx k fx.length)])) = _; rw [Lx.out, GY.out])
                  go_wp2
                  go_roundw
                  case rel =>
                    refine ⟨k + 1, by omega, by go_num, ?_, ?_⟩
                    · rw [ST.out]; first | exact O4.out | exact O4.out.drewN 1
                    · first | exact B4.out | exact B4.out.drew
                  case measure => simp [intOf] <;> omega)
         · obtain rfl : k = zs.length := by omega
           go_wp2
           go_ret
           exact ⟨_, rfl, OO.out, HB.out⟩)
end Go.Proofs.Ytjljndnpefdifaa.Gm
