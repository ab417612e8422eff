/- The walks of the reference's Points and Through. -/
import Derived.Test.YtjljndnpefdifaaRr
import Derived.Test.YtjljndnpefdifaaPt
import Derived.Deep.RegionHeld3
namespace Go.Proofs.Ytjljndnpefdifaa.Gm
open Go.RowKit
theorem points_bad (zs ys : List Int) (v v2 : Value) (w : World) (h : Rd .u64 w v zs) (h2 : Rd .u64 w v2 ys) (hb : zs.length ≠ ys.length ∨ 128 < zs.length) :
    Calls Try.prog 11 #[v, v2] w (RetV w (.bool false)) := by
  obtain ⟨a, cap, rfl, hcap, hm⟩ := h.shape
  obtain ⟨a2, cap2, rfl, hcap2, hm2⟩ := h2.shape
  clear h h2
  by_cases hne : zs.length = ys.length
  · have hlt : 128 < zs.length := by rcases hb with hb | hb; exact absurd hne hb; exact hb
    have hd : ((zs.length : Int) != (ys.length : Int)) = false := by rw [hne]; simp
    have hd' : (zs.length != ys.length) = false := by rw [hne]; simp
    clear hb hne
    go_enter Try.func11, Try.ntmps11
    go_wp2
    go_ret
    exact ⟨rfl, Below.refl _ _⟩
  · have hd : ((zs.length : Int) != (ys.length : Int)) = true := by rw [bne_iff_ne]; omega
    have hd' : (zs.length != ys.length) = true := by rw [bne_iff_ne]; exact hne
    clear hb hne
    go_enter Try.func11, Try.ntmps11
    go_wp2
    go_ret
    exact ⟨rfl, Below.refl _ _⟩
def RetPts (w : World) (fx : List F) (e : Ending) (w' : World) : Prop :=
  ((fx.Nodup ∧ e = .returned (.bool true)) ∨ (¬ fx.Nodup ∧ e = .returned (.bool false))) ∧ Below w.heap.size w w'
def PtsRel (w : World) (fx : List F) (n : Nat) (i : Value) (wr : World) : Prop :=
  ∃ k : Nat, k ≤ n ∧ i = .int .i64 k ∧ (fx.take k).Nodup ∧ Below w.heap.size w wr
def PtsIn (w : World) (fx : List F) (k : Nat) (j : Value) (wr : World) : Prop :=
  ∃ m : Nat, m ≤ k ∧ j = .int .i64 m ∧ cf fx k ∉ fx.take m ∧ Below w.heap.size w wr
theorem mem_take_succ (fx : List F) (m : Nat) (h : m < fx.length) (x : F) : x ∈ fx.take (m+1) ↔ x ∈ fx.take m ∨ x = cf fx m := by
  rw [take_snoc_F fx m h]; simp
theorem take_mono_mem (fx : List F) {m k : Nat} (h : m ≤ k) {x : F} (hx : x ∈ fx.take m) : x ∈ fx.take k := by
  have : fx.take m = (fx.take k).take m := by rw [List.take_take, Nat.min_eq_left h]
  rw [this] at hx; exact List.mem_of_mem_take hx
set_option maxHeartbeats 2000000 in
theorem points_any (zs ys : List Int) (v v2 : Value) (w : World) (h : Rd .u64 w v zs) (h2 : Rd .u64 w v2 ys) (hz : B64 zs) (hle : zs.length = ys.length) (hl : zs.length ≤ 128) :
    Calls Try.prog 11 #[v, v2] w (RetPts w (zs.map toF)) := by
  obtain ⟨a, cap, b, off, rfl, hcap, hm, hx, hc⟩ := h.opened
  obtain ⟨a2, cap2, rfl, hcap2, hm2⟩ := h2.shape
  have hle1 : zs.length ≤ ys.length := by omega
  have hle2 : ys.length ≤ zs.length := by omega
  have hd : ((zs.length : Int) != (ys.length : Int)) = false := by rw [hle]; simp
  have hd' : (zs.length != ys.length) = false := by rw [hle]; simp
  obtain ⟨fx, hfx⟩ : ∃ fx, fx = zs.map toF := ⟨_, rfl⟩
  have Lx := Lib.hid (show fx.length = zs.length by rw [hfx, List.length_map])
  have Gx := Lib.hid (show ∀ i, cf fx i = toF (gd zs i) from fun i => by rw [hfx, cf_map])
  rw [← hfx]
  have Hc := Lib.hid hc
  clear hfx hc h h2 hle
  rcases hx with hx | rfl
  all_goals
    go_enter Try.func11, Try.ntmps11
    go_wp2
    go_loopw [5, 6] (fun i _ wr => PtsRel w fx zs.length i wr) (fun i _ _ => zs.length - (intOf i).toNat)
    case atStart => exact ⟨0, by omega, rfl, by simp, Below.refl _ _⟩
    case round =>
      obtain ⟨k, hk, rfl, hnd, hbel⟩ := hrel
      have ND := Lib.hid hnd
      have HB := Lib.hid hbel
      clear hnd hbel
      obtain ⟨wo, hwo⟩ : ∃ wo : World, wo = wr := ⟨_, rfl⟩
      subst hwo
      by_cases hkn : k < zs.length
      · first
        | (exfalso; omega)
        | (go_wp2
           go_loopw [6] (fun j wr => PtsIn w fx k j wr) (fun j _ => k - (intOf j).toNat)
           case atStart => exact ⟨0, by omega, rfl, by simp, HB.out⟩
           case round =>
             obtain ⟨m, hm1, rfl, hnm, hbel⟩ := hrel
             have NM := Lib.hid hnm
             have HB2 := Lib.hid hbel
             by_cases hmk : m < k
             · have hcw := Hc.out k hkn
               have hck : wr.cell? ⟨b, off + k, none⟩ = some (.int .u64 (gd zs k)) := (hbel.cell (p := ⟨b, off + k, none⟩) (World.block_lt_of_cell? _ _ hcw)).trans hcw
               have hcw2 := Hc.out m (by omega)
               have hcm : wr.cell? ⟨b, off + m, none⟩ = some (.int .u64 (gd zs m)) := (hbel.cell (p := ⟨b, off + m, none⟩) (World.block_lt_of_cell? _ _ hcw2)).trans hcw2
               have hbk := hz.get k
               have hbm := hz.get m
               have GK := Lib.hid (Gx.out k)
               have GM := Lib.hid (Gx.out m)
               clear hcw hcw2 hbel hnm
               by_cases heq : toF (gd zs k) = toF (gd zs m)
               · have hb1 : (vl (toF (gd zs k)) == vl (toF (gd zs m))) = true := by rw [heq]; simp
                 have NN := Lib.hid (not_nodup_of fx k (by rw [Lx.out]; omega) (take_mono_mem fx (m := m + 1) (by omega) ((mem_take_succ fx m (by rw [Lx.out]; omega) _).2 (.inr (by rw [GK.out, GM.out, heq])))))
                 clear heq
                 go_wp2
                 go_quiet ((first | (go_at_call 44; first | exact q_same (rnorm_any _ _ hbk.1 hbk.2) | exact q_same (rnorm_any _ _ hbm.1 hbm.2))))
                 go_wp2
                 go_ret
                 exact ⟨.inr ⟨NN.out, rfl⟩, below_drewN HB2.out _⟩
               · have hb1 : (vl (toF (gd zs k)) == vl (toF (gd zs m))) = false := by rw [beq_eq_false_iff_ne]; exact fun e => heq (vl_inj e)
                 have NM2 := Lib.hid (show cf fx k ∉ fx.take (m+1) by rw [mem_take_succ fx m (by rw [Lx.out]; omega)]; intro e; rcases e with e | e; exact NM.out e; exact heq (by rw [← GK.out, ← GM.out]; exact e))
                 clear heq
                 go_wp2
                 go_quiet ((first | (go_at_call 44; first | exact q_same (rnorm_any _ _ hbk.1 hbk.2) | exact q_same (rnorm_any _ _ hbm.1 hbm.2))))
                 go_wp2
                 go_roundw
                 case rel => exact ⟨m + 1, by omega, by go_num, NM2.out, below_drewN HB2.out _⟩
                 case measure => simp [intOf] <;> omega
             · obtain rfl : m = k := by omega
               have ND2 := Lib.hid (nodup_take_succ fx m (by rw [Lx.out]; omega) ND.out NM.out)
               clear hnm hbel
               go_wp2
               go_roundw
               case rel => exact ⟨m + 1, by omega, by go_num, ND2.out, HB2.out⟩
               case measure => simp [intOf] <;> omega)
      · have hnx : fx.Nodup := by
          have := ND.out
          rwa [List.take_of_length_le (by rw [Lx.out]; omega)] at this
        have NX := Lib.hid hnx
        clear hnx
        go_wp2
        go_ret
        exact ⟨.inl ⟨NX.out, rfl⟩, HB.out⟩
end Go.Proofs.Ytjljndnpefdifaa.Gm
