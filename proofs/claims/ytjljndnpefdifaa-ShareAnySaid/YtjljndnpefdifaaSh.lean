/- The reference's Shares. -/
import Derived.Test.YtjljndnpefdifaaSc
namespace Go.Proofs.Ytjljndnpefdifaa.Gm
open Go.RowKit
theorem shares_k (k : Int) (v : Value) (w : World) (hk : k < 1 ∨ 64 < k) :
    Calls Try.prog 36 #[.int .i64 k, v] w (RetV w (.int .i64 1)) := by
  go_enter Try.func36, Try.ntmps36
  go_wp2_with fail
  refine (in_no k 1 64 _ hk).mono ?_
  rintro e w' ⟨rfl, rfl⟩
  go_wp2
  go_ret
  exact ⟨rfl, Below.refl _ _⟩
def ShRel (w : World) (az : List Int) (n : Nat) (i : Value) (wr : World) : Prop :=
  ∃ k : Nat, k ≤ n ∧ i = .int .i64 k ∧ Fine (az.take k) ∧ Below w.heap.size w wr
def ShIn (w : World) (az : List Int) (k : Nat) (j : Value) (wr : World) : Prop :=
  ∃ m : Nat, m ≤ k ∧ j = .int .i64 m ∧ gd az k ∉ az.take m ∧ Below w.heap.size w wr
theorem mem_take_succ_Z (l : List Int) (m : Nat) (h : m < l.length) (x : Int) : x ∈ l.take (m+1) ↔ x ∈ l.take m ∨ x = gd l m := by
  rw [take_snoc_Z l m h]; simp
theorem take_mono_Z (l : List Int) {m k : Nat} (h : m ≤ k) {x : Int} (hx : x ∈ l.take m) : x ∈ l.take k := by
  have : l.take m = (l.take k).take m := by rw [List.take_take, Nat.min_eq_left h]
  rw [this] at hx; exact List.mem_of_mem_take hx
set_option maxHeartbeats 2000000 in
theorem shares_any (k : Int) (az sz : List Int) (v : Value) (w : World) (h : Rs w v az sz) (_hwf : W63 az) (hk1 : 1 ≤ k) (hk2 : k ≤ 64) :
    Calls Try.prog 36 #[.int .i64 k, v] w (RetChk w az) := by
  obtain ⟨hlen, a, cap, b, off, rfl, hcap, hm, hx, hc⟩ := h
  have Hc := Lib.hid hc
  clear hc hlen
  rcases hx with hx | rfl
  all_goals
    go_enter Try.func36, Try.ntmps36
    go_wp2_with fail
    refine (in_yes k 1 64 _ hk1 hk2).mono ?_
    rintro e w' ⟨rfl, rfl⟩
    go_wp2
    go_loopw [5, 6] (fun i _ wr => ShRel w az az.length i wr) (fun i _ _ => az.length - (intOf i).toNat)
    case atStart => exact ⟨0, by omega, rfl, by rw [List.take_zero]; exact fine_nil, Below.refl _ _⟩
    case round =>
      obtain ⟨j, hj, rfl, hfine, hbel⟩ := hrel
      have FI := Lib.hid hfine
      have HB := Lib.hid hbel
      have hwsz := hbel.size
      clear hfine hbel
      obtain ⟨wo, hwo⟩ : ∃ wo : World, wo = wr := ⟨_, rfl⟩
      subst hwo
      by_cases hjn : j < az.length
      · first
        | (exfalso; omega)
        | (have hcw := (Hc.out j hjn).1
           have hc1 : wo.cell? ⟨b, off + j * 2, none⟩ = some (.int .i64 (gd az j)) := (HB.out.cell (p := ⟨b, off + j * 2, none⟩) (World.block_lt_of_cell? _ _ hcw)).trans hcw
           by_cases hin : 0 ≤ gd az j ∧ gd az j ≤ 63
           · go_wp2_with fail
             refine (in_yes (gd az j) 0 63 _ hin.1 hin.2).mono ?_
             rintro e w' ⟨rfl, rfl⟩
             clear hc1
             go_wp2
             go_loopw [6] (fun i wr => ShIn w az j i wr) (fun i _ => j - (intOf i).toNat)
             case atStart => exact ⟨0, by omega, rfl, by simp, HB.out⟩
             case round =>
               obtain ⟨m, hm1, rfl, hnm, hbel⟩ := hrel
               have NM := Lib.hid hnm
               have HB2 := Lib.hid hbel
               by_cases hmj : m < j
               · have hcw2 := (Hc.out m (by omega)).1
                 have hcj : wr.cell? ⟨b, off + j * 2, none⟩ = some (.int .i64 (gd az j)) := (hbel.cell (p := ⟨b, off + j * 2, none⟩) (World.block_lt_of_cell? _ _ hcw)).trans hcw
                 have hcm : wr.cell? ⟨b, off + m * 2, none⟩ = some (.int .i64 (gd az m)) := (hbel.cell (p := ⟨b, off + m * 2, none⟩) (World.block_lt_of_cell? _ _ hcw2)).trans hcw2
                 clear hcw hcw2 hbel hnm
                 by_cases heq : gd az m = gd az j
                 · have NF := Lib.hid (not_fine_twice hjn (take_mono_Z az (m := m + 1) (by omega) ((mem_take_succ_Z az m (by omega) _).2 (.inr heq.symm))))
                   have hb1 : (gd az m == gd az j) = true := by rw [heq]; simp
                   clear heq
                   go_wp2
                   go_region
                   go_wp2
                   go_ret
                   exact ⟨.inr ⟨NF.out, rfl⟩, below_drewN HB2.out _⟩
                 · have NM2 := Lib.hid (show gd az j ∉ az.take (m+1) by rw [mem_take_succ_Z az m (by omega)]; intro e; rcases e with e | e; exact NM.out e; exact heq e.symm)
                   have hb1 : (gd az m == gd az j) = false := by rw [beq_eq_false_iff_ne]; exact heq
                   clear heq
                   go_wp2
                   go_region
                   go_wp2
                   go_roundw
                   case rel => exact ⟨m + 1, by omega, by go_num, NM2.out, below_drewN HB2.out _⟩
                   case measure => simp [intOf] <;> omega
               · obtain rfl : m = j := by omega
                 have ST := Lib.hid (take_snoc_Z az m hjn)
                 have FS := Lib.hid (fine_snoc FI.out hin.1 (show gd az m < 64 by omega) NM.out)
                 clear hnm hbel
                 go_wp2
                 go_roundw
                 case rel => exact ⟨m + 1, by omega, by go_num, by rw [ST.out]; exact FS.out, HB2.out⟩
                 case measure => simp [intOf] <;> omega
           · have NF := Lib.hid (not_fine_low hjn (show gd az j < 0 ∨ 64 ≤ gd az j by omega))
             go_wp2_with fail
             refine (in_no (gd az j) 0 63 _ (by omega)).mono ?_
             rintro e w' ⟨rfl, rfl⟩
             clear hc1
             go_wp2
             go_ret
             exact ⟨.inr ⟨NF.out, rfl⟩, HB.out⟩)
      · obtain rfl : j = az.length := by omega
        have FF := Lib.hid (show Fine az by have := FI.out; rwa [List.take_length] at this)
        go_wp2
        go_ret
        exact ⟨.inl ⟨FF.out, rfl⟩, HB.out⟩
end Go.Proofs.Ytjljndnpefdifaa.Gm
