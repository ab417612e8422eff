/- share.through. -/
import Derived.Test.YtjljndnpefdifaaSh
import Derived.Deep.RegionHeld3
import Derived.Deep.AppendLies
namespace Go.Proofs.Ytjljndnpefdifaa.Gm
open Go.RowKit
open Go.Maps
theorem heap2 (w : World) (o p : Obj) : ((w.alloc o).alloc p).heap[w.heap.size + 1]? = some p := by
  have h := heap_alloc_new (w.alloc o) p
  rwa [show (w.alloc o).heap.size = w.heap.size + 1 by simp] at h
theorem heap2' (w : World) (o p q : Obj) : (((w.alloc o).alloc p).alloc q).heap[w.heap.size + 1]? = some p := by
  rw [Below.heap_alloc _ _ _ (by simp)]; exact heap2 w o p
theorem heap3 (w : World) (o p q : Obj) : (((w.alloc o).alloc p).alloc q).heap[w.heap.size + 2]? = some q := by
  have h := heap2 (w.alloc o) p q
  rwa [show (w.alloc o).heap.size = w.heap.size + 1 by simp] at h
/-- the points of places -/
def pts (az : List Int) : List F := az.map fun a => pt a.toNat
theorem pt_step {i j : Nat} (h : pt i = pt (i + j)) (hj : j < 64) : j = 0 := by
  rw [pt_eq, pt_eq, Lean.Grind.Semiring.pow_add] at h
  have h1 : root 6 ^ i * (root 6 ^ j - 1) = 0 := by grind
  have hp : root 6 ^ i ≠ 0 := by
    clear h h1
    induction i with
    | zero => rw [Lean.Grind.Semiring.pow_zero]; exact fun e => two_ne (by rw [e]; grind)
    | succ n ih => rw [Lean.Grind.Semiring.pow_succ]; intro e; rcases no_zero _ _ e with e | e; exact ih e; exact root_ne 6 e
  have h2 : root 6 ^ j = 1 := by
    rcases no_zero _ _ h1 with e | e
    · exact absurd e hp
    · grind
  have h3 := rt_order (rt_root 6 (by omega)) h2
  obtain ⟨c, hc⟩ := h3
  omega
theorem pt_inj {i j : Nat} (h : pt i = pt j) (hi : i < 64) (hj : j < 64) : i = j := by
  rcases Nat.le_total i j with hle | hle
  · obtain ⟨c, rfl⟩ := Nat.exists_eq_add_of_le hle
    have := pt_step h (by omega)
    omega
  · obtain ⟨c, rfl⟩ := Nat.exists_eq_add_of_le hle
    have := pt_step h.symm (by omega)
    omega
theorem pts_nodup {az : List Int} (h : Fine az) : (pts az).Nodup := by
  unfold pts
  obtain ⟨h1, h2⟩ := h
  induction az with
  | nil => simp
  | cons a l ih =>
    rw [List.nodup_cons] at h2
    rw [List.map_cons, List.nodup_cons]
    refine ⟨?_, ih (fun x hx => h1 x (List.mem_cons_of_mem _ hx)) h2.2⟩
    intro hm
    obtain ⟨x, hx, e⟩ := List.mem_map.1 hm
    have ha := h1 a (by simp)
    have hx1 := h1 x (List.mem_cons_of_mem _ hx)
    have := pt_inj e (by omega) (by omega)
    exact h2.1 (by rwa [show a = x by omega])
theorem pts_len (az : List Int) : (pts az).length = az.length := by simp [pts]
theorem pts_snoc (l : List Int) (a : Int) : pts (l ++ [a]) = pts l ++ [pt a.toNat] := by simp [pts]
def ThrLoop (w : World) (az sz : List Int) (n : Nat) (xs ys i : Value) (wr : World) : Prop :=
  ∃ k : Nat, k ≤ n ∧ i = .int .i64 k ∧ Oz .u64 27 w.heap.size wr xs ((pts (az.take k)).map vl) ∧ Oz .u64 27 w.heap.size wr ys (sz.take k) ∧ Ap xs ys ∧ Below w.heap.size w wr
set_option maxHeartbeats 2000000 in
theorem sthrough_any (az sz : List Int) (v : Value) (w : World) (h : Rs w v az sz) (hb : B64 sz) (hf : Fine az) (hl : az.length ≤ 128) :
    Calls Try.prog 62 #[v] w (RetL w (newton (((pts az).zip (sz.map toF)).reverse)).2) := by
  obtain ⟨hlen, a, cap, b, off, rfl, hcap, hm, hx, hc⟩ := h
  have Hc := Lib.hid hc
  have HL := Lib.hid hlen
  clear hc hlen
  rcases hx with hx | rfl
  rotate_left
  all_goals
    go_enter Try.func62, Try.ntmps62
    go_wp2
    go_loopw [3, 4, 11] (fun xs ys i wr => ThrLoop w az sz az.length xs ys i wr) (fun _ _ i _ => az.length - (intOf i).toNat)
    case atStart => exact ⟨0, by omega, rfl, by rw [List.take_zero]; exact Oz.nil _ _ _ _, by rw [List.take_zero]; exact Oz.nil _ _ _ _, .inl rfl, Below.refl _ _⟩
    case round =>
      obtain ⟨j, hj, rfl, hxs, hys, hap, hbel⟩ := hrel
      have AP := Lib.hid hap
      have OX := Lib.hid hxs
      have OY := Lib.hid hys
      have HB := Lib.hid hbel
      have hwsz := hbel.size
      clear hxs hys hap hbel
      by_cases hjn : j < az.length
      · first
        | (exfalso; omega)
        | (have hcw := Hc.out j hjn
           have hfj := hf.1 _ (gd_mem az j hjn)
           have hc1 : wr.cell? ⟨b, off + j * 2, none⟩ = some (.int .i64 (gd az j)) := (HB.out.cell (p := ⟨b, off + j * 2, none⟩) (World.block_lt_of_cell? _ _ hcw.1)).trans hcw.1
           have hc2 : wr.cell? ⟨b, off + j * 2 + 1, none⟩ = some (.int .u64 (gd sz j)) := (HB.out.cell (p := ⟨b, off + j * 2 + 1, none⟩) (World.block_lt_of_cell? _ _ hcw.2)).trans hcw.2
           clear hcw
           go_wp2
           have TX := Lib.hid (show (pts (az.take (j+1))).map vl = (pts (az.take j)).map vl ++ [vl (pt (gd az j).toNat)] by rw [take_snoc_Z az j hjn, pts_snoc, List.map_append]; rfl)
           have TY := Lib.hid (take_snoc_Z sz j (by rw [← HL.out]; exact hjn))
           have hlx : ((pts (az.take j)).map vl).length ≤ 1000000 := by simp [pts]; omega
           have hly : (sz.take j).length ≤ 1000000 := by rw [List.length_take]; omega
           have FX := Lib.hid (show ∀ n, some (wr.heap.size + n) ≠ u3.ownBlock from fun n e => by have := (OX.out.lt _ e.symm).2; omega)
           have FY := Lib.hid (show ∀ n, some (wr.heap.size + n) ≠ u4.ownBlock from fun n e => by have := (OY.out.lt _ e.symm).2; omega)
           go_region_held3 (fun w' => w'.cell? ⟨wr.heap.size, 0, none⟩ = some (.int .i64 (gd az j)) ∧ w'.cell? ⟨wr.heap.size, 1, none⟩ = some (.int .u64 (gd sz j)))
             (first | go_keep | (go_split_ands; refine ⟨?_, ?_⟩ <;> (rw [G1.cell_far _ (by simp <;> omega) (FX.out 0)]; assumption)) | (go_split_ands; refine ⟨?_, ?_⟩ <;> (rw [G2.cell_far _ (by have := G1.size; simp at this ⊢; omega) (FY.out 0)]; assumption)))
             (first | (go_at_call 58; refine (point_any (gd az j).toNat _ _ (by omega) (by omega)).mono ?_; rintro e w' ⟨rfl, rfl⟩) | (refine st_app_u64 _ (by rfl) (.tmp 15) (.tmp 19) (by rfl) w.heap.size u3 ((pts (az.take j)).map vl) (vl (pt (gd az j).toNat)) w _ (by rfl) (by rfl) (OX.out.below (by repeat (first | exact Below.refl _ _ | refine Below.drew ?_ | refine Below.alloc ?_ (by first | exact Nat.le_refl _ | (simp; done) | (simp; omega)) _))) (by first | exact heap2 _ _ _ | exact heap2' _ _ _ _ | exact heap3 _ _ _ _) (by repeat (first | exact HB.out | refine Below.drew ?_ | refine Below.alloc ?_ (by first | omega | (simp; omega)) _)) (by simp; omega) hlx ?_; intro v1 w1 O1 B1 G1 A1; have hs1 := B1.size; have OY1 := Oz.kept (OY.out.below (by repeat (first | exact Below.refl _ _ | refine Below.drew ?_ | refine Below.alloc ?_ (by first | exact Nat.le_refl _ | (simp; done) | (simp; omega)) _))) G1 AP.out; have AP1 := Ap.next AP.out (OY.out.below (by repeat (first | exact Below.refl _ _ | refine Below.drew ?_ | refine Below.alloc ?_ (by first | exact Nat.le_refl _ | (simp; done) | (simp; omega)) _))) A1) | (refine st_app_u64 _ (by rfl) (.tmp 21) (.tmp 24) (by rfl) w.heap.size u4 (sz.take j) (gd sz j) w _ (by rfl) (by rfl) (OY1.below (by repeat (first | exact Below.refl _ _ | refine Below.drew ?_ | refine Below.alloc ?_ (by first | exact Nat.le_refl _ | (simp; done) | (simp; omega)) _))) (by first | exact heap_alloc_new _ _ | exact (G1.block _ (by simp <;> omega) (FX.out _)).trans (heap2 _ _ _) | exact (G1.block _ (by simp <;> omega) (FX.out _)).trans (heap2' _ _ _ _) | exact (G1.block _ (by simp <;> omega) (FX.out _)).trans (heap3 _ _ _ _)) (by repeat (first | exact B1 | refine Below.drew ?_ | refine Below.alloc ?_ (by first | omega | (simp; omega)) _)) (by have := G1.size; simp at this ⊢; omega) hly ?_; intro v2 w2 O2 B2 G2 A2; have O1b := Oz.kept (O1.below (by repeat (first | exact Below.refl _ _ | refine Below.drew ?_ | refine Below.alloc ?_ (by first | exact Nat.le_refl _ | (simp; done) | (simp; omega)) _))) G2 (Ap.symm AP1); have AP2 := Ap.symm (Ap.next (Ap.symm AP1) (O1.below (by repeat (first | exact Below.refl _ _ | refine Below.drew ?_ | refine Below.alloc ?_ (by first | exact Nat.le_refl _ | (simp; done) | (simp; omega)) _))) A2)))
           all_goals
             (go_wp2
              go_roundw
              case rel => exact ⟨j + 1, by omega, by go_num, by rw [TX.out]; exact O1b, by rw [TY.out]; exact O2, AP2, B2⟩
              case measure => simp [intOf] <;> omega))
      · obtain rfl : j = az.length := by omega
        rw [List.take_length] at OX
        rw [List.take_of_length_le (by rw [HL.out]; omega)] at OY
        have ND := Lib.hid (pts_nodup hf)
        have hl1 : ((pts az).map vl).length = sz.length := by rw [List.length_map, pts_len, HL.out]
        have hl2 : ((pts az).map vl).length ≤ 128 := by rw [List.length_map, pts_len]; exact hl
        go_wp2_with fail
        refine (pthrough_any ((pts az).map vl) sz _ _ _ OX.out.rd OY.out.rd (B64.vl _) hb hl1 hl2).mono ?_
        rintro e w5 h5
        rw [map_toF_vl] at h5
        rcases h5 with ⟨_, v5, rfl, O5, B5⟩ | ⟨hn, _⟩
        · have O6 := Lib.hid (O5.mono hwsz)
          have B6 := Lib.hid (HB.out.trans (B5.mono hwsz))
          clear O5 B5
          go_wp2
          go_ret
          exact ⟨_, rfl, O6.out, B6.out⟩
        · exact absurd ND.out hn
end Go.Proofs.Ytjljndnpefdifaa.Gm
