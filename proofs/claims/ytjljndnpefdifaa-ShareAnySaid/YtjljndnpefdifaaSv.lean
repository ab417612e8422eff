/- share.Recover, share.Fits. -/
import Derived.Test.YtjljndnpefdifaaSu
import Derived.Test.YtjljndnpefdifaaOc
namespace Go.Proofs.Ytjljndnpefdifaa.Gm
open Go.RowKit
theorem nodup_bound (n : Nat) : ∀ l : List Int, l.Nodup → (∀ a ∈ l, 0 ≤ a ∧ a < n) → l.length ≤ n := by
  induction n with
  | zero =>
    intro l _ h
    cases l with
    | nil => simp
    | cons a t => have := h a (by simp); omega
  | succ n ih =>
    intro l hd h
    by_cases hm : (n : Int) ∈ l
    · have h1 := ih (l.erase (n : Int)) (hd.erase _) (fun a ha => by
        rw [hd.mem_erase_iff] at ha
        have := h a ha.2
        have := ha.1
        omega)
      rw [List.length_erase_of_mem hm] at h1
      omega
    · have h1 := ih l hd (fun a ha => by
        have := h a ha
        have : a ≠ n := fun e => hm (by rwa [e] at ha)
        omega)
      omega
theorem fine_len {az : List Int} (h : Fine az) : az.length ≤ 64 := nodup_bound 64 az h.2 h.1
/-- the polynomial through all shares -/
@[irreducible] def thru (az sz : List Int) : List F := (newton (((pts az).zip (sz.map toF)).reverse)).2
theorem sthrough_f (az sz : List Int) (v : Value) (w : World) (h : Rs w v az sz) (hb : B64 sz) (hf : Fine az) :
    Calls Try.prog 62 #[v] w (RetL w (thru az sz)) := by
  have h1 := sthrough_any az sz v w h hb hf (by have := fine_len hf; omega)
  unfold thru
  exact h1
theorem thru_len (az sz : List Int) : (thru az sz).length ≤ az.length := by
  unfold thru
  have h1 := newton_sum_len (((pts az).zip (sz.map toF)).reverse)
  rw [List.length_reverse, List.length_zip, pts_len] at h1
  omega
/-- so many numbers -/
def padF (l : List F) (k : Nat) : List F := l ++ (List.replicate k 0).drop l.length
theorem rec_k (k : Int) (v : Value) (w : World) (hk : k < 1 ∨ 64 < k) :
    Calls Try.prog 34 #[.int .i64 k, v] w (RetLE w [] 1) := by
  go_enter Try.func34, Try.ntmps34
  go_wp2_with fail
  refine (check_k k v _ hk).mono ?_
  rintro e w' ⟨rfl, hbel⟩
  go_wp2
  go_ret2
  exact ⟨_, rfl, Ow.nil _ _, hbel⟩
theorem fits_k (k : Int) (v : Value) (w : World) (hk : k < 1 ∨ 64 < k) :
    Calls Try.prog 35 #[.int .i64 k, v] w (RetV w (.tuple #[.bool false, .int .i64 1])) := by
  go_enter Try.func35, Try.ntmps35
  go_wp2_with fail
  refine (check_k k v _ hk).mono ?_
  rintro e w' ⟨rfl, hbel⟩
  go_wp2
  go_ret2
  exact ⟨rfl, hbel⟩
theorem rec_unfine (k : Int) (az sz : List Int) (v : Value) (w : World) (h : Rs w v az sz) (hwf : W63 az) (hk1 : 1 ≤ k) (hk2 : k ≤ 64) (hf : ¬ Fine az) :
    Calls Try.prog 34 #[.int .i64 k, v] w (RetLE w [] 5) := by
  go_enter Try.func34, Try.ntmps34
  go_wp2_with fail
  refine (check_any k az sz v _ h hwf hk1 hk2).mono ?_
  rintro e w' ⟨⟨h1, rfl⟩ | ⟨_, rfl⟩, hbel⟩
  · exact absurd h1 hf
  go_wp2
  go_ret2
  exact ⟨_, rfl, Ow.nil _ _, hbel⟩
theorem fits_unfine (k : Int) (az sz : List Int) (v : Value) (w : World) (h : Rs w v az sz) (hwf : W63 az) (hk1 : 1 ≤ k) (hk2 : k ≤ 64) (hf : ¬ Fine az) :
    Calls Try.prog 35 #[.int .i64 k, v] w (RetV w (.tuple #[.bool false, .int .i64 5])) := by
  go_enter Try.func35, Try.ntmps35
  go_wp2_with fail
  refine (check_any k az sz v _ h hwf hk1 hk2).mono ?_
  rintro e w' ⟨⟨h1, rfl⟩ | ⟨_, rfl⟩, hbel⟩
  · exact absurd h1 hf
  go_wp2
  go_ret2
  exact ⟨rfl, hbel⟩
theorem fits_any (k : Int) (az sz : List Int) (v : Value) (w : World) (h : Rs w v az sz) (hwf : W63 az) (hb : B64 sz) (hk1 : 1 ≤ k) (hk2 : k ≤ 64) (hf : Fine az) :
    Calls Try.prog 35 #[.int .i64 k, v] w (RetV w (.tuple #[.bool (decide (((thru az sz).length : Int) ≤ k)), .int .i64 0])) := by
  have H := Lib.hid h
  have FI := Lib.hid hf
  clear h hf
  go_enter Try.func35, Try.ntmps35
  go_wp2_with fail
  refine (check_any k az sz v _ H.out hwf hk1 hk2).mono ?_
  rintro e w' ⟨⟨_, rfl⟩ | ⟨h1, rfl⟩, hbel⟩
  rotate_left
  · exact absurd FI.out h1
  go_wp2_with fail
  refine (sthrough_f az sz v _ (H.out.below hbel) hb FI.out).mono ?_
  rintro e w2 ⟨v2, rfl, O2, B2⟩
  obtain ⟨a2, c2, rfl, hc2, hm2⟩ := O2.rd.shape
  rw [List.length_map] at O2 hc2 ⊢
  have B3 := Lib.hid (hbel.trans (B2.mono hbel.size))
  clear O2 B2 hbel
  go_wp2
  go_ret2
  exact ⟨rfl, B3.out⟩
set_option maxHeartbeats 2000000 in
theorem rec_any (k : Nat) (z : Int) (az sz : List Int) (v : Value) (w : World) (h : Rs w v az sz) (hwf : W63 az) (hb : B64 sz) (hzk : z = k) (hk1 : 1 ≤ k) (hk2 : k ≤ 64) (hf : Fine az) :
    Calls Try.prog 34 #[.int .i64 z, v] w (fun e w' => (az.length < k ∧ RetLE w [] 4 e w') ∨ (k ≤ az.length ∧ k < (thru az sz).length ∧ RetLE w [] 5 e w') ∨ (k ≤ az.length ∧ (thru az sz).length ≤ k ∧ RetLE w (padF (thru az sz) k) 0 e w')) := by
  subst hzk
  obtain ⟨a, cap, rfl, hcap, hm⟩ := h.shape
  have H := Lib.hid h
  have FI := Lib.hid hf
  clear h hf
  go_enter Try.func34, Try.ntmps34
  go_wp2_with fail
  refine (check_any k az sz _ _ H.out hwf (by omega) (by omega)).mono ?_
  rintro e w' ⟨⟨_, rfl⟩ | ⟨h1, rfl⟩, hbel⟩
  rotate_left
  · exact absurd FI.out h1
  have HB := Lib.hid hbel
  have hws := hbel.size
  clear hbel
  by_cases hfew : az.length < k
  · go_wp2
    go_ret2
    exact .inl ⟨hfew, _, rfl, Ow.nil _ _, HB.out⟩
  · have hge : k ≤ az.length := by omega
    go_wp2_with fail
    refine (sthrough_f az sz _ _ (H.out.below HB.out) hb FI.out).mono ?_
    rintro e w2 ⟨v2, rfl, O2, B2⟩
    obtain ⟨a2, c2, rfl, hc2, hm2⟩ := O2.rd.shape
    rw [List.length_map] at O2 hc2 ⊢
    have B3 := Lib.hid (HB.out.trans (B2.mono hws))
    have O3 := Lib.hid (O2.mono hws)
    have hws2 := B3.out.size
    clear O2 B2
    by_cases hlt : k < (thru az sz).length
    · go_wp2
      go_ret2
      exact .inr (.inl ⟨hge, hlt, _, rfl, Ow.nil _ _, B3.out⟩)
    · have hle : (thru az sz).length ≤ k := by omega
      have hlm : ((thru az sz).map vl).length ≤ k := by rw [List.length_map]; exact hle
      have hk6 : k ≤ 1000000 := by omega
      have HR := Lib.hid (show ((List.replicate k (0:F)).map vl).length = k by simp)
      go_wp2_with (first | (refine wl_make _ rfl (.tmp 25) (.tmp 25) rfl w2.heap.size (k : Int) (k : Int) k w2 rfl rfl rfl rfl hk6 (Below.refl _ _) (Nat.le_refl _) ?_; intro g w4 hg4 O4 B4; have B5 := Lib.hid (B3.out.trans (B4.mono hws2)); have O5 := Lib.hid (O4.oz.mono hws2); have hrd := Lib.hid (O3.out.rd.below B4); clear O4 B4) | (refine wl_copyZ .u64 27 22 Try.underlying22 (by kernel_rfl) _ rfl (.tmp 27) (.tmp 28) rfl w.heap.size g k k ((List.replicate k (0:F)).map vl) ((thru az sz).map vl) _ w rfl rfl O5.out HR.out hrd.out hlm B5.out ?_; intro w6 O6 B6; have O7 := Lib.hid O6; have B7 := Lib.hid B6; clear O6 B6) | go_in)
      go_wp2
      go_ret2
      refine .inr (.inr ⟨hge, hle, _, rfl, ?_, B7.out⟩)
      refine Oz.ow ?_
      have e : (padF (thru az sz) k).map vl = (thru az sz).map vl ++ ((List.replicate k (0:F)).map vl).drop ((thru az sz).map vl).length := by unfold padF; rw [List.map_append, List.length_map, List.map_drop]
      rw [e]
      have e2 := O7.out
      first | exact e2 | (rw [List.length_map]; exact e2)
end Go.Proofs.Ytjljndnpefdifaa.Gm
