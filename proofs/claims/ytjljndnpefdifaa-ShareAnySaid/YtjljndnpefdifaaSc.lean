/- share.check and the reference's Shares. -/
import Derived.Test.YtjljndnpefdifaaRs
namespace Go.Proofs.Ytjljndnpefdifaa.Gm
open Go.RowKit
open Go.Maps
/-- places that are as they must be -/
def Fine (az : List Int) : Prop := (∀ a ∈ az, 0 ≤ a ∧ a < 64) ∧ az.Nodup
theorem gd_mem (l : List Int) (i : Nat) (h : i < l.length) : gd l i ∈ l := by
  rw [gd_eq, List.getElem?_eq_getElem h]; exact List.getElem_mem h
theorem take_snoc_Z (l : List Int) (k : Nat) (h : k < l.length) : l.take (k + 1) = l.take k ++ [gd l k] := by
  rw [List.take_succ_eq_append_getElem h, gd_eq, List.getElem?_eq_getElem h]; rfl
theorem fine_nil : Fine [] := ⟨by simp, by simp⟩
theorem fine_snoc {l : List Int} {a : Int} (h : Fine l) (h0 : 0 ≤ a) (h1 : a < 64) (hn : a ∉ l) : Fine (l ++ [a]) := by
  refine ⟨?_, ?_⟩
  · intro x hx
    rcases List.mem_append.1 hx with hx | hx
    · exact h.1 x hx
    · rw [List.mem_singleton] at hx; subst hx; exact ⟨h0, h1⟩
  · rw [List.nodup_append]
    refine ⟨h.2, by simp, ?_⟩
    intro x hx y hy e
    rw [List.mem_singleton] at hy
    subst hy; subst e; exact hn hx
theorem not_fine_low {az : List Int} {k : Nat} (h : k < az.length) (ha : gd az k < 0 ∨ 64 ≤ gd az k) : ¬ Fine az := by
  intro hf
  have := hf.1 _ (gd_mem az k h)
  omega
theorem not_fine_twice {az : List Int} {k : Nat} (h : k < az.length) (ha : gd az k ∈ az.take k) : ¬ Fine az := by
  intro hf
  have h1 : (az.take (k+1)).Nodup := hf.2.sublist (List.take_sublist _ _)
  rw [take_snoc_Z az k h, List.nodup_append] at h1
  exact h1.2.2 _ ha _ (by simp) rfl
def W63 (l : List Int) : Prop := ∀ a ∈ l, (Lit.int .i64 a).wf = true
theorem W63.get {l : List Int} (h : W63 l) (i : Nat) (hi : i < l.length) : (Lit.int .i64 (gd l i)).wf = true := h _ (gd_mem l i hi)
/-- what the check of the shares answers -/
def RetChk (w : World) (az : List Int) (e : Ending) (w' : World) : Prop :=
  ((Fine az ∧ e = .returned (.int .i64 0)) ∨ (¬ Fine az ∧ e = .returned (.int .i64 5))) ∧ Below w.heap.size w w'
theorem Seen.alloc {w : World} {b : Nat} {l : List Int} (h : Seen w b l) (o : Obj) : Seen (w.alloc o) b l := h.below ((Below.refl _ _).alloc (Nat.le_refl _) o)
theorem check_k (k : Int) (v : Value) (w : World) (hk : k < 1 ∨ 64 < k) :
    Calls Try.prog 61 #[.int .i64 k, v] w (RetV w (.int .i64 1)) := by
  go_enter Try.func61, Try.ntmps61
  by_cases h1 : k < 1
  · go_wp2
    go_ret
    exact ⟨rfl, Below.refl _ _⟩
  · have h2 : 64 < k := by omega
    go_wp2
    go_ret
    exact ⟨rfl, Below.refl _ _⟩
def ChkRel (w : World) (az : List Int) (n : Nat) (i : Value) (wr : World) : Prop :=
  ∃ k : Nat, k ≤ n ∧ i = .int .i64 k ∧ Fine (az.take k) ∧ Seen wr w.heap.size (az.take k) ∧ Below w.heap.size w wr
set_option maxHeartbeats 2000000 in
theorem check_any (k : Int) (az sz : List Int) (v : Value) (w : World) (h : Rs w v az sz) (hwf : W63 az) (hk1 : 1 ≤ k) (hk2 : k ≤ 64) :
    Calls Try.prog 61 #[.int .i64 k, v] w (RetChk w az) := by
  obtain ⟨hlen, a, cap, b, off, rfl, hcap, hm, hx, hc⟩ := h
  have Hc := Lib.hid hc
  clear hc hlen
  have hkl : ¬ k < 1 := by omega
  have hkg : ¬ 64 < k := by omega
  have hmm := @run_makeMap Try.prog
  rcases hx with hx | rfl
  all_goals
    go_enter Try.func61, Try.ntmps61
    go_wp2
    go_loopw [17] (fun i wr => ChkRel w az az.length i wr) (fun i _ => az.length - (intOf i).toNat)
    case atStart => exact ⟨0, by omega, rfl, by rw [List.take_zero]; exact fine_nil, by rw [List.take_zero]; exact Seen.made w, (Below.refl _ _).alloc (Nat.le_refl _) _⟩
    case round =>
      obtain ⟨j, hj, rfl, hfine, hseen, hbel⟩ := hrel
      have FI := Lib.hid hfine
      have SE := Lib.hid hseen
      have HB := Lib.hid hbel
      have hwsz := hbel.size
      clear hfine hseen hbel
      by_cases hjn : j < az.length
      · first
        | (exfalso; omega)
        | (have hcw := Hc.out j hjn
           have hw63 := Lib.hid (hwf.get j hjn)
           have hc1 : wr.cell? ⟨b, off + j * 2, none⟩ = some (.int .i64 (gd az j)) := (HB.out.cell (p := ⟨b, off + j * 2, none⟩) (World.block_lt_of_cell? _ _ hcw.1)).trans hcw.1
           have hc2 : wr.cell? ⟨b, off + j * 2 + 1, none⟩ = some (.int .u64 (gd sz j)) := (HB.out.cell (p := ⟨b, off + j * 2 + 1, none⟩) (World.block_lt_of_cell? _ _ hcw.2)).trans hcw.2
           clear hcw
           have hlk := (SE.out.alloc (.cells #[.int .i64 (gd az j), .int .u64 (gd sz j)] 61)).look (gd az j) hw63.out
           by_cases ha0 : gd az j < 0
           · have NF := Lib.hid (not_fine_low hjn (.inl ha0))
             go_wp2
             go_ret
             exact ⟨.inr ⟨NF.out, rfl⟩, HB.out.alloc hwsz _⟩
           · by_cases ha1 : 64 ≤ gd az j
             · have NF := Lib.hid (not_fine_low hjn (.inr ha1))
               go_wp2
               go_ret
               exact ⟨.inr ⟨NF.out, rfl⟩, HB.out.alloc hwsz _⟩
             · by_cases hmem : gd az j ∈ az.take j
               · have NF := Lib.hid (not_fine_twice hjn hmem)
                 rw [decide_eq_true hmem] at hlk
                 clear hmem
                 go_wp2
                 go_ret
                 exact ⟨.inr ⟨NF.out, rfl⟩, HB.out.alloc hwsz _⟩
               · have FS := Lib.hid (fine_snoc FI.out (by omega) (by omega) hmem)
                 have ST := Lib.hid (take_snoc_Z az j hjn)
                 rw [decide_eq_false hmem] at hlk
                 obtain ⟨w5, hup, hs5, hg5⟩ := (SE.out.alloc (.cells #[.int .i64 (gd az j), .int .u64 (gd sz j)] 61)).mark (gd az j) hw63.out (by rw [List.length_take]; omega)
                 have S5 := Lib.hid hs5
                 have B5 := Lib.hid ((HB.out.alloc hwsz (.cells #[.int .i64 (gd az j), .int .u64 (gd sz j)] 61)).grown hg5 (by simp; omega) (fun k hk => by injection hk with hk; omega))
                 clear hs5 hg5 hmem
                 go_wp2
                 go_roundw
                 case rel => exact ⟨j + 1, by omega, by go_num, by rw [ST.out]; exact FS.out, by rw [ST.out]; exact S5.out, B5.out⟩
                 case measure => simp [intOf] <;> omega)
      · obtain rfl : j = az.length := by omega
        have FF := Lib.hid (show Fine az by have := FI.out; rwa [List.take_length] at this)
        go_wp2
        go_ret
        exact ⟨.inl ⟨FF.out, rfl⟩, HB.out⟩
end Go.Proofs.Ytjljndnpefdifaa.Gm
