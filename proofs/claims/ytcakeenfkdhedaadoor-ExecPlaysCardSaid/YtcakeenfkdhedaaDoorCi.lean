/- slices.Clone of integers (int). -/
import Derived.Test.YtcakeenfkdhedaaDoorGa
import Derived.Lib.SliceRun
import Derived.Laws.OwnMore
namespace Go.Proofs.YtcakeenfkdhedaaDoor.Gm
open Go.RowKit
theorem cloneI_raw (a : Option Addr) (n cap : Nat) (xs : List Value) (w : World) (hl : xs.length = n * 1) (h1 : ∀ u ∈ xs, u.oneCell' = true) (hc : ∀ ad, a = some ad → ∀ j u, xs[j]? = some u → w.cell? (ad.add j) = some u) (hnil : a = none → n = 0) (hn : n ≤ 1000000) :
    Calls Tryd.prog 31 #[.slice a n cap] w fun e w' => ∃ v', e = .returned v' ∧ w'.ownsRow w.heap.size 3 1 v' n xs ∧ Below w.heap.size w w' := by
  have hq := fun W : World => Lib.run_eql_slice_nil (P := Tryd.prog) W 22 3 a n cap 0 0 Tryd.underlying22
  rcases a with _ | ad
  · obtain rfl := hnil rfl
    have hx : xs = [] := List.eq_nil_of_length_eq_zero (by omega)
    subst hx
    simp only [Option.isNone] at hq
    go_enter Tryd.func31, Tryd.ntmps31
    go_wp2
    go_ret
    exact ⟨_, rfl, World.ownsRow_nil _ _ _ _, Below.refl _ _⟩
  · simp only [Option.isNone] at hq
    obtain ⟨i0, hi, hz0, hz1, hz2⟩ := info_parts (show (Tryd.prog.info? 3).map (fun i => (i.zero, i.size, i.bytes)) = some (some (.int .i64 0), 1, 8) by kernel_rfl)
    have HC := Lib.hid (hc ad rfl)
    have HL := Lib.hid hl
    have H1 := Lib.hid h1
    clear hc hl h1 hnil
    have hzs : (.int .i64 0 : Value).cells.size = 1 := rfl
    have hsz : 0 < 1 := by decide
    have hown := World.ownsRow_lit (e := 3) (size := 1) (base := w.heap.size) w #[] 0 (Nat.le_refl _) (by unfold maxLen; omega) (by simp)
    have hnews : ∀ j u, xs[j]? = some u → (w.alloc (.cells #[] 3)).cell? (ad.add j) = some u := by
      intro j u hu
      have h2 := HC.out j u hu
      have h3 := (Below.refl w.heap.size w).alloc (Nat.le_refl _) (.cells #[] 3)
      exact (h3.cell (World.block_lt_of_cell? w _ h2)).trans h2
    have hm0 : 0 + n ≤ maxLen := by unfold maxLen; omega
    have hby : (0 + n) * 8 ≤ 140737488355328 := by omega
    have hbase : w.heap.size ≤ (w.alloc (.cells #[] 3)).heap.size := by simp
    have HO := Lib.hid hown
    have HN := Lib.hid hnews
    clear hown hnews
    go_enter Tryd.func31, Tryd.ntmps31
    go_wp2_with (refine wpList_append_own _ rfl (.tmp 5) (.tmp 6) 22 rfl w.heap.size 3 i0 (.int .i64 0) 1 8 Tryd.underlying22 hi hz0 hz1 hz2 hzs hsz (.slice (some ⟨w.heap.size, 0, none⟩) 0 0) 0 [] rfl HO.out ad n cap xs rfl HL.out HN.out H1.out hm0 hby hbase ?_; intro v1 w1 hown1 hg1 _)
    go_ret
    refine ⟨_, rfl, ?_, ?_⟩
    · have := hown1
      rwa [Nat.zero_add, List.nil_append] at this
    · exact ((Below.refl _ _).alloc (Nat.le_refl _) _).grown hg1 hbase (fun k hk => Nat.le_of_eq (by simpa [Value.ownBlock] using hk))
theorem cloneI_any (zs : List Int) (v : Value) (w : World) (h : Rd .i64 w v zs) (hn : zs.length ≤ 1000000) :
    Calls Tryd.prog 31 #[v] w fun e w' => ∃ v', e = .returned v' ∧ Oz .i64 3 w.heap.size w' v' zs ∧ Below w.heap.size w w' := by
  obtain ⟨a, cap, b, off, rfl, hcap, hm, hx, hc⟩ := h
  refine (cloneI_raw a zs.length cap (zs.map (Value.int .i64)) w (by simp) ?_ ?_ ?_ hn)
  · intro u hu
    obtain ⟨x, _, rfl⟩ := List.mem_map.1 hu
    rfl
  · intro ad he j u hu
    have hj : j < zs.length := by have := (List.getElem?_eq_some_iff.1 hu).1; simpa using this
    rcases hx with hx | hx
    · subst hx; exact absurd hj (by simp)
    · rw [he] at hx
      injection hx with hx
      subst hx
      have e : ((⟨b, off, none⟩ : Addr).add j) = ⟨b, off + j, none⟩ := by unfold Addr.add; by_cases h0 : j = 0 <;> simp [h0]
      rw [e, hc j hj, gd_eq]
      rw [List.getElem?_map, List.getElem?_eq_getElem hj] at hu
      rw [List.getElem?_eq_getElem hj]
      exact hu
  · intro e
    rcases hx with hx | hx
    · rw [hx]; rfl
    · rw [e] at hx; cases hx
end Go.Proofs.YtcakeenfkdhedaaDoor.Gm
