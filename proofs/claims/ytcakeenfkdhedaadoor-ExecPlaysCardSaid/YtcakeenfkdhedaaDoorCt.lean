/- slices.Clone of tasks. -/
import Derived.Test.YtcakeenfkdhedaaDoorGb
import Derived.Lib.SliceRun
import Derived.Laws.OwnMore
namespace Go.Proofs.YtcakeenfkdhedaaDoor.Gm
open Go.RowKit
theorem cloneT_raw (a : Option Addr) (n cap : Nat) (xs : List Value) (w : World) (hl : xs.length = n * 3) (h1 : ∀ u ∈ xs, u.oneCell' = true) (hc : ∀ ad, a = some ad → ∀ j u, xs[j]? = some u → w.cell? (ad.add j) = some u) (hnil : a = none → n = 0) (hn : n ≤ 1000000) :
    Calls Tryd.prog 61 #[.slice a n cap] w fun e w' => ∃ v', e = .returned v' ∧ w'.ownsRow w.heap.size 56 3 v' n xs ∧ Below w.heap.size w w' := by
  have hq := fun W : World => Lib.run_eql_slice_nil (P := Tryd.prog) W 48 56 a n cap 0 0 Tryd.underlying48
  rcases a with _ | ad
  · obtain rfl := hnil rfl
    have hx : xs = [] := List.eq_nil_of_length_eq_zero (by omega)
    subst hx
    simp only [Option.isNone] at hq
    go_enter Tryd.func61, Tryd.ntmps61
    go_wp2
    go_ret
    exact ⟨_, rfl, World.ownsRow_nil _ _ _ _, Below.refl _ _⟩
  · simp only [Option.isNone] at hq
    obtain ⟨i0, hi, hz0, hz1, hz2⟩ := info_parts (show (Tryd.prog.info? 56).map (fun i => (i.zero, i.size, i.bytes)) = some (some (.agg #[.int .i64 0, .int .i64 0, .int .i64 0]), 3, 24) by kernel_rfl)
    have HC := Lib.hid (hc ad rfl)
    have HL := Lib.hid hl
    have H1 := Lib.hid h1
    clear hc hl h1 hnil
    have hzs : (.agg #[.int .i64 0, .int .i64 0, .int .i64 0] : Value).cells.size = 3 := rfl
    have hsz : 0 < 3 := by decide
    have hown := World.ownsRow_lit (e := 56) (size := 3) (base := w.heap.size) w #[] 0 (Nat.le_refl _) (by unfold maxLen; omega) (by simp)
    have hnews : ∀ j u, xs[j]? = some u → (w.alloc (.cells #[] 56)).cell? (ad.add j) = some u := by
      intro j u hu
      have h2 := HC.out j u hu
      have h3 := (Below.refl w.heap.size w).alloc (Nat.le_refl _) (.cells #[] 56)
      exact (h3.cell (World.block_lt_of_cell? w _ h2)).trans h2
    have hm0 : 0 + n ≤ maxLen := by unfold maxLen; omega
    have hby : (0 + n) * 24 ≤ 140737488355328 := by omega
    have hbase : w.heap.size ≤ (w.alloc (.cells #[] 56)).heap.size := by simp
    have HO := Lib.hid hown
    have HN := Lib.hid hnews
    clear hown hnews
    go_enter Tryd.func61, Tryd.ntmps61
    go_wp2_with (refine wpList_append_own _ rfl (.tmp 5) (.tmp 6) 48 rfl w.heap.size 56 i0 (.agg #[.int .i64 0, .int .i64 0, .int .i64 0]) 3 24 Tryd.underlying48 hi hz0 hz1 hz2 hzs hsz (.slice (some ⟨w.heap.size, 0, none⟩) 0 0) 0 [] rfl HO.out ad n cap xs rfl HL.out HN.out H1.out hm0 hby hbase ?_; intro v1 w1 hown1 hg1 _)
    go_ret
    refine ⟨_, rfl, ?_, ?_⟩
    · have := hown1
      rwa [Nat.zero_add, List.nil_append] at this
    · exact ((Below.refl _ _).alloc (Nat.le_refl _) _).grown hg1 hbase (fun k hk => Nat.le_of_eq (by simpa [Value.ownBlock] using hk))
theorem cloneT_any (l : List T3) (v : Value) (w : World) (h : Rk w v l) (hnn : ∀ c, v = .slice none l.length c → l.length = 0) (hn : l.length ≤ 1000000) :
    Calls Tryd.prog 61 #[v] w fun e w' => ∃ v', e = .returned v' ∧ Ot w.heap.size w' v' l ∧ Below w.heap.size w w' := by
  obtain ⟨a, cap, b, off, rfl, hcap, hm, hx, hc⟩ := h
  refine cloneT_raw a l.length cap (tcs l) w (tcs_len l) ?_ ?_ (fun e => by subst e; exact hnn cap rfl) hn
  · intro u hu
    unfold tcs at hu
    obtain ⟨t, _, ht⟩ := List.mem_flatMap.1 hu
    simp only [tc, List.mem_cons, List.not_mem_nil, or_false] at ht
    rcases ht with rfl | rfl | rfl <;> rfl
  · intro ad he j u hu
    have hj : j < l.length * 3 := by rw [← tcs_len]; exact (List.getElem?_eq_some_iff.1 hu).1
    rcases hx with hx | hx
    · omega
    · rw [he] at hx
      injection hx with hx
      subst hx
      obtain ⟨i, k, hi, hk, rfl⟩ : ∃ i k, i < l.length ∧ k < 3 ∧ j = i * 3 + k := ⟨j / 3, j % 3, by omega, by omega, by omega⟩
      have e : ((⟨b, off, none⟩ : Addr).add (i * 3 + k)) = ⟨b, off + (i * 3 + k), none⟩ := by unfold Addr.add; split <;> simp_all
      rw [e]
      have h1 := hc i hi
      have h2 := tcs_get l i hi
      match k, hk with
      | 0, _ => rw [Nat.add_zero] at hu ⊢; rw [h2.1] at hu; exact h1.1.trans hu
      | 1, _ => rw [h2.2.1] at hu; exact h1.2.1.trans hu
      | 2, _ => rw [h2.2.2] at hu; exact h1.2.2.trans hu
end Go.Proofs.YtcakeenfkdhedaaDoor.Gm
