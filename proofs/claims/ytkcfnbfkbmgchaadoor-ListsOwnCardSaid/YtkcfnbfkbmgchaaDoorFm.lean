/- many.form. -/
import Derived.Test.YtkcfnbfkbmgchaaDoorAl
import Derived.Test.YtkcfnbfkbmgchaaDoorHc
namespace Go.Proofs.YtkcfnbfkbmgchaaDoor.Gm
open Go.RowKit
set_option linter.unusedVariables false
theorem indexl_any (b c n : Nat) (ls : List Nat) (w : World) (hn : n ≤ 1048576) (hls : ls.length ≤ 3) (hl : ∀ d ∈ ls, d ≤ 9223372036854775807) (hc : w.cell? ⟨c, 0, none⟩ = some (.int .i64 n)) (h : ∀ i, i < ls.length → ∃ a cp, w.cell? ⟨b, i, none⟩ = some (.slice a (nd ls i) cp)) :
    Calls Tryd.prog 101 #[.slice (some ⟨b, 0, none⟩) ls.length ls.length, .func (Fn.func 95) #[] #[.pointer (some ⟨c, 0, none⟩)]] w
      fun e w' => (((∀ d ∈ ls, d = n) ∧ e = .returned (.int .i64 (-1))) ∨ ((∃ d ∈ ls, d ≠ n) ∧ ∃ k : Nat, e = .returned (.int .i64 k))) ∧ w = w' := by
  have HC := Lib.hid h
  have HLS := Lib.hid hl
  obtain ⟨N, hN⟩ : ∃ N, N = ls.length := ⟨_, rfl⟩
  have HN := Lib.hid hN
  rw [← hN] at hls ⊢
  clear h hl hN
  go_enter Tryd.func101, Tryd.ntmps101
  go_wp2
  go_loop [5, 8] (fun _ i => ∃ k : Nat, k ≤ N ∧ i = .int .i64 k ∧ ∀ d ∈ ls.take k, d = n) (fun _ i => N - (intOf i).toNat)
  case atStart => exact ⟨0, by omega, rfl, by simp⟩
  case round =>
    obtain ⟨k, hk, rfl, hp⟩ := hrel
    have HP := Lib.hid hp
    clear hp
    by_cases hkl : k < N
    · obtain ⟨a, cp, hcell⟩ := HC.out k (by rw [← HN.out]; exact hkl)
      have hmem : nd ls k ∈ ls := nd_mem (by rw [← HN.out]; exact hkl)
      have hd := HLS.out _ hmem
      have HT := Lib.hid (show nd ls k = n → ∀ d ∈ ls.take (k + 1), d = n from fun he d hdm => by
        rw [List.take_succ_eq_append_getElem (by rw [← HN.out]; exact hkl)] at hdm
        rcases List.mem_append.1 hdm with h | h
        · exact HP.out d h
        · rw [List.mem_singleton.1 h, ← nd_lt (by rw [← HN.out]; exact hkl)]; exact he)
      have HM := Lib.hid hmem
      clear hmem
      by_cases he : nd ls k = n
      · have HT2 := Lib.hid (HT.out he)
        rw [he] at hcell
        clear HT HM hd he
        have hne : ((n : Int) != (n : Int)) = false := by simp
        go_wp2
        go_round
        case rel => exact ⟨k + 1, by omega, by go_num, HT2.out⟩
        case measure => simp [intOf]; omega
      · have HE := Lib.hid (show ∃ d ∈ ls, d ≠ n from ⟨_, HM.out, he⟩)
        clear HT HM
        generalize nd ls k = d at *
        have hne : ((d : Int) != (n : Int)) = true := by rw [bne_iff_ne]; omega
        have hne2 : (d != n) = true := by rw [bne_iff_ne]; exact he
        clear he
        go_wp2
        go_ret
        exact ⟨.inr ⟨HE.out, k, rfl⟩, rfl⟩
    · obtain rfl : N = k := by omega
      have HP2 := Lib.hid (show ∀ d ∈ ls, d = n by have := HP.out; rwa [HN.out, List.take_length] at this)
      go_wp2
      go_ret
      exact ⟨.inl ⟨HP2.out, rfl⟩, rfl⟩
theorem containsl_any (b c n : Nat) (ls : List Nat) (w : World) (hn : n ≤ 1048576) (hls : ls.length ≤ 3) (hl : ∀ d ∈ ls, d ≤ 9223372036854775807) (hc : w.cell? ⟨c, 0, none⟩ = some (.int .i64 n)) (h : ∀ i, i < ls.length → ∃ a cp, w.cell? ⟨b, i, none⟩ = some (.slice a (nd ls i) cp)) :
    Calls Tryd.prog 94 #[.slice (some ⟨b, 0, none⟩) ls.length ls.length, .func (Fn.func 95) #[] #[.pointer (some ⟨c, 0, none⟩)]] w
      fun e w' => (((∀ d ∈ ls, d = n) ∧ e = .returned (.bool false)) ∨ ((∃ d ∈ ls, d ≠ n) ∧ e = .returned (.bool true))) ∧ w = w' := by
  have HI := Lib.hid (indexl_any b c n ls w hn hls hl hc h)
  clear hn hl hc h
  go_enter Tryd.func94, Tryd.ntmps94
  go_wp2_with fail
  refine HI.out.mono ?_
  rintro e w' ⟨hr, rfl⟩
  rcases hr with ⟨hp, rfl⟩ | ⟨hp, k, rfl⟩
  · have PP := Lib.hid hp
    clear hp
    go_wp2
    go_ret
    exact ⟨.inl ⟨PP.out, rfl⟩, rfl⟩
  · have PP := Lib.hid hp
    clear hp
    go_wp2
    go_ret
    exact ⟨.inr ⟨PP.out, by simp⟩, rfl⟩
/-- a call's end: an error's number alone -/
def RetE (w : World) (n : Int) (e : Ending) (w' : World) : Prop := e = .returned (.int .i64 n) ∧ Below w.heap.size w w'
theorem form_bad (zs : List Int) (n : Int) (v lv : Value) (w : World) (h : Rd .i64 w v zs) (hw : W64 zs) (hn : n = 1 ∧ Bad zs ∨ n = 2 ∧ Big zs) :
    Calls Tryd.prog 79 #[v, lv] w (RetE w n) := by
  rcases hn with ⟨rfl, hb⟩ | ⟨rfl, hb⟩
  all_goals
    have CM := Lib.hid ((mcheck_any zs v w h hw).mono (R' := fun e w' => e = _ ∧ w = w') (fun e w' he => ⟨by first | exact he.1.bad hb | exact he.1.big hb, he.2⟩))
    clear h hb
    go_enter Tryd.func79, Tryd.ntmps79
    go_wp2_with fail
    refine CM.out.mono ?_
    rintro e w' ⟨rfl, rfl⟩
    go_wp2
    go_ret
    exact ⟨rfl, (Below.refl _ _).alloc (Nat.le_refl _) _⟩
theorem form_ok (ds : List Nat) (ls : List Nat) (b : Nat) (v : Value) (w : World) (h : Rd .i64 w v (zi ds)) (hw : W64 (zi ds)) (hs : Shp ds) (hls : ls.length ≤ 3) (hl : ∀ d ∈ ls, d ≤ 9223372036854775807) (hb : ∀ i, i < ls.length → ∃ a cp, w.cell? ⟨b, i, none⟩ = some (.slice a (nd ls i) cp)) :
    Calls Tryd.prog 79 #[v, .slice (some ⟨b, 0, none⟩) ls.length ls.length] w (fun e w' => ((∀ d ∈ ls, d = pr ds) ∧ RetE w 0 e w') ∨ ((∃ d ∈ ls, d ≠ pr ds) ∧ RetE w 5 e w')) := by
  have CM := Lib.hid ((mcheck_any (zi ds) v w h hw).mono (R' := fun e w' => e = _ ∧ w = w') (fun e w' he => ⟨he.1.ok hs, he.2⟩))
  have HB := Lib.hid hb
  have hpr := hs.le
  clear h hb
  go_enter Tryd.func79, Tryd.ntmps79
  go_wp2_with fail
  refine CM.out.mono ?_
  rintro e w' ⟨rfl, rfl⟩
  go_wp2_with fail
  have hal := (Below.refl w.heap.size w).alloc (Nat.le_refl _) (.cells #[.int .i64 ((pr ds : Nat) : Int)] 3)
  have HAL := Lib.hid hal
  refine (containsl_any b w.heap.size (pr ds) ls _ (by omega) hls hl (by rw [World.cell?_alloc_at _ _ _ _ rfl]; rfl) (fun i hi => by
    obtain ⟨a, cp, hc⟩ := HB.out i hi
    exact ⟨a, cp, (hal.cell (p := ⟨b, i, none⟩) (World.block_lt_of_cell? _ _ hc)).trans hc⟩)).mono ?_
  rintro e w' ⟨hr, rfl⟩
  clear hal
  rcases hr with ⟨hp, rfl⟩ | ⟨hp, rfl⟩
  · have PP := Lib.hid hp
    clear hp
    go_wp2
    go_ret
    exact .inl ⟨PP.out, rfl, HAL.out⟩
  · have PP := Lib.hid hp
    clear hp
    go_wp2
    go_ret
    exact .inr ⟨PP.out, rfl, HAL.out⟩
end Go.Proofs.YtkcfnbfkbmgchaaDoor.Gm
