/- The two texts that the laws name. (Printed.) -/
import Derived.Test.YtdhmmllpldjkbaaGreatDoorDkt
namespace Go.Proofs.YtdhmmllpldjkbaaGreatDoor.Gm
open Go.RowKit
set_option linter.unusedVariables false
theorem words_eq {ws : List ByteArray} {ls : List (List UInt8)} (h : ws.map bl = ls) : ws = ls.map fun l => (⟨l.toArray⟩ : ByteArray) := by
  rw [← h, List.map_map]
  conv => lhs; rw [← List.map_id ws]
  exact List.map_congr_left (fun s _ => (mk_bl s).symm)
theorem cn_lit2 {l : List UInt8} (h : (l.all fun b => decide (48 ≤ b.toNat ∧ b.toNat ≤ 57)) = true) (h0 : l.isEmpty = false) (h1 : l.length ≤ 1 ∨ (l.head? == some 48) = false) : Cn l := by
  refine ⟨fun e => (by rw [e] at h0; cases h0), fun b hb => ?_, fun h2 e => ?_⟩
  · have := List.all_eq_true.1 h b hb
    unfold isD
    exact of_decide_eq_true this
  · rcases h1 with h1 | h1
    · omega
    · rw [e] at h1; exact absurd h1 (by decide)
theorem numw_of {l : List UInt8} {n : Nat} (h : nv l = n) (hn : n < 18446744073709551616) (h1 : (l.all fun b => decide (48 ≤ b.toNat ∧ b.toNat ≤ 57)) = true) (h2 : l.isEmpty = false) (h3 : l.length ≤ 1 ∨ (l.head? == some 48) = false) : NumW l n := ⟨cn_lit2 h1 h2 h3, h, hn⟩
theorem dec_of {l : List UInt8} {n : Nat} (h : NumW l n) : (⟨(Lib.decDigits n).toArray⟩ : ByteArray) = ⟨l.toArray⟩ := by rw [(numw_iff l n h.2.2).2 h]
theorem numsw1 {a : List UInt8} {n : Nat} (h : NumW a n) : NumsW [⟨a.toArray⟩] [n] := ⟨rfl, fun i x hi => by
  match i, hi with
  | 0, hi => obtain rfl := Option.some.inj hi; rw [bl_mk]; exact h
  | i + 1, hi => cases hi⟩
theorem numsw2 {a b : List UInt8} {n m : Nat} (h : NumW a n) (k : NumW b m) : NumsW [⟨a.toArray⟩, ⟨b.toArray⟩] [n, m] := ⟨rfl, fun i x hi => by
  match i, hi with
  | 0, hi => obtain rfl := Option.some.inj hi; rw [bl_mk]; exact h
  | 1, hi => obtain rfl := Option.some.inj hi; rw [bl_mk]; exact k
  | i + 2, hi => cases hi⟩
theorem o1B_lit (z : Int) (n : Nat) (hz : z = n) : o1B z = ⟨(Lib.decDigits n).toArray⟩ := by
  subst hz
  unfold o1B
  rw [Int.toNat_natCast, tdB_some (by simp)]
  show (⟨(jD [n] 1).toArray⟩ : ByteArray) = _
  rw [jD_one [n] (by simp)]
  rfl
theorem erB_1 : erB 1 = ⟨#[101, 114, 114, 111, 114, 32, 49]⟩ := by
  apply bl_inj
  unfold erB
  rw [bl_app, show (1 : Int) = ((1 : Nat) : Int) from rfl, itoa_db (by omega), bl_mk, bl_mk, bl_mk]
  rfl
theorem ouL_all (O : List UInt8 → ByteArray) (ls : List (List UInt8)) : ouL O ls ls.length = (ls.map (pcO O)).flatten := by unfold ouL; rw [List.take_length]
theorem d_root33 : DoA ⟨#[114, 111, 111, 116]⟩ [⟨#[51, 51]⟩] (erB 1) := fun v w h hT hTb => do_root _ 0 1 [⟨#[51, 51]⟩] 33 (numsw1 (a := [51, 51]) (numw_of (by decide) (by omega) (by decide) (by decide) (by decide))) (by simp) v w h hT (fun w' => root_no _ w' (.inr (by rw [sml_lt (by omega)]; omega))) (fun w' hT' => one_err 0 1 (by omega) (by omega) w' hT')
theorem d_root1 : DoA ⟨#[114, 111, 111, 116]⟩ [⟨#[49]⟩] (o1B (vl (root 1))) := fun v w h hT hTb => do_root _ _ 0 [⟨#[49]⟩] 1 (numsw1 (a := [49]) (numw_of (by decide) (by omega) (by decide) (by decide) (by decide))) (by simp) v w h hT (fun w' => by rw [sml_lt (by omega)]; exact root_any 1 w' (by omega)) (fun w' hT' => one_1 _ (vl_lo _) (vl_64 _) w' hT')
theorem d_add : DoA ⟨#[97, 100, 100]⟩ [⟨#[51]⟩, ⟨#[52]⟩] (o1B (vl (toF ((3 : Nat) : Int) + toF ((4 : Nat) : Int)))) := fun v w h hT hTb => do_add _ [⟨#[51]⟩, ⟨#[52]⟩] 3 4 (numsw2 (a := [51]) (b := [52]) (numw_of (by decide) (by omega) (by decide) (by decide) (by decide)) (numw_of (by decide) (by omega) (by decide) (by decide) (by decide))) (by simp) v w h hT (fun w' hT' => two_add ((3 : Nat) : Int) ((4 : Nat) : Int) _ w' (vl_lo _) (vl_64 _) (fun w => add_any ((3 : Nat) : Int) ((4 : Nat) : Int) w (by omega) (by omega) (by omega) (by omega)) hT')
theorem d_ntt : DoA ⟨#[110, 116, 116]⟩ [⟨#[49]⟩, ⟨#[48]⟩] (tdB (nF (trL false 1 ((nz [1, 0]).map toF)))) := by
  have hn : NumsW [⟨#[49]⟩, ⟨#[48]⟩] [1, 0] := numsw2 (a := [49]) (b := [48]) (numw_of (by decide) (by omega) (by decide) (by decide) (by decide)) (numw_of (by decide) (by omega) (by decide) (by decide) (by decide))
  have ok : OkN (nF (trL false 1 ((nz [1, 0]).map toF))) := okN_F _ (by rw [trL_len]; omega)
  intro v w h hT hTb
  rw [← lnB_ok]
  exact do_ntt _ [⟨#[49]⟩, ⟨#[48]⟩] [1, 0] hn (by simp) v w h hT hTb (fun v' w' hr hT' hTb' => ls_ntt _ 0 v' w' ok (by omega) (by omega) ((nfwd_ok 1 _ v' w' hr hn.b64 (by omega) rfl hTb').mono fun _ _ h => h.ne) hT')
theorem d_times : DoA ⟨#[116, 105, 109, 101, 115]⟩ [⟨#[49, 50]⟩, ⟨#[49, 50]⟩] ⟨(Lib.decDigits 144).toArray⟩ := by
  intro v w h hT hTb
  have c12 : Cn [49, 50] := by
    have := (numw_of (l := [49, 50]) (n := 12) (by decide) (by omega) (by decide) (by decide) (by decide)).1
    exact this
  have g12 : GE (bl ⟨#[49, 50]⟩) 0 := by rw [show bl ⟨#[49, 50]⟩ = [49, 50] from bl_mk _]; exact .inr (.inl ⟨by simp, c12, rfl⟩)
  refine do_times _ v w (gr_times ⟨#[49, 50]⟩ ⟨#[49, 50]⟩ _ w.drew ((mul_ok ⟨#[49, 50]⟩ ⟨#[49, 50]⟩ g12 g12 w.drew hT.drew hTb.drew).mono ?_) v w rfl h hT)
  rintro e w' ⟨u, rfl, h1, h2, h3⟩
  have hv : nv (bl ⟨#[49, 50]⟩) = 12 := by rw [show bl ⟨#[49, 50]⟩ = [49, 50] from bl_mk _]; exact (numw_of (l := [49, 50]) (n := 12) (by decide) (by omega) (by decide) (by decide) (by decide)).2.1
  rw [hv] at h2
  rw [grBe u 144 h1 h2]
  exact ⟨rfl, h3⟩
theorem a_add : o1B (vl (toF ((3 : Nat) : Int) + toF ((4 : Nat) : Int))) = ⟨#[55]⟩ := by
  rw [← toF_add, o1B_lit _ 7 (by rw [vl_toF]; decide)]
  exact dec_of (l := [55]) (numw_of (by decide) (by omega) (by decide) (by decide) (by decide))
theorem a_root : o1B (vl (root 1)) = ⟨#[49, 56, 52, 52, 54, 55, 52, 52, 48, 54, 57, 52, 49, 52, 53, 56, 52, 51, 50, 48]⟩ := by
  rw [o1B_lit _ 18446744069414584320 (by
    rw [root_one, show (-1 : F) = 0 - 1 by grind, vl_sub, vl_zero, vl_one]
    decide)]
  exact dec_of (l := [49, 56, 52, 52, 54, 55, 52, 52, 48, 54, 57, 52, 49, 52, 53, 56, 52, 51, 50, 48]) (numw_of (by decide) (by omega) (by decide) (by decide) (by decide))
theorem a_ntt : tdB (nF (trL false 1 ((nz [1, 0]).map toF))) = ⟨#[49, 32, 49]⟩ := by
  have e : ∀ j, dft (2 ^ 1) (root 1) (cf ((nz [1, 0]).map toF)) j = 1 := fun j => by
    rw [dft_eq]
    have c0 : cf ((nz [1, 0]).map toF) 0 = 1 := by show cf [toF 1, toF 0] 0 = 1; unfold cf; exact toF_one
    have c1 : cf ((nz [1, 0]).map toF) 1 = 0 := by show cf [toF 1, toF 0] 1 = 0; unfold cf; exact toF_zero
    rw [show 2 ^ 1 = 0 + 1 + 1 from rfl, S_succ, S_succ, S_zero, c0, c1, Nat.mul_zero, pow_zero]
    grind
  have e2 : trL false 1 ((nz [1, 0]).map toF) = [1, 1] := by
    rw [trL_fwd]
    show [dft (2 ^ 1) (root 1) (cf ((nz [1, 0]).map toF)) 0, dft (2 ^ 1) (root 1) (cf ((nz [1, 0]).map toF)) 1] = _
    rw [e, e]
  rw [e2]
  have e3 : nF [1, 1] = [1, 1] := by
    unfold nF
    rw [List.map_cons, List.map_cons, List.map_nil, vl_one]
    rfl
  rw [e3, tdB_some (by simp)]
  have d1 := (numw_iff [49] 1 (by omega)).2 (numw_of (l := [49]) (by decide) (by omega) (by decide) (by decide) (by decide))
  unfold jD
  show (⟨(Lib.join [Lib.decDigits 1, Lib.decDigits 1] [32]).toArray⟩ : ByteArray) = _
  rw [d1]
  rfl
theorem a_times : (⟨(Lib.decDigits 144).toArray⟩ : ByteArray) = ⟨#[49, 52, 52]⟩ := dec_of (l := [49, 52, 52]) (numw_of (by decide) (by omega) (by decide) (by decide) (by decide))
theorem ln_c0 : lnsOf (bl ⟨#[35, 10, 10, 114, 111, 111, 116, 32, 51, 51]⟩) = [[35], [], [114, 111, 111, 116, 32, 51, 51]] := by rw [show bl ⟨#[35, 10, 10, 114, 111, 111, 116, 32, 51, 51]⟩ = [35, 10, 10, 114, 111, 111, 116, 32, 51, 51] from bl_mk _]; decide
theorem ln_c1 : lnsOf (bl ⟨#[97, 100, 100, 32, 51, 32, 52, 10, 114, 111, 111, 116, 32, 49, 10, 110, 116, 116, 32, 49, 32, 48, 10, 116, 105, 109, 101, 115, 32, 49, 50, 32, 49, 50, 10]⟩) = [[97, 100, 100, 32, 51, 32, 52], [114, 111, 111, 116, 32, 49], [110, 116, 116, 32, 49, 32, 48], [116, 105, 109, 101, 115, 32, 49, 50, 32, 49, 50]] := by rw [show bl ⟨#[97, 100, 100, 32, 51, 32, 52, 10, 114, 111, 111, 116, 32, 49, 10, 110, 116, 116, 32, 49, 32, 48, 10, 116, 105, 109, 101, 115, 32, 49, 50, 32, 49, 50, 10]⟩ = [97, 100, 100, 32, 51, 32, 52, 10, 114, 111, 111, 116, 32, 49, 10, 110, 116, 116, 32, 49, 32, 48, 10, 116, 105, 109, 101, 115, 32, 49, 50, 32, 49, 50, 10] from bl_mk _]; decide
theorem run_c0 (w : World) (hT : Tp w) (hTb : Tb w) (hM : Mx w) : Calls Tryz.prog 6 #[.string ⟨#[35, 10, 10, 114, 111, 111, 116, 32, 51, 51]⟩] w (RetV w (.string ⟨#[101, 114, 114, 111, 114, 32, 49, 10]⟩)) := by
  have h := run_any ⟨#[35, 10, 10, 114, 111, 111, 116, 32, 51, 51]⟩ (fun _ => erB 1) (by
    intro x hx p rest hm ha
    rw [ln_c0] at hx
    rcases List.mem_cons.1 hx with rfl | hx
    · exact absurd ha (by decide)
    rcases List.mem_cons.1 hx with rfl | hx
    · exact absurd ha (by decide)
    obtain rfl := List.mem_singleton.1 hx
    have e := words_eq (hm.trans (show wordsOf [114, 111, 111, 116, 32, 51, 51] = [[114, 111, 111, 116], [51, 51]] by decide))
    injection e with e1 e2
    subst e1; subst e2
    exact d_root33) (fun x hx ha => erB_sz 1 (by omega) (by omega)) (by decide) (by rw [ln_c0]; decide) w hT hTb hM
  have e : ouL (fun _ => erB 1) (lnsOf (bl ⟨#[35, 10, 10, 114, 111, 111, 116, 32, 51, 51]⟩)) (lnsOf (bl ⟨#[35, 10, 10, 114, 111, 111, 116, 32, 51, 51]⟩)).length = [101, 114, 114, 111, 114, 32, 49, 10] := by
    rw [ln_c0, ouL_all, List.map_cons, List.map_cons, List.map_cons, List.map_nil, pcO_no (by decide), pcO_no (by decide), pcO_yes (by decide), erB_1, show bl ⟨#[101, 114, 114, 111, 114, 32, 49]⟩ = [101, 114, 114, 111, 114, 32, 49] from bl_mk _]
    rfl
  rw [e] at h
  exact h
def O1 (x : List UInt8) : ByteArray := if x = [97, 100, 100, 32, 51, 32, 52] then ⟨#[55]⟩ else if x = [114, 111, 111, 116, 32, 49] then ⟨#[49, 56, 52, 52, 54, 55, 52, 52, 48, 54, 57, 52, 49, 52, 53, 56, 52, 51, 50, 48]⟩ else if x = [110, 116, 116, 32, 49, 32, 48] then ⟨#[49, 32, 49]⟩ else ⟨#[49, 52, 52]⟩
theorem o1_0 : O1 [97, 100, 100, 32, 51, 32, 52] = ⟨#[55]⟩ := by unfold O1; decide
theorem o1_1 : O1 [114, 111, 111, 116, 32, 49] = ⟨#[49, 56, 52, 52, 54, 55, 52, 52, 48, 54, 57, 52, 49, 52, 53, 56, 52, 51, 50, 48]⟩ := by unfold O1; decide
theorem o1_2 : O1 [110, 116, 116, 32, 49, 32, 48] = ⟨#[49, 32, 49]⟩ := by unfold O1; decide
theorem o1_3 : O1 [116, 105, 109, 101, 115, 32, 49, 50, 32, 49, 50] = ⟨#[49, 52, 52]⟩ := by unfold O1; decide
theorem run_c1 (w : World) (hT : Tp w) (hTb : Tb w) (hM : Mx w) : Calls Tryz.prog 6 #[.string ⟨#[97, 100, 100, 32, 51, 32, 52, 10, 114, 111, 111, 116, 32, 49, 10, 110, 116, 116, 32, 49, 32, 48, 10, 116, 105, 109, 101, 115, 32, 49, 50, 32, 49, 50, 10]⟩] w (RetV w (.string ⟨#[55, 10, 49, 56, 52, 52, 54, 55, 52, 52, 48, 54, 57, 52, 49, 52, 53, 56, 52, 51, 50, 48, 10, 49, 32, 49, 10, 49, 52, 52, 10]⟩)) := by
  have h := run_any ⟨#[97, 100, 100, 32, 51, 32, 52, 10, 114, 111, 111, 116, 32, 49, 10, 110, 116, 116, 32, 49, 32, 48, 10, 116, 105, 109, 101, 115, 32, 49, 50, 32, 49, 50, 10]⟩ O1 (by
    intro x hx p rest hm ha
    rw [ln_c1] at hx
    rcases List.mem_cons.1 hx with rfl | hx
    · have e := words_eq (hm.trans (show wordsOf [97, 100, 100, 32, 51, 32, 52] = [[97, 100, 100], [51], [52]] by decide))
      injection e with e1 e2
      subst e1; subst e2
      rw [o1_0, ← a_add]
      exact d_add
    rcases List.mem_cons.1 hx with rfl | hx
    · have e := words_eq (hm.trans (show wordsOf [114, 111, 111, 116, 32, 49] = [[114, 111, 111, 116], [49]] by decide))
      injection e with e1 e2
      subst e1; subst e2
      rw [o1_1, ← a_root]
      exact d_root1
    rcases List.mem_cons.1 hx with rfl | hx
    · have e := words_eq (hm.trans (show wordsOf [110, 116, 116, 32, 49, 32, 48] = [[110, 116, 116], [49], [48]] by decide))
      injection e with e1 e2
      subst e1; subst e2
      rw [o1_2, ← a_ntt]
      exact d_ntt
    obtain rfl := List.mem_singleton.1 hx
    have e := words_eq (hm.trans (show wordsOf [116, 105, 109, 101, 115, 32, 49, 50, 32, 49, 50] = [[116, 105, 109, 101, 115], [49, 50], [49, 50]] by decide))
    injection e with e1 e2
    subst e1; subst e2
    rw [o1_3, ← a_times]
    exact d_times) (by
    intro x hx ha
    rw [ln_c1] at hx
    rcases List.mem_cons.1 hx with rfl | hx
    · rw [o1_0]; decide
    rcases List.mem_cons.1 hx with rfl | hx
    · rw [o1_1]; decide
    rcases List.mem_cons.1 hx with rfl | hx
    · rw [o1_2]; decide
    obtain rfl := List.mem_singleton.1 hx
    rw [o1_3]; decide) (by decide) (by rw [ln_c1]; decide) w hT hTb hM
  have e : ouL O1 (lnsOf (bl ⟨#[97, 100, 100, 32, 51, 32, 52, 10, 114, 111, 111, 116, 32, 49, 10, 110, 116, 116, 32, 49, 32, 48, 10, 116, 105, 109, 101, 115, 32, 49, 50, 32, 49, 50, 10]⟩)) (lnsOf (bl ⟨#[97, 100, 100, 32, 51, 32, 52, 10, 114, 111, 111, 116, 32, 49, 10, 110, 116, 116, 32, 49, 32, 48, 10, 116, 105, 109, 101, 115, 32, 49, 50, 32, 49, 50, 10]⟩)).length = [55, 10, 49, 56, 52, 52, 54, 55, 52, 52, 48, 54, 57, 52, 49, 52, 53, 56, 52, 51, 50, 48, 10, 49, 32, 49, 10, 49, 52, 52, 10] := by
    rw [ln_c1, ouL_all, List.map_cons, List.map_cons, List.map_cons, List.map_cons, List.map_nil, pcO_yes (by decide), pcO_yes (by decide), pcO_yes (by decide), pcO_yes (by decide), o1_0, o1_1, o1_2, o1_3, show bl ⟨#[55]⟩ = [55] from bl_mk _, show bl ⟨#[49, 56, 52, 52, 54, 55, 52, 52, 48, 54, 57, 52, 49, 52, 53, 56, 52, 51, 50, 48]⟩ = [49, 56, 52, 52, 54, 55, 52, 52, 48, 54, 57, 52, 49, 52, 53, 56, 52, 51, 50, 48] from bl_mk _, show bl ⟨#[49, 32, 49]⟩ = [49, 32, 49] from bl_mk _, show bl ⟨#[49, 52, 52]⟩ = [49, 52, 52] from bl_mk _]
    rfl
  rw [e] at h
  exact h
end Go.Proofs.YtdhmmllpldjkbaaGreatDoor.Gm
