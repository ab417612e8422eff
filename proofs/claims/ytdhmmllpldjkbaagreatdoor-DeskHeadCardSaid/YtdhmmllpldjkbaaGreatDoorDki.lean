/- The desk and the reference answer a line alike. (Printed by wip/mk_dki.py.) -/
import Derived.Test.YtdhmmllpldjkbaaGreatDoorDed
import Derived.Test.YtdhmmllpldjkbaaGreatDoorDef
import Derived.Test.YtdhmmllpldjkbaaGreatDoorDec
import Derived.Test.YtdhmmllpldjkbaaGreatDoorBm
import Derived.Test.YtdhmmllpldjkbaaGreatDoorBr
import Derived.Test.YtdhmmllpldjkbaaGreatDoorBq
import Derived.Test.YtdhmmllpldjkbaaGreatDoorMkb
namespace Go.Proofs.YtdhmmllpldjkbaaGreatDoor.Gm
open Go.RowKit
set_option linter.unusedVariables false
theorem erB_sz (e : Int) (h0 : 0 ≤ e) (h1 : e < 10) : (erB e).size ≤ 1000000000 := by
  have hs : (⟨(Lib.itoa e).toArray⟩ : ByteArray).size ≤ 21 := by
    show (Lib.itoa e).toArray.size ≤ 21
    rw [List.size_toArray]
    obtain ⟨n, rfl⟩ : ∃ n : Nat, e = n := ⟨e.toNat, by omega⟩
    rw [itoa_db (by omega)]
    simp
  unfold erB
  rw [ByteArray.size_append]
  generalize (⟨(Lib.itoa e).toArray⟩ : ByteArray) = z at *
  have e6 : (⟨#[101, 114, 114, 111, 114, 32]⟩ : ByteArray).size = 6 := rfl
  omega
theorem tdB_sz {ns : List Nat} (h : OkN ns) : (tdB ns).size ≤ 1000000000 := by
  by_cases h0 : ns.length = 0
  · rw [tdB_none h0]
    show 4 ≤ _
    omega
  · rw [tdB_some h0]
    have h1 := jD_len ns h.1 ns.length (Nat.le_refl _)
    have h2 := h.2
    show (jD ns ns.length).toArray.size ≤ _
    rw [List.size_toArray]
    omega
theorem o1B_sz {z : Int} (h0 : 0 ≤ z) (h1 : z < 18446744073709551616) : (o1B z).size ≤ 1000000000 := by
  unfold o1B
  exact tdB_sz ⟨fun x hx => by rw [List.mem_singleton.1 hx]; omega, by simp⟩
theorem NumsW.lt {ws : List ByteArray} {ns : List Nat} (h : NumsW ws ns) : ∀ x ∈ ns, x < 18446744073709551616 := by
  intro x hx
  obtain ⟨i, hi, rfl⟩ := List.getElem_of_mem hx
  have hw : i < ws.length := by rw [← h.1]; exact hi
  have := (h.2 i ws[i] (List.getElem?_eq_getElem hw)).2.2
  rw [at0_lt hi] at this
  exact this
theorem NumsW.b64 {ws : List ByteArray} {ns : List Nat} (h : NumsW ws ns) : B64 (nz ns) := by
  intro z hz
  obtain ⟨x, hx, rfl⟩ := List.mem_map.1 hz
  have := h.lt x hx
  omega
theorem mul_none {l m : List F} (h : l = [] ∨ m = []) : mulL l m = [] := by unfold mulL; rw [if_pos h]
theorem map_no {zs : List Int} (h : zs.length = 0) : zs.map toF = [] := by rw [List.length_eq_zero_iff.1 h]; rfl
theorem ixk {ws : List ByteArray} {x : ByteArray} {i : Int} (h : IxS ws x i) : i = -1 ∨ ∃ k : Nat, i = (k : Int) := by
  rcases h with ⟨k, e, _⟩ | ⟨e, _⟩
  · exact .inr ⟨k, e⟩
  · exact .inl e
theorem okN_nil : OkN [] := ⟨fun x hx => absurd hx (by simp), by simp⟩
theorem grBe (u : ByteArray) (n : Nat) (hc : Cn (bl u)) (hn : nv (bl u) = n) : u = ⟨(Lib.decDigits n).toArray⟩ :=
  bl_inj (Cn.inj hc (by rw [bl_mk]; exact dec_Cn n) (by rw [hn, bl_mk (Lib.decDigits n), dec_nv]))
theorem grB_sz {n k : Nat} (hk : 1 ≤ k) (hk2 : k ≤ 10000) (h : n < 10 ^ k) : (⟨(Lib.decDigits n).toArray⟩ : ByteArray).size ≤ 1000000000 := by
  have h1 := (dec_Cn n).len_le hk (by rw [dec_nv]; exact h)
  show (Lib.decDigits n).toArray.size ≤ _
  rw [List.size_toArray]
  omega
theorem grB_sum {l m : List UInt8} (hl : Cn l) (hm : Cn m) (h1 : l.length ≤ 2000) (h2 : m.length ≤ 2000) : (⟨(Lib.decDigits (nv l + nv m)).toArray⟩ : ByteArray).size ≤ 1000000000 := by
  have e1 := Nat.lt_of_lt_of_le (nv_lt hl.2.1) (Nat.pow_le_pow_right (show 0 < 10 by omega) (show l.length ≤ l.length + m.length by omega))
  have e2 := Nat.lt_of_lt_of_le (nv_lt hm.2.1) (Nat.pow_le_pow_right (show 0 < 10 by omega) (show m.length ≤ l.length + m.length by omega))
  refine grB_sz (k := l.length + m.length + 1) (by omega) (by omega) ?_
  rw [Nat.pow_succ]
  generalize 10 ^ (l.length + m.length) = q at *
  omega
theorem grB_mul {l m : List UInt8} (hl : Cn l) (hm : Cn m) (h1 : l.length ≤ 2000) (h2 : m.length ≤ 2000) : (⟨(Lib.decDigits (nv l * nv m)).toArray⟩ : ByteArray).size ≤ 1000000000 := by
  have e3 : 0 < l.length := List.length_pos_iff.2 hl.1
  refine grB_sz (k := l.length + m.length) (by omega) (by omega) ?_
  rw [Nat.pow_add]
  exact Nat.mul_lt_mul'' (nv_lt hl.2.1) (nv_lt hm.2.1)
theorem GB.lo {l r : List UInt8} {n : Int} (h : GB l r n) (hn : n ≠ 0) : 0 < n ∧ n < 10 := by
  rcases h with ⟨_, h⟩ | ⟨_, h⟩ <;> rcases h.lo with e | e | e <;> omega
theorem Tp.drew {w : World} (h : Tp w) : Tp w.drew := h.below (below_drewN (Below.refl w.heap.size w) 1)
theorem Tb.drew {w : World} (h : Tb w) : Tb w.drew := h.below (below_drewN (Below.refl w.heap.size w) 1)
theorem two_of {α : Type} {l : List α} (h : l.length = 2) : ∃ x y, l = [x, y] := by
  match l, h with
  | [x, y], _ => exact ⟨x, y, rfl⟩
theorem one_of {α : Type} {l : List α} (h : l.length = 1) : ∃ x, l = [x] := by
  match l, h with
  | [x], _ => exact ⟨x, rfl⟩
theorem ix0 : IxS L3 ⟨#[112, 108, 97, 110, 32, 115, 104, 97, 114, 101]⟩ 0 := .inl ⟨0, rfl, rfl, fun j hj => absurd hj (by omega)⟩
theorem ix1 : IxS L3 ⟨#[105, 110, 118, 32, 114, 111, 111, 116]⟩ 1 := .inl ⟨1, rfl, rfl, fun j hj => by
  obtain rfl : j = 0 := by omega
  unfold L3
  decide⟩
theorem ix2 : IxS L3 ⟨#[97, 100, 100, 32, 115, 117, 98, 32, 109, 117, 108, 32, 112, 111, 119]⟩ 2 := .inl ⟨2, rfl, rfl, fun j hj => by
  unfold L3
  have hj2 : j = 0 ∨ j = 1 := by omega
  rcases hj2 with rfl | rfl <;> decide⟩
theorem ixm {x : ByteArray} (h0 : x ≠ ⟨#[112, 108, 97, 110, 32, 115, 104, 97, 114, 101]⟩) (h1 : x ≠ ⟨#[105, 110, 118, 32, 114, 111, 111, 116]⟩) (h2 : x ≠ ⟨#[97, 100, 100, 32, 115, 117, 98, 32, 109, 117, 108, 32, 112, 111, 119]⟩) : IxS L3 x (-1) := .inr ⟨rfl, fun j e => by
  unfold L3 at e
  match j, e with
  | 0, e => exact h0 (Option.some.inj e).symm
  | 1, e => exact h1 (Option.some.inj e).symm
  | 2, e => exact h2 (Option.some.inj e).symm
  | j + 3, e => exact absurd e (by simp)⟩
theorem ix_few {x : ByteArray} {i : Int} (h : IxS L3 x i) : i = -1 ∨ i = 0 ∨ i = 1 ∨ i = 2 := by
  rcases h with ⟨k, e, h1, _⟩ | ⟨e, _⟩
  · have h2 := (List.getElem?_eq_some_iff.1 h1).1
    have h3 : L3.length = 3 := rfl
    omega
  · exact .inl e
theorem cyc_round {k : Nat} {l m : List F} (hl : l.length = 2 ^ k) (hm : m.length = 2 ^ k) : rdL false l m (2 ^ k) = cycL k l m := by
  refine ext_cf (by rw [rdL_len, cycL_len]) (fun i hi => ?_)
  rw [rdL_len] at hi
  rw [cf_rdL _ _ _ _ hi, cf_cycL _ _ _ hi, cyc_cv (fun j hj => cf_ge (l := l) (by omega)) (fun j hj => cf_ge (l := m) (by omega)) hi, hl]
  rfl
theorem ans_cyclic (ws : List ByteArray) (hs : SmW ws) : ∃ r, Ans ⟨#[99, 121, 99, 108, 105, 99]⟩ ws r := by
  obtain ⟨hl, hz⟩ := hs
  have hl' : ws.length ≤ 1000000 := by omega
  obtain ⟨i, hi⟩ := ixS_ex ws ⟨#[47]⟩
  rcases ixk hi with rfl | ⟨k, rfl⟩
  · exact ⟨erB 3, erB_sz 3 (by omega) (by omega), fun v w h hT hTb => do_cyclic _ v w (pr_none _ ws hi hl' v w h hT), fun v w h hT hTb => ll_cyclic_none ws hi hl' v w h hT⟩
  · by_cases ha : ∃ ns, NumsW (ws.take k) ns
    · obtain ⟨ns, ha⟩ := ha
      by_cases hc : ∃ ms, NumsW (ws.drop (k + 1)) ms
      · obtain ⟨ms, hc⟩ := hc
        have ba := ha.b64
        have bc := hc.b64
        have la : ns.length ≤ 100000 := by rw [ha.1, List.length_take]; omega
        have lc : ms.length ≤ 100000 := by rw [hc.1, List.length_drop]; omega
        by_cases hne : ns.length = ms.length
        · by_cases hk : ∃ j : Nat, j ≤ 10 ∧ ns.length = 2 ^ j
          · obtain ⟨j, hj, hk⟩ := hk
            have z1 : (nz ns).length = 2 ^ j := by rw [nz_len]; exact hk
            have z2 : (nz ms).length = 2 ^ j := by rw [nz_len, ← hne]; exact hk
            have hp10 : 2 ^ j ≤ 2 ^ 10 := Nat.pow_le_pow_right (by omega) hj
            have ok : OkN (nF (cycL j ((nz ns).map toF) ((nz ms).map toF))) := okN_F _ (by rw [cycL_len]; omega)
            refine ⟨tdB (nF (cycL j ((nz ns).map toF) ((nz ms).map toF))), tdB_sz ok, fun v w h hT hTb => ?_, fun v w h hT hTb => ?_⟩
            · rw [← lnB_ok]
              exact do_cyclic _ v w (pr_cyc ws k hi hl' ns ms ha hc _ 0 ok (by omega) (by omega) (fun v1 v2 w' h1 h2 hb => (cyc_ok j _ _ v1 v2 w' h1 h2 ba bc hj z1 z2 hb).mono fun _ _ h => h.ne) v w h hT hTb)
            · refine ll_cyc_ok ws k hi hl' hz ns ms ha hc hne j hj hk _ ok (fun v1 v2 w' h1 h2 => (rround_any false _ _ v1 v2 w' h1 h2 ba bc (by rw [nz_len]; omega) (by rw [nz_len]; omega)).mono fun _ _ h => ?_) v w h hT
              have h3 := h.n
              rw [z1, cyc_round (by rw [List.length_map]; exact z1) (by rw [List.length_map]; exact z2)] at h3
              exact h3
          · have hk' : ∀ j : Nat, j ≤ 10 → ns.length ≠ 2 ^ j := fun j h1 h2 => hk ⟨j, h1, h2⟩
            refine ⟨erB 5, erB_sz 5 (by omega) (by omega), fun v w h hT hTb => ?_, fun v w h hT hTb => ll_cyc_no ws k hi hl' hz ns ms ha hc hne hk' v w h hT⟩
            rw [← lnB_err [] (show (5 : Int) ≠ 0 by omega)]
            exact do_cyclic _ v w (pr_cyc ws k hi hl' ns ms ha hc [] 5 okN_nil (by omega) (by omega) (fun v1 v2 w' h1 h2 hb => (cyc_bad _ _ v1 v2 w' h1 h2 (by rw [nz_len, nz_len]; exact hne) (fun j hj => by rw [nz_len]; exact hk' j hj) hb).mono fun _ _ h => h.ne) v w h hT hTb)
        · refine ⟨erB 5, erB_sz 5 (by omega) (by omega), fun v w h hT hTb => ?_, fun v w h hT hTb => ll_cyc_ne ws k hi hl' hz ns ms ha hc hne v w h hT⟩
          rw [← lnB_err [] (show (5 : Int) ≠ 0 by omega)]
          exact do_cyclic _ v w (pr_cyc ws k hi hl' ns ms ha hc [] 5 okN_nil (by omega) (by omega) (fun v1 v2 w' h1 h2 hb => (cyc_len _ _ v1 v2 w' h1 h2 (by rw [nz_len, nz_len]; exact hne)).mono fun _ _ h => h.ne) v w h hT hTb)
      · have hc' : ∀ ns, ¬ NumsW (ws.drop (k + 1)) ns := fun m h => hc ⟨m, h⟩
        exact ⟨erB 3, erB_sz 3 (by omega) (by omega), fun v w h hT hTb => do_cyclic _ v w (pr_ob _ ws k hi hl' ns ha hc' v w h hT), fun v w h hT hTb => ll_cyclic_ob ws k hi hl' hz ns ha hc' v w h hT⟩
    · have ha' : ∀ ns, ¬ NumsW (ws.take k) ns := fun m h => ha ⟨m, h⟩
      by_cases hc : ∃ ms, NumsW (ws.drop (k + 1)) ms
      · obtain ⟨ms, hc⟩ := hc
        exact ⟨erB 3, erB_sz 3 (by omega) (by omega), fun v w h hT hTb => do_cyclic _ v w (pr_bo _ ws k hi hl' ha' ms hc v w h hT), fun v w h hT hTb => ll_cyclic_bo ws k hi hl' hz ha' ms hc v w h hT⟩
      · have hc' : ∀ ns, ¬ NumsW (ws.drop (k + 1)) ns := fun m h => hc ⟨m, h⟩
        exact ⟨erB 3, erB_sz 3 (by omega) (by omega), fun v w h hT hTb => do_cyclic _ v w (pr_bb _ ws k hi hl' ha' hc' v w h hT), fun v w h hT hTb => ll_cyclic_bb ws k hi hl' hz ha' hc' v w h hT⟩
theorem ans_linear (ws : List ByteArray) (hs : SmW ws) : ∃ r, Ans ⟨#[108, 105, 110, 101, 97, 114]⟩ ws r := by
  obtain ⟨hl, hz⟩ := hs
  have hl' : ws.length ≤ 1000000 := by omega
  obtain ⟨i, hi⟩ := ixS_ex ws ⟨#[47]⟩
  rcases ixk hi with rfl | ⟨k, rfl⟩
  · exact ⟨erB 3, erB_sz 3 (by omega) (by omega), fun v w h hT hTb => do_linear _ v w (pr_none _ ws hi hl' v w h hT), fun v w h hT hTb => ll_linear_none ws hi hl' v w h hT⟩
  · by_cases ha : ∃ ns, NumsW (ws.take k) ns
    · obtain ⟨ns, ha⟩ := ha
      by_cases hc : ∃ ms, NumsW (ws.drop (k + 1)) ms
      · obtain ⟨ms, hc⟩ := hc
        have ba := ha.b64
        have bc := hc.b64
        have la : ns.length ≤ 100000 := by rw [ha.1, List.length_take]; omega
        have lc : ms.length ≤ 100000 := by rw [hc.1, List.length_drop]; omega
        by_cases hb : TooBig ns.length ms.length
        · refine ⟨erB 2, erB_sz 2 (by omega) (by omega), fun v w h hT hTb => ?_, fun v w h hT hTb => ?_⟩
          · rw [← lnB_err [] (show (2 : Int) ≠ 0 by omega)]
            exact do_linear _ v w (pr_lin ws k hi hl' ns ms ha hc [] 2 okN_nil (by omega) (by omega) (fun v1 v2 w' h1 h2 _ => (lin_big _ _ v1 v2 w' h1 h2 (by rw [nz_len, nz_len]; exact hb) (by rw [nz_len]; omega) (by rw [nz_len]; omega)).mono fun _ _ h => h.ne) v w h hT hTb)
          · by_cases q1 : 1024 < ns.length
            · exact ll_lin_b1 ws k hi hl' hz ns ms ha hc q1 v w h hT
            · by_cases q2 : 1024 < ms.length
              · exact ll_lin_b2 ws k hi hl' hz ns ms ha hc (by omega) q2 v w h hT
              · have q3 : 0 < ns.length ∧ 0 < ms.length ∧ 1025 < ns.length + ms.length := by
                  rcases hb with hb | hb | hb
                  · exact absurd hb q1
                  · exact absurd hb q2
                  · exact hb
                exact ll_lin_b3 ws k hi hl' hz ns ms ha hc (by omega) (by omega) q3.1 q3.2.1 q3.2.2 v w h hT
        · have hb' : ¬ TooBig (nz ns).length (nz ms).length := by rw [nz_len, nz_len]; exact hb
          have q : ns.length ≤ 1024 ∧ ms.length ≤ 1024 ∧ (ns.length = 0 ∨ ms.length = 0 ∨ ns.length + ms.length ≤ 1025) := by unfold TooBig at hb; omega
          by_cases h0 : ns.length = 0 ∨ ms.length = 0
          · refine ⟨tdB [], tdB_sz okN_nil, fun v w h hT hTb => ?_, fun v w h hT hTb => ?_⟩
            · rw [← lnB_ok]
              exact do_linear _ v w (pr_lin ws k hi hl' ns ms ha hc [] 0 okN_nil (by omega) (by omega) (fun v1 v2 w' h1 h2 _ => (lin_none _ _ v1 v2 w' h1 h2 hb' (by rw [nz_len, nz_len]; exact h0)).mono fun _ _ h => h.ne) v w h hT hTb)
            · have pd : ∀ v1 v2 w', Rd .u64 w' v1 (nz ns) → Rd .u64 w' v2 (nz ms) → Calls Tryz.prog 41 #[v1, v2] w' (RetN w' []) := fun v1 v2 w' h1 h2 => (rproduct_any _ _ v1 v2 w' h1 h2 ba bc (by rw [nz_len]; omega) (by rw [nz_len]; omega)).mono fun _ _ h => by
                have h3 := h.n
                rw [mul_none (h0.imp (fun e => map_no (by rw [nz_len]; exact e)) (fun e => map_no (by rw [nz_len]; exact e)))] at h3
                exact h3
              by_cases q1 : ns.length = 0
              · exact ll_lin_n1 ws k hi hl' hz ns ms ha hc q1 q.2.1 [] okN_nil pd v w h hT
              · exact ll_lin_n2 ws k hi hl' hz ns ms ha hc q.1 (by omega) (h0.resolve_left q1) [] okN_nil pd v w h hT
          · have n1 : (nz ns).map toF ≠ [] := map_ne (by rw [nz_len]; omega)
            have n2 : (nz ms).map toF ≠ [] := map_ne (by rw [nz_len]; omega)
            have ok : OkN (nF (mulL ((nz ns).map toF) ((nz ms).map toF))) := okN_F _ (by rw [mulL_len n1 n2, List.length_map, List.length_map, nz_len, nz_len]; omega)
            refine ⟨tdB (nF (mulL ((nz ns).map toF) ((nz ms).map toF))), tdB_sz ok, fun v w h hT hTb => ?_, fun v w h hT hTb => ?_⟩
            · rw [← lnB_ok]
              exact do_linear _ v w (pr_lin ws k hi hl' ns ms ha hc _ 0 ok (by omega) (by omega) (fun v1 v2 w' h1 h2 hb2 => (lin_ok _ _ v1 v2 w' h1 h2 ba bc hb' (by rw [nz_len]; omega) (by rw [nz_len]; omega) hb2).mono fun _ _ h => h.ne) v w h hT hTb)
            · exact ll_lin_ok ws k hi hl' hz ns ms ha hc q.1 (by omega) q.2.1 (by omega) (by omega) _ ok (fun v1 v2 w' h1 h2 => (rproduct_any _ _ v1 v2 w' h1 h2 ba bc (by rw [nz_len]; omega) (by rw [nz_len]; omega)).mono fun _ _ h => h.n) v w h hT
      · have hc' : ∀ ns, ¬ NumsW (ws.drop (k + 1)) ns := fun m h => hc ⟨m, h⟩
        exact ⟨erB 3, erB_sz 3 (by omega) (by omega), fun v w h hT hTb => do_linear _ v w (pr_ob _ ws k hi hl' ns ha hc' v w h hT), fun v w h hT hTb => ll_linear_ob ws k hi hl' hz ns ha hc' v w h hT⟩
    · have ha' : ∀ ns, ¬ NumsW (ws.take k) ns := fun m h => ha ⟨m, h⟩
      by_cases hc : ∃ ms, NumsW (ws.drop (k + 1)) ms
      · obtain ⟨ms, hc⟩ := hc
        exact ⟨erB 3, erB_sz 3 (by omega) (by omega), fun v w h hT hTb => do_linear _ v w (pr_bo _ ws k hi hl' ha' ms hc v w h hT), fun v w h hT hTb => ll_linear_bo ws k hi hl' hz ha' ms hc v w h hT⟩
      · have hc' : ∀ ns, ¬ NumsW (ws.drop (k + 1)) ns := fun m h => hc ⟨m, h⟩
        exact ⟨erB 3, erB_sz 3 (by omega) (by omega), fun v w h hT hTb => do_linear _ v w (pr_bb _ ws k hi hl' ha' hc' v w h hT), fun v w h hT hTb => ll_linear_bb ws k hi hl' hz ha' hc' v w h hT⟩
theorem ans_sum (ws : List ByteArray) (hs : SmW ws) : ∃ r, Ans ⟨#[115, 117, 109]⟩ ws r := by
  by_cases hl : ws.length = 2
  · obtain ⟨x, y, rfl⟩ := two_of hl
    obtain ⟨n, hg⟩ := gb_ex (bl x) (bl y)
    by_cases hn : n = 0
    · subst hn
      obtain ⟨g1, g2⟩ := hg.zero
      obtain ⟨c1, l1⟩ := g1.zero
      obtain ⟨c2, l2⟩ := g2.zero
      refine ⟨⟨(Lib.decDigits (nv (bl x) + nv (bl y))).toArray⟩, grB_sum c1 c2 l1 l2, fun v w h hT hTb => do_sum _ v w (gr_sum x y _ w.drew ((add_ok x y g1 g2 w.drew hT.drew).mono ?_) v w rfl h hT), fun v w h hT hTb => ?_⟩
      · rintro e w' ⟨u, rfl, h1, h2, h3⟩
        rw [grBe u _ h1 h2]
        exact ⟨rfl, h3⟩
      · have h5 := ll_sum x y ⟨(Lib.decDigits (nv (bl x) + nv (bl y))).toArray⟩ 0 hg v w h hT (fun _ => (gsum_ok x y c1 c2 (by rw [← bl_len]; exact l1) (by rw [← bl_len]; exact l2) w.drew hT.drew).mono (by
          rintro e w' ⟨u, rfl, h1, h2, h3⟩
          rw [grBe u _ h1 h2]
          exact ⟨rfl, h3⟩))
        rw [if_pos rfl] at h5
        exact h5
    · have hr := hg.lo hn
      refine ⟨erB n, erB_sz n (by omega) (by omega), fun v w h hT hTb => do_sum _ v w (gr_sumB x y n hr.1 hr.2 w.drew ((add_err x y n hg hn w.drew).mono ?_) v w rfl h hT), fun v w h hT hTb => ?_⟩
      · rintro e w' ⟨rfl, rfl⟩
        exact ⟨rfl, Below.refl _ _⟩
      · have h5 := ll_sum x y (erB n) n hg v w h hT (fun e => absurd e hn)
        rw [if_neg hn] at h5
        exact h5
  · exact ⟨erB 3, erB_sz 3 (by omega) (by omega), fun v w h hT hTb => do_sum _ v w (gr_len _ ws hl v w h hT), fun v w h hT hTb => ll_sum_len ws hl v w h hT⟩
theorem ans_times (ws : List ByteArray) (hs : SmW ws) : ∃ r, Ans ⟨#[116, 105, 109, 101, 115]⟩ ws r := by
  by_cases hl : ws.length = 2
  · obtain ⟨x, y, rfl⟩ := two_of hl
    obtain ⟨n, hg⟩ := gb_ex (bl x) (bl y)
    by_cases hn : n = 0
    · subst hn
      obtain ⟨g1, g2⟩ := hg.zero
      obtain ⟨c1, l1⟩ := g1.zero
      obtain ⟨c2, l2⟩ := g2.zero
      refine ⟨⟨(Lib.decDigits (nv (bl x) * nv (bl y))).toArray⟩, grB_mul c1 c2 l1 l2, fun v w h hT hTb => do_times _ v w (gr_times x y _ w.drew ((mul_ok x y g1 g2 w.drew hT.drew hTb.drew).mono ?_) v w rfl h hT), fun v w h hT hTb => ?_⟩
      · rintro e w' ⟨u, rfl, h1, h2, h3⟩
        rw [grBe u _ h1 h2]
        exact ⟨rfl, h3⟩
      · have h5 := ll_times x y ⟨(Lib.decDigits (nv (bl x) * nv (bl y))).toArray⟩ 0 hg v w h hT (fun _ => (gprod_ok x y c1 c2 (by rw [← bl_len]; exact l1) (by rw [← bl_len]; exact l2) w.drew).mono (by
          rintro e w' ⟨u, rfl, h1, h2, h3⟩
          rw [grBe u _ h1 h2]
          exact ⟨rfl, h3⟩))
        rw [if_pos rfl] at h5
        exact h5
    · have hr := hg.lo hn
      refine ⟨erB n, erB_sz n (by omega) (by omega), fun v w h hT hTb => do_times _ v w (gr_timesB x y n hr.1 hr.2 w.drew ((mul_err x y n hg hn w.drew).mono ?_) v w rfl h hT), fun v w h hT hTb => ?_⟩
      · rintro e w' ⟨rfl, rfl⟩
        exact ⟨rfl, Below.refl _ _⟩
      · have h5 := ll_times x y (erB n) n hg v w h hT (fun e => absurd e hn)
        rw [if_neg hn] at h5
        exact h5
  · exact ⟨erB 3, erB_sz 3 (by omega) (by omega), fun v w h hT hTb => do_times _ v w (gr_len _ ws hl v w h hT), fun v w h hT hTb => ll_times_len ws hl v w h hT⟩
theorem ans_add (ws : List ByteArray) (hs : SmW ws) : ∃ r, Ans ⟨#[97, 100, 100]⟩ ws r := by
  obtain ⟨hl, hz⟩ := hs
  have hl' : ws.length ≤ 1000000 := by omega
  by_cases hn : ∃ ns, NumsW ws ns
  · obtain ⟨ns, hn⟩ := hn
    by_cases h2 : ns.length = 2
    · obtain ⟨x, y, rfl⟩ := two_of h2
      have hx := hn.lt x (by simp)
      have hy := hn.lt y (by simp)
      refine ⟨o1B (vl (toF (x : Int) + toF (y : Int))), o1B_sz (vl_lo _) (vl_64 _), fun v w h hT hTb => do_add _ ws x y hn hl' v w h hT (fun w' hT' => two_add (x : Int) (y : Int) _ w' (vl_lo _) (vl_64 _) (fun w => add_any (x : Int) (y : Int) w (by omega) (by omega) (by omega) (by omega)) hT'), fun v w h hT hTb => ?_⟩
      exact ll_n2 ⟨#[97, 100, 100]⟩ ⟨#[97, 100, 100, 32, 115, 117, 98, 32, 109, 117, 108, 32, 112, 111, 119]⟩ (by decide) (by decide) (by decide) (by decide) kind_add ws hl' hz ix2 [x, y] hn rfl _ (fun v' w' hr hT' hTb' => an_add x y _ (vl_lo _) (vl_64 _) v' w' hr hT' (fun w => radd_any (x : Int) (y : Int) w (by omega) (by omega) (by omega) (by omega))) v w h hT hTb
    · exact ⟨erB 3, erB_sz 3 (by omega) (by omega), fun v w h hT hTb => do_add_len ws ns hn h2 hl' v w h hT, fun v w h hT hTb => ll_n2_bad ⟨#[97, 100, 100]⟩ ⟨#[97, 100, 100, 32, 115, 117, 98, 32, 109, 117, 108, 32, 112, 111, 119]⟩ (by decide) (by decide) (by decide) (by decide) kind_add ws hl' hz ix2 ns hn h2 v w h hT⟩
  · have hn' : ∀ ns, ¬ NumsW ws ns := fun m h => hn ⟨m, h⟩
    exact ⟨erB 3, erB_sz 3 (by omega) (by omega), fun v w h hT hTb => do_nan ⟨#[97, 100, 100]⟩ (by decide) (by decide) (by decide) (by decide) ws hn' hl' v w h hT, fun v w h hT hTb => ll_nan 2 ⟨#[97, 100, 100]⟩ ⟨#[97, 100, 100, 32, 115, 117, 98, 32, 109, 117, 108, 32, 112, 111, 119]⟩ (by decide) (by decide) (by decide) (by decide) kind_add ws hl' hz ix2 hn' v w h hT⟩
theorem ans_sub (ws : List ByteArray) (hs : SmW ws) : ∃ r, Ans ⟨#[115, 117, 98]⟩ ws r := by
  obtain ⟨hl, hz⟩ := hs
  have hl' : ws.length ≤ 1000000 := by omega
  by_cases hn : ∃ ns, NumsW ws ns
  · obtain ⟨ns, hn⟩ := hn
    by_cases h2 : ns.length = 2
    · obtain ⟨x, y, rfl⟩ := two_of h2
      have hx := hn.lt x (by simp)
      have hy := hn.lt y (by simp)
      refine ⟨o1B (vl (toF (x : Int) - toF (y : Int))), o1B_sz (vl_lo _) (vl_64 _), fun v w h hT hTb => do_sub _ ws x y hn hl' v w h hT (fun w' hT' => two_sub (x : Int) (y : Int) _ w' (vl_lo _) (vl_64 _) (fun w => sub_any (x : Int) (y : Int) w (by omega) (by omega) (by omega) (by omega)) hT'), fun v w h hT hTb => ?_⟩
      exact ll_n2 ⟨#[115, 117, 98]⟩ ⟨#[97, 100, 100, 32, 115, 117, 98, 32, 109, 117, 108, 32, 112, 111, 119]⟩ (by decide) (by decide) (by decide) (by decide) kind_sub ws hl' hz ix2 [x, y] hn rfl _ (fun v' w' hr hT' hTb' => an_sub x y _ (vl_lo _) (vl_64 _) v' w' hr hT' (fun w => rsub_any (x : Int) (y : Int) w (by omega) (by omega) (by omega) (by omega))) v w h hT hTb
    · exact ⟨erB 3, erB_sz 3 (by omega) (by omega), fun v w h hT hTb => do_sub_len ws ns hn h2 hl' v w h hT, fun v w h hT hTb => ll_n2_bad ⟨#[115, 117, 98]⟩ ⟨#[97, 100, 100, 32, 115, 117, 98, 32, 109, 117, 108, 32, 112, 111, 119]⟩ (by decide) (by decide) (by decide) (by decide) kind_sub ws hl' hz ix2 ns hn h2 v w h hT⟩
  · have hn' : ∀ ns, ¬ NumsW ws ns := fun m h => hn ⟨m, h⟩
    exact ⟨erB 3, erB_sz 3 (by omega) (by omega), fun v w h hT hTb => do_nan ⟨#[115, 117, 98]⟩ (by decide) (by decide) (by decide) (by decide) ws hn' hl' v w h hT, fun v w h hT hTb => ll_nan 2 ⟨#[115, 117, 98]⟩ ⟨#[97, 100, 100, 32, 115, 117, 98, 32, 109, 117, 108, 32, 112, 111, 119]⟩ (by decide) (by decide) (by decide) (by decide) kind_sub ws hl' hz ix2 hn' v w h hT⟩
theorem ans_mul (ws : List ByteArray) (hs : SmW ws) : ∃ r, Ans ⟨#[109, 117, 108]⟩ ws r := by
  obtain ⟨hl, hz⟩ := hs
  have hl' : ws.length ≤ 1000000 := by omega
  by_cases hn : ∃ ns, NumsW ws ns
  · obtain ⟨ns, hn⟩ := hn
    by_cases h2 : ns.length = 2
    · obtain ⟨x, y, rfl⟩ := two_of h2
      have hx := hn.lt x (by simp)
      have hy := hn.lt y (by simp)
      refine ⟨o1B (vl (toF (x : Int) * toF (y : Int))), o1B_sz (vl_lo _) (vl_64 _), fun v w h hT hTb => do_mul _ ws x y hn hl' v w h hT (fun w' hT' => two_mul (x : Int) (y : Int) _ w' (vl_lo _) (vl_64 _) (fun w => mul_any (x : Int) (y : Int) w (by omega) (by omega) (by omega) (by omega)) hT'), fun v w h hT hTb => ?_⟩
      exact ll_n2 ⟨#[109, 117, 108]⟩ ⟨#[97, 100, 100, 32, 115, 117, 98, 32, 109, 117, 108, 32, 112, 111, 119]⟩ (by decide) (by decide) (by decide) (by decide) kind_mul ws hl' hz ix2 [x, y] hn rfl _ (fun v' w' hr hT' hTb' => an_mul x y _ (vl_lo _) (vl_64 _) v' w' hr hT' (fun w => rmul_any (x : Int) (y : Int) w (by omega) (by omega) (by omega) (by omega))) v w h hT hTb
    · exact ⟨erB 3, erB_sz 3 (by omega) (by omega), fun v w h hT hTb => do_mul_len ws ns hn h2 hl' v w h hT, fun v w h hT hTb => ll_n2_bad ⟨#[109, 117, 108]⟩ ⟨#[97, 100, 100, 32, 115, 117, 98, 32, 109, 117, 108, 32, 112, 111, 119]⟩ (by decide) (by decide) (by decide) (by decide) kind_mul ws hl' hz ix2 ns hn h2 v w h hT⟩
  · have hn' : ∀ ns, ¬ NumsW ws ns := fun m h => hn ⟨m, h⟩
    exact ⟨erB 3, erB_sz 3 (by omega) (by omega), fun v w h hT hTb => do_nan ⟨#[109, 117, 108]⟩ (by decide) (by decide) (by decide) (by decide) ws hn' hl' v w h hT, fun v w h hT hTb => ll_nan 2 ⟨#[109, 117, 108]⟩ ⟨#[97, 100, 100, 32, 115, 117, 98, 32, 109, 117, 108, 32, 112, 111, 119]⟩ (by decide) (by decide) (by decide) (by decide) kind_mul ws hl' hz ix2 hn' v w h hT⟩
theorem ans_pow (ws : List ByteArray) (hs : SmW ws) : ∃ r, Ans ⟨#[112, 111, 119]⟩ ws r := by
  obtain ⟨hl, hz⟩ := hs
  have hl' : ws.length ≤ 1000000 := by omega
  by_cases hn : ∃ ns, NumsW ws ns
  · obtain ⟨ns, hn⟩ := hn
    by_cases h2 : ns.length = 2
    · obtain ⟨x, y, rfl⟩ := two_of h2
      have hx := hn.lt x (by simp)
      have hy := hn.lt y (by simp)
      refine ⟨o1B (vl (toF (x : Int) ^ y)), o1B_sz (vl_lo _) (vl_64 _), fun v w h hT hTb => do_pow _ ws x y hn hl' v w h hT (fun w' hT' => two_pow (x : Int) (y : Int) _ w' (vl_lo _) (vl_64 _) (fun w => pow_any (x : Int) y w (by omega) (by omega) (by omega)) hT'), fun v w h hT hTb => ?_⟩
      exact ll_n2 ⟨#[112, 111, 119]⟩ ⟨#[97, 100, 100, 32, 115, 117, 98, 32, 109, 117, 108, 32, 112, 111, 119]⟩ (by decide) (by decide) (by decide) (by decide) kind_pow ws hl' hz ix2 [x, y] hn rfl _ (fun v' w' hr hT' hTb' => an_pow x y _ (vl_lo _) (vl_64 _) v' w' hr hT' (fun w => rpow_any (x : Int) y w (by omega) (by omega) (by omega))) v w h hT hTb
    · exact ⟨erB 3, erB_sz 3 (by omega) (by omega), fun v w h hT hTb => do_pow_len ws ns hn h2 hl' v w h hT, fun v w h hT hTb => ll_n2_bad ⟨#[112, 111, 119]⟩ ⟨#[97, 100, 100, 32, 115, 117, 98, 32, 109, 117, 108, 32, 112, 111, 119]⟩ (by decide) (by decide) (by decide) (by decide) kind_pow ws hl' hz ix2 ns hn h2 v w h hT⟩
  · have hn' : ∀ ns, ¬ NumsW ws ns := fun m h => hn ⟨m, h⟩
    exact ⟨erB 3, erB_sz 3 (by omega) (by omega), fun v w h hT hTb => do_nan ⟨#[112, 111, 119]⟩ (by decide) (by decide) (by decide) (by decide) ws hn' hl' v w h hT, fun v w h hT hTb => ll_nan 2 ⟨#[112, 111, 119]⟩ ⟨#[97, 100, 100, 32, 115, 117, 98, 32, 109, 117, 108, 32, 112, 111, 119]⟩ (by decide) (by decide) (by decide) (by decide) kind_pow ws hl' hz ix2 hn' v w h hT⟩
theorem ans_inv (ws : List ByteArray) (hs : SmW ws) : ∃ r, Ans ⟨#[105, 110, 118]⟩ ws r := by
  obtain ⟨hl, hz⟩ := hs
  have hl' : ws.length ≤ 1000000 := by omega
  by_cases hn : ∃ ns, NumsW ws ns
  · obtain ⟨ns, hn⟩ := hn
    by_cases h2 : ns.length = 1
    · obtain ⟨x, rfl⟩ := one_of h2
      have hx := hn.lt x (by simp)
      by_cases h0 : toF (x : Int) = 0
      · exact ⟨erB 4, erB_sz 4 (by omega) (by omega), fun v w h hT hTb => do_inv _ 0 4 ws x hn hl' v w h hT (fun w' => inv_none (x : Int) w' (by omega) (by omega) h0) (fun w' hT' => one_err 0 4 (by omega) (by omega) w' hT'),
          fun v w h hT hTb => ll_n1 ⟨#[105, 110, 118]⟩ ⟨#[105, 110, 118, 32, 114, 111, 111, 116]⟩ (by decide) (by decide) (by decide) (by decide) kind_inv ws hl' hz ix1 [x] hn rfl _ (fun v' w' hr hT' hTb' => an_inv0 x hx h0 v' w' hr hT') v w h hT hTb⟩
      · exact ⟨o1B (vl (inv (toF (x : Int)))), o1B_sz (vl_lo _) (vl_64 _), fun v w h hT hTb => do_inv _ _ 0 ws x hn hl' v w h hT (fun w' => inv_any (x : Int) w' (by omega) (by omega) h0) (fun w' hT' => one_1 _ (vl_lo _) (vl_64 _) w' hT'),
          fun v w h hT hTb => ll_n1 ⟨#[105, 110, 118]⟩ ⟨#[105, 110, 118, 32, 114, 111, 111, 116]⟩ (by decide) (by decide) (by decide) (by decide) kind_inv ws hl' hz ix1 [x] hn rfl _ (fun v' w' hr hT' hTb' => an_inv x hx h0 v' w' hr hT') v w h hT hTb⟩
    · exact ⟨erB 3, erB_sz 3 (by omega) (by omega), fun v w h hT hTb => do_inv_len ws ns hn h2 hl' v w h hT, fun v w h hT hTb => ll_n1_bad ⟨#[105, 110, 118]⟩ ⟨#[105, 110, 118, 32, 114, 111, 111, 116]⟩ (by decide) (by decide) (by decide) (by decide) kind_inv ws hl' hz ix1 ns hn h2 v w h hT⟩
  · have hn' : ∀ ns, ¬ NumsW ws ns := fun m h => hn ⟨m, h⟩
    exact ⟨erB 3, erB_sz 3 (by omega) (by omega), fun v w h hT hTb => do_nan ⟨#[105, 110, 118]⟩ (by decide) (by decide) (by decide) (by decide) ws hn' hl' v w h hT, fun v w h hT hTb => ll_nan 1 ⟨#[105, 110, 118]⟩ ⟨#[105, 110, 118, 32, 114, 111, 111, 116]⟩ (by decide) (by decide) (by decide) (by decide) kind_inv ws hl' hz ix1 hn' v w h hT⟩
theorem ans_root (ws : List ByteArray) (hs : SmW ws) : ∃ r, Ans ⟨#[114, 111, 111, 116]⟩ ws r := by
  obtain ⟨hl, hz⟩ := hs
  have hl' : ws.length ≤ 1000000 := by omega
  by_cases hn : ∃ ns, NumsW ws ns
  · obtain ⟨ns, hn⟩ := hn
    by_cases h2 : ns.length = 1
    · obtain ⟨x, rfl⟩ := one_of h2
      by_cases h0 : x ≤ 32
      · exact ⟨o1B (vl (root x)), o1B_sz (vl_lo _) (vl_64 _), fun v w h hT hTb => do_root _ _ 0 ws x hn hl' v w h hT (fun w' => by rw [sml_lt (by omega)]; exact root_any x w' h0) (fun w' hT' => one_1 _ (vl_lo _) (vl_64 _) w' hT'),
          fun v w h hT hTb => ll_n1 ⟨#[114, 111, 111, 116]⟩ ⟨#[105, 110, 118, 32, 114, 111, 111, 116]⟩ (by decide) (by decide) (by decide) (by decide) kind_root ws hl' hz ix1 [x] hn rfl _ (fun v' w' hr hT' hTb' => an_root x h0 v' w' hr hT') v w h hT hTb⟩
      · have hs32 : 32 < sml x := by
          by_cases hq : x < 1000000000
          · rw [sml_lt hq]; omega
          · rw [sml_ge hq]; omega
        exact ⟨erB 1, erB_sz 1 (by omega) (by omega), fun v w h hT hTb => do_root _ 0 1 ws x hn hl' v w h hT (fun w' => root_no (sml x : Int) w' (.inr (by omega))) (fun w' hT' => one_err 0 1 (by omega) (by omega) w' hT'),
          fun v w h hT hTb => ll_n1 ⟨#[114, 111, 111, 116]⟩ ⟨#[105, 110, 118, 32, 114, 111, 111, 116]⟩ (by decide) (by decide) (by decide) (by decide) kind_root ws hl' hz ix1 [x] hn rfl _ (fun v' w' hr hT' hTb' => an_root_bad x (by omega) v' w' hr hT') v w h hT hTb⟩
    · exact ⟨erB 3, erB_sz 3 (by omega) (by omega), fun v w h hT hTb => do_root_len ws ns hn h2 hl' v w h hT, fun v w h hT hTb => ll_n1_bad ⟨#[114, 111, 111, 116]⟩ ⟨#[105, 110, 118, 32, 114, 111, 111, 116]⟩ (by decide) (by decide) (by decide) (by decide) kind_root ws hl' hz ix1 ns hn h2 v w h hT⟩
  · have hn' : ∀ ns, ¬ NumsW ws ns := fun m h => hn ⟨m, h⟩
    exact ⟨erB 3, erB_sz 3 (by omega) (by omega), fun v w h hT hTb => do_nan ⟨#[114, 111, 111, 116]⟩ (by decide) (by decide) (by decide) (by decide) ws hn' hl' v w h hT, fun v w h hT hTb => ll_nan 1 ⟨#[114, 111, 111, 116]⟩ ⟨#[105, 110, 118, 32, 114, 111, 111, 116]⟩ (by decide) (by decide) (by decide) (by decide) kind_root ws hl' hz ix1 hn' v w h hT⟩
theorem ans_ntt (ws : List ByteArray) (hs : SmW ws) : ∃ r, Ans ⟨#[110, 116, 116]⟩ ws r := by
  obtain ⟨hl, hz⟩ := hs
  have hl' : ws.length ≤ 1000000 := by omega
  by_cases hn : ∃ ns, NumsW ws ns
  · obtain ⟨ns, hn⟩ := hn
    have bn := hn.b64
    by_cases hk : ∃ j : Nat, j ≤ 10 ∧ ns.length = 2 ^ j
    · obtain ⟨j, hj, hk⟩ := hk
      have z1 : (nz ns).length = 2 ^ j := by rw [nz_len]; exact hk
      have hp10 : 2 ^ j ≤ 2 ^ 10 := Nat.pow_le_pow_right (by omega) hj
      have ok : OkN (nF (trL false j ((nz ns).map toF))) := okN_F _ (by rw [trL_len]; omega)
      refine ⟨tdB (nF (trL false j ((nz ns).map toF))), tdB_sz ok, fun v w h hT hTb => ?_, fun v w h hT hTb => ?_⟩
      · rw [← lnB_ok]
        exact do_ntt _ ws ns hn hl' v w h hT hTb (fun v' w' hr hT' hTb' => ls_ntt _ 0 v' w' ok (by omega) (by omega) ((nfwd_ok j _ v' w' hr bn hj z1 hTb').mono fun _ _ h => h.ne) hT')
      · exact ll_m1 ⟨#[110, 116, 116]⟩ ⟨#[110, 116, 116]⟩ (by decide) (by decide) (by decide) (by decide) kind_ntt ws hl' hz (ixm (by decide) (by decide) (by decide)) ns hn _ (fun v' w' hr hT' hTb' => an_ntt ns j hj hk _ ok v' w' hr hT' ((rfwd_any j _ v' w' hr bn hj z1).mono fun _ _ h => h.n)) v w h hT hTb
    · have hk' : ∀ j : Nat, j ≤ 10 → ns.length ≠ 2 ^ j := fun j h1 h2 => hk ⟨j, h1, h2⟩
      refine ⟨erB 5, erB_sz 5 (by omega) (by omega), fun v w h hT hTb => ?_, fun v w h hT hTb => ?_⟩
      · rw [← lnB_err [] (show (5 : Int) ≠ 0 by omega)]
        exact do_ntt _ ws ns hn hl' v w h hT hTb (fun v' w' hr hT' hTb' => ls_ntt [] 5 v' w' okN_nil (by omega) (by omega) ((nfwd_bad _ v' w' hr (fun j hj => by rw [nz_len]; exact hk' j hj) hTb').mono fun _ _ h => h.ne) hT')
      · exact ll_m1 ⟨#[110, 116, 116]⟩ ⟨#[110, 116, 116]⟩ (by decide) (by decide) (by decide) (by decide) kind_ntt ws hl' hz (ixm (by decide) (by decide) (by decide)) ns hn _ (fun v' w' hr hT' hTb' => an_ntt_bad ns hk' v' w' hr hT') v w h hT hTb
  · have hn' : ∀ ns, ¬ NumsW ws ns := fun m h => hn ⟨m, h⟩
    exact ⟨erB 3, erB_sz 3 (by omega) (by omega), fun v w h hT hTb => do_nan ⟨#[110, 116, 116]⟩ (by decide) (by decide) (by decide) (by decide) ws hn' hl' v w h hT, fun v w h hT hTb => ll_nan (-1) ⟨#[110, 116, 116]⟩ ⟨#[110, 116, 116]⟩ (by decide) (by decide) (by decide) (by decide) kind_ntt ws hl' hz (ixm (by decide) (by decide) (by decide)) hn' v w h hT⟩
theorem ans_back (ws : List ByteArray) (hs : SmW ws) : ∃ r, Ans ⟨#[98, 97, 99, 107]⟩ ws r := by
  obtain ⟨hl, hz⟩ := hs
  have hl' : ws.length ≤ 1000000 := by omega
  by_cases hn : ∃ ns, NumsW ws ns
  · obtain ⟨ns, hn⟩ := hn
    have bn := hn.b64
    by_cases hk : ∃ j : Nat, j ≤ 10 ∧ ns.length = 2 ^ j
    · obtain ⟨j, hj, hk⟩ := hk
      have z1 : (nz ns).length = 2 ^ j := by rw [nz_len]; exact hk
      have hp10 : 2 ^ j ≤ 2 ^ 10 := Nat.pow_le_pow_right (by omega) hj
      have ok : OkN (nF (trL true j ((nz ns).map toF))) := okN_F _ (by rw [trL_len]; omega)
      refine ⟨tdB (nF (trL true j ((nz ns).map toF))), tdB_sz ok, fun v w h hT hTb => ?_, fun v w h hT hTb => ?_⟩
      · rw [← lnB_ok]
        exact do_back _ ws ns hn hl' v w h hT hTb (fun v' w' hr hT' hTb' => ls_back _ 0 v' w' ok (by omega) (by omega) ((ninv_ok j _ v' w' hr bn hj z1 hTb').mono fun _ _ h => h.ne) hT')
      · exact ll_m1 ⟨#[98, 97, 99, 107]⟩ ⟨#[98, 97, 99, 107]⟩ (by decide) (by decide) (by decide) (by decide) kind_back ws hl' hz (ixm (by decide) (by decide) (by decide)) ns hn _ (fun v' w' hr hT' hTb' => an_back ns j hj hk _ ok v' w' hr hT' ((rbwd_any j _ v' w' hr bn hj z1).mono fun _ _ h => h.n)) v w h hT hTb
    · have hk' : ∀ j : Nat, j ≤ 10 → ns.length ≠ 2 ^ j := fun j h1 h2 => hk ⟨j, h1, h2⟩
      refine ⟨erB 5, erB_sz 5 (by omega) (by omega), fun v w h hT hTb => ?_, fun v w h hT hTb => ?_⟩
      · rw [← lnB_err [] (show (5 : Int) ≠ 0 by omega)]
        exact do_back _ ws ns hn hl' v w h hT hTb (fun v' w' hr hT' hTb' => ls_back [] 5 v' w' okN_nil (by omega) (by omega) ((ninv_bad _ v' w' hr (fun j hj => by rw [nz_len]; exact hk' j hj) hTb').mono fun _ _ h => h.ne) hT')
      · exact ll_m1 ⟨#[98, 97, 99, 107]⟩ ⟨#[98, 97, 99, 107]⟩ (by decide) (by decide) (by decide) (by decide) kind_back ws hl' hz (ixm (by decide) (by decide) (by decide)) ns hn _ (fun v' w' hr hT' hTb' => an_back_bad ns hk' v' w' hr hT') v w h hT hTb
  · have hn' : ∀ ns, ¬ NumsW ws ns := fun m h => hn ⟨m, h⟩
    exact ⟨erB 3, erB_sz 3 (by omega) (by omega), fun v w h hT hTb => do_nan ⟨#[98, 97, 99, 107]⟩ (by decide) (by decide) (by decide) (by decide) ws hn' hl' v w h hT, fun v w h hT hTb => ll_nan (-1) ⟨#[98, 97, 99, 107]⟩ ⟨#[98, 97, 99, 107]⟩ (by decide) (by decide) (by decide) (by decide) kind_back ws hl' hz (ixm (by decide) (by decide) (by decide)) hn' v w h hT⟩
theorem ans_plan (ws : List ByteArray) (hs : SmW ws) : ∃ r, Ans ⟨#[112, 108, 97, 110]⟩ ws r := by
  obtain ⟨hl, hz⟩ := hs
  have hl' : ws.length ≤ 1000000 := by omega
  by_cases hn : ∃ ns, NumsW ws ns
  · obtain ⟨ns, hn⟩ := hn
    by_cases h0 : ns.length = 0
    · obtain rfl := List.length_eq_zero_iff.1 h0
      exact ⟨erB 3, erB_sz 3 (by omega) (by omega), fun v w h hT hTb => do_plan _ ws [] hn hl' v w h hT hTb (fun v' w' hr hT' hTb' => ls_plan_none v' w' hr hT'), fun v w h hT hTb => ll_z_bad ⟨#[112, 108, 97, 110]⟩ ⟨#[112, 108, 97, 110, 32, 115, 104, 97, 114, 101]⟩ (by decide) (by decide) (by decide) (by decide) kind_plan ws hl' hz ix0 [] hn rfl v w h hT⟩
    · have ln : ns.length ≤ 1000000 := by rw [hn.1]; omega
      obtain ⟨L, n, hp, hn0, hn1, hm1, hm2⟩ := makersB (nz (smls ns)) (sml (at0 ns 0) : Int) (smls_W64 ns) (by have := sml_le (at0 ns 0); omega)
      have hsz := hp.size
      have hP := hp.1
      refine ⟨plB L n, ?_, fun v w h hT hTb => do_plan _ ws ns hn hl' v w h hT hTb (fun v' w' hr hT' hTb' => ls_plan ns _ v' w' hr (by omega) (planned_any ns L n v' w' hr (by omega) ln hn0 hn1 (fun v2 w2 h2 => hm1 v2 w2 h2) (fun _ v2 w2 h2 hT2 => print_any L v2 w2 h2 hT2 hp.weak (by omega)) (by omega) hT')),
        fun v w h hT hTb => ll_z ⟨#[112, 108, 97, 110]⟩ ⟨#[112, 108, 97, 110, 32, 115, 104, 97, 114, 101]⟩ (by decide) (by decide) (by decide) (by decide) kind_plan ws hl' hz ix0 ns hn (by omega) _ (fun v' w' hr hT' hTb' => an_plan ns L n v' w' hr (by omega) ln hn0 hn1 (fun v2 w2 h2 => hm2 v2 w2 h2) (fun _ v2 w2 h2 hT2 => rtext_any L v2 w2 h2 hT2 hp.weak (by omega)) (by omega) hT') v w h hT hTb⟩
      by_cases e0 : n = 0
      · subst e0
        rw [plB_ok, ByteArray.size_append]
        have e2 : (⟨#[111, 107]⟩ : ByteArray).size = 2 := rfl
        omega
      · rw [plB_err L e0]
        exact erB_sz n hn0 hn1
  · have hn' : ∀ ns, ¬ NumsW ws ns := fun m h => hn ⟨m, h⟩
    exact ⟨erB 3, erB_sz 3 (by omega) (by omega), fun v w h hT hTb => do_nan ⟨#[112, 108, 97, 110]⟩ (by decide) (by decide) (by decide) (by decide) ws hn' hl' v w h hT, fun v w h hT hTb => ll_nan 0 ⟨#[112, 108, 97, 110]⟩ ⟨#[112, 108, 97, 110, 32, 115, 104, 97, 114, 101]⟩ (by decide) (by decide) (by decide) (by decide) kind_plan ws hl' hz ix0 hn' v w h hT⟩
theorem ans_share (ws : List ByteArray) (hs : SmW ws) : ∃ r, Ans ⟨#[115, 104, 97, 114, 101]⟩ ws r := by
  obtain ⟨hl, hz⟩ := hs
  have hl' : ws.length ≤ 1000000 := by omega
  by_cases hn : ∃ ns, NumsW ws ns
  · obtain ⟨ns, hn⟩ := hn
    by_cases h0 : ns.length = 0
    · obtain rfl := List.length_eq_zero_iff.1 h0
      exact ⟨erB 3, erB_sz 3 (by omega) (by omega), fun v w h hT hTb => do_share _ ws [] hn hl' v w h hT hTb (fun v' w' hr hT' hTb' => ls_share_none v' w' hr hT'), fun v w h hT hTb => ll_z_bad ⟨#[115, 104, 97, 114, 101]⟩ ⟨#[112, 108, 97, 110, 32, 115, 104, 97, 114, 101]⟩ (by decide) (by decide) (by decide) (by decide) kind_share ws hl' hz ix0 [] hn rfl v w h hT⟩
    · have bn := hn.b64
      have dl : ((nz ns).drop 1).length = ns.length - 1 := by rw [List.length_drop, nz_len]
      have db : B64 ((nz ns).drop 1) := fun z hz => bn z (List.mem_of_mem_drop hz)
      by_cases hok : 2 ≤ ns.length ∧ (1 ≤ sml (at0 ns 0) ∧ sml (at0 ns 0) ≤ 64) ∧ ns.length - 1 ≤ sml (at0 ns 0)
      · obtain ⟨q1, q2, q3⟩ := hok
        have es : sml (at0 ns 0) = at0 ns 0 := by
          by_cases hq : at0 ns 0 < 1000000000
          · exact sml_lt hq
          · have := sml_ge hq; omega
        have ok : OkN (nF (syms (((nz ns).drop 1).map toF) (sml (at0 ns 0)))) := okN_F _ (by rw [syms_len]; omega)
        refine ⟨tdB (nF (syms (((nz ns).drop 1).map toF) (sml (at0 ns 0)))), tdB_sz ok, fun v w h hT hTb => ?_, fun v w h hT hTb => ?_⟩
        · rw [← lnB_ok]
          exact do_share _ ws ns hn hl' v w h hT hTb (fun v' w' hr hT' hTb' => ls_share ns _ 0 v' w' hr (by omega) ok (by omega) (by omega) (fun v2 w2 h2 => (encode_any _ v2 (sml (at0 ns 0)) _ w2 h2 db (by omega) q2.1 q2.2 (by omega) rfl).mono fun _ _ h => h.ne) hT')
        · exact ll_z ⟨#[115, 104, 97, 114, 101]⟩ ⟨#[112, 108, 97, 110, 32, 115, 104, 97, 114, 101]⟩ (by decide) (by decide) (by decide) (by decide) kind_share ws hl' hz ix0 ns hn (by omega) _ (fun v' w' hr hT' hTb' => an_share ns (by omega) q1 q2 q3 _ ok v' w' hr hT' (fun v2 w2 h2 => (symbols_any _ v2 (sml (at0 ns 0)) _ w2 h2 db q2.2 (by rw [es])).mono fun _ _ h => h.n)) v w h hT hTb
      · refine ⟨erB 1, erB_sz 1 (by omega) (by omega), fun v w h hT hTb => ?_, fun v w h hT hTb => ?_⟩
        · rw [← lnB_err [] (show (1 : Int) ≠ 0 by omega)]
          exact do_share _ ws ns hn hl' v w h hT hTb (fun v' w' hr hT' hTb' => ls_share ns [] 1 v' w' hr (by omega) okN_nil (by omega) (by omega) (fun v2 w2 h2 => (encode_bad _ v2 _ w2 h2 (by rw [dl]; omega)).mono fun _ _ h => h.ne) hT')
        · by_cases q1 : ns.length < 2
          · exact ll_z ⟨#[115, 104, 97, 114, 101]⟩ ⟨#[112, 108, 97, 110, 32, 115, 104, 97, 114, 101]⟩ (by decide) (by decide) (by decide) (by decide) kind_share ws hl' hz ix0 ns hn (by omega) _ (fun v' w' hr hT' hTb' => an_share_len ns (by omega) q1 v' w' hr hT') v w h hT hTb
          · by_cases q2 : sml (at0 ns 0) < 1 ∨ 64 < sml (at0 ns 0)
            · exact ll_z ⟨#[115, 104, 97, 114, 101]⟩ ⟨#[112, 108, 97, 110, 32, 115, 104, 97, 114, 101]⟩ (by decide) (by decide) (by decide) (by decide) kind_share ws hl' hz ix0 ns hn (by omega) _ (fun v' w' hr hT' hTb' => an_share_in ns (by omega) (by omega) q2 v' w' hr hT') v w h hT hTb
            · exact ll_z ⟨#[115, 104, 97, 114, 101]⟩ ⟨#[112, 108, 97, 110, 32, 115, 104, 97, 114, 101]⟩ (by decide) (by decide) (by decide) (by decide) kind_share ws hl' hz ix0 ns hn (by omega) _ (fun v' w' hr hT' hTb' => an_share_many ns (by omega) (by omega) (by omega) (by omega) v' w' hr hT') v w h hT hTb
  · have hn' : ∀ ns, ¬ NumsW ws ns := fun m h => hn ⟨m, h⟩
    exact ⟨erB 3, erB_sz 3 (by omega) (by omega), fun v w h hT hTb => do_nan ⟨#[115, 104, 97, 114, 101]⟩ (by decide) (by decide) (by decide) (by decide) ws hn' hl' v w h hT, fun v w h hT hTb => ll_nan 0 ⟨#[115, 104, 97, 114, 101]⟩ ⟨#[112, 108, 97, 110, 32, 115, 104, 97, 114, 101]⟩ (by decide) (by decide) (by decide) (by decide) kind_share ws hl' hz ix0 hn' v w h hT⟩
theorem ans_else (vb : ByteArray) (h_cyclic : vb ≠ ⟨#[99, 121, 99, 108, 105, 99]⟩) (h_linear : vb ≠ ⟨#[108, 105, 110, 101, 97, 114]⟩) (h_sum : vb ≠ ⟨#[115, 117, 109]⟩) (h_times : vb ≠ ⟨#[116, 105, 109, 101, 115]⟩) (h_ntt : vb ≠ ⟨#[110, 116, 116]⟩) (h_back : vb ≠ ⟨#[98, 97, 99, 107]⟩) (h_plan : vb ≠ ⟨#[112, 108, 97, 110]⟩) (h_share : vb ≠ ⟨#[115, 104, 97, 114, 101]⟩) (h_add : vb ≠ ⟨#[97, 100, 100]⟩) (h_sub : vb ≠ ⟨#[115, 117, 98]⟩) (h_mul : vb ≠ ⟨#[109, 117, 108]⟩) (h_pow : vb ≠ ⟨#[112, 111, 119]⟩) (h_inv : vb ≠ ⟨#[105, 110, 118]⟩) (h_root : vb ≠ ⟨#[114, 111, 111, 116]⟩) (ws : List ByteArray) (hs : SmW ws) : ∃ r, Ans vb ws r := by
  obtain ⟨hl, hz⟩ := hs
  have hl' : ws.length ≤ 1000000 := by omega
  have hk := kind_else vb h_plan h_share h_inv h_root h_add h_sub h_mul h_pow
  obtain ⟨i, hi⟩ := ixS_ex L3 vb
  by_cases hn : ∃ ns, NumsW ws ns
  · obtain ⟨ns, hn⟩ := hn
    refine ⟨erB 3, erB_sz 3 (by omega) (by omega), fun v w h hT hTb => do_else vb h_cyclic h_linear h_sum h_times h_ntt h_back h_plan h_share h_add h_sub h_mul h_pow h_inv h_root ws ns hn hl' v w h hT, fun v w h hT hTb => ?_⟩
    have an : ∀ v' w', Rd .u64 w' v' (nz ns) → Tp w' → Tb w' → Calls Tryz.prog 48 #[.string vb, v'] w' (RetV w' (.string (erB 3))) := fun v' w' hr hT' hTb' => an_else vb h_add h_sub h_mul h_pow h_inv h_root h_ntt h_back h_plan h_share v' w' hT'
    rcases ix_few hi with rfl | rfl | rfl | rfl
    · exact ll_m1 vb vb h_cyclic h_linear h_sum h_times hk ws hl' hz hi ns hn _ an v w h hT hTb
    · by_cases q : ns.length = 0
      · exact ll_z_bad vb vb h_cyclic h_linear h_sum h_times hk ws hl' hz hi ns hn q v w h hT
      · exact ll_z vb vb h_cyclic h_linear h_sum h_times hk ws hl' hz hi ns hn (by omega) _ an v w h hT hTb
    · by_cases q : ns.length = 1
      · exact ll_n1 vb vb h_cyclic h_linear h_sum h_times hk ws hl' hz hi ns hn q _ an v w h hT hTb
      · exact ll_n1_bad vb vb h_cyclic h_linear h_sum h_times hk ws hl' hz hi ns hn q v w h hT
    · by_cases q : ns.length = 2
      · exact ll_n2 vb vb h_cyclic h_linear h_sum h_times hk ws hl' hz hi ns hn q _ an v w h hT hTb
      · exact ll_n2_bad vb vb h_cyclic h_linear h_sum h_times hk ws hl' hz hi ns hn q v w h hT
  · have hn' : ∀ ns, ¬ NumsW ws ns := fun m h => hn ⟨m, h⟩
    exact ⟨erB 3, erB_sz 3 (by omega) (by omega), fun v w h hT hTb => do_nan vb h_cyclic h_linear h_sum h_times ws hn' hl' v w h hT, fun v w h hT hTb => ll_nan i vb vb h_cyclic h_linear h_sum h_times hk ws hl' hz hi hn' v w h hT⟩
/-- whatever the line says, both answer it, and alike -/
theorem ans_ex (vb : ByteArray) (ws : List ByteArray) (hs : SmW ws) : ∃ r, Ans vb ws r := by
  by_cases h_cyclic : vb = ⟨#[99, 121, 99, 108, 105, 99]⟩
  · subst h_cyclic; exact ans_cyclic ws hs
  by_cases h_linear : vb = ⟨#[108, 105, 110, 101, 97, 114]⟩
  · subst h_linear; exact ans_linear ws hs
  by_cases h_sum : vb = ⟨#[115, 117, 109]⟩
  · subst h_sum; exact ans_sum ws hs
  by_cases h_times : vb = ⟨#[116, 105, 109, 101, 115]⟩
  · subst h_times; exact ans_times ws hs
  by_cases h_ntt : vb = ⟨#[110, 116, 116]⟩
  · subst h_ntt; exact ans_ntt ws hs
  by_cases h_back : vb = ⟨#[98, 97, 99, 107]⟩
  · subst h_back; exact ans_back ws hs
  by_cases h_plan : vb = ⟨#[112, 108, 97, 110]⟩
  · subst h_plan; exact ans_plan ws hs
  by_cases h_share : vb = ⟨#[115, 104, 97, 114, 101]⟩
  · subst h_share; exact ans_share ws hs
  by_cases h_add : vb = ⟨#[97, 100, 100]⟩
  · subst h_add; exact ans_add ws hs
  by_cases h_sub : vb = ⟨#[115, 117, 98]⟩
  · subst h_sub; exact ans_sub ws hs
  by_cases h_mul : vb = ⟨#[109, 117, 108]⟩
  · subst h_mul; exact ans_mul ws hs
  by_cases h_pow : vb = ⟨#[112, 111, 119]⟩
  · subst h_pow; exact ans_pow ws hs
  by_cases h_inv : vb = ⟨#[105, 110, 118]⟩
  · subst h_inv; exact ans_inv ws hs
  by_cases h_root : vb = ⟨#[114, 111, 111, 116]⟩
  · subst h_root; exact ans_root ws hs
  exact ans_else vb h_cyclic h_linear h_sum h_times h_ntt h_back h_plan h_share h_add h_sub h_mul h_pow h_inv h_root ws hs
end Go.Proofs.YtdhmmllpldjkbaaGreatDoor.Gm
