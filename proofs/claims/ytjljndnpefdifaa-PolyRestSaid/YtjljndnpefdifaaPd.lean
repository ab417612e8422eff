/- The walk of poly.Div. -/
import Derived.Test.YtjljndnpefdifaaPu
import Derived.Test.YtjljndnpefdifaaDivide
namespace Go.Proofs.Ytjljndnpefdifaa.Gm
open Go.RowKit
theorem Ow.block {B : Nat} {w : World} {v : Value} {l : List F} (h : Ow B w v l) (hl : 0 < l.length) : ∃ g cap, v = .slice (some ⟨g, 0, none⟩) l.length cap ∧ B ≤ g ∧ g < w.heap.size ∧ l.length ≤ cap ∧ cap ≤ 9223372036854775807 := by
  rcases h.2 with ⟨_, h0⟩ | ⟨g, cap, cur, e, hb, hg, hn, hm, _⟩
  · omega
  · exact ⟨g, cap, e, hb, (Array.getElem?_eq_some_iff.1 hg).1, hn, by unfold maxLen at hm; omega⟩
theorem Ow.other {B g g' n cap : Nat} {w w' : World} {l : List F} (h : Ow B w (.slice (some ⟨g, 0, none⟩) n cap) l) (hh : ∀ k, k ≠ g' → w'.heap[k]? = w.heap[k]?) (hne : g ≠ g') : Ow B w' (.slice (some ⟨g, 0, none⟩) n cap) l := by
  refine ⟨h.1, ?_⟩
  rcases h.2 with h0 | ⟨g2, cap2, cur, e, hb, hg, rest⟩
  · exact .inl h0
  · have hgg : g = g2 := by injection e with e1; injection e1 with e2; injection e2
    exact .inr ⟨g2, cap2, cur, e, hb, (hh g2 (by omega)).trans hg, rest⟩
/-- a store into a list of the call's own: no other block turns -/
theorem wl_store2 {ops : Array Oper} {rest : List Oper} {o : Oper} {a : Act} {Q : Exit → Act → World → Prop} (w : World) (hgd : o.guard = none) (p x : Operand)
    (ho : o.op = .store 27 p x) (B g i n cap : Nat) (l : List F) (y : F) (W : World) (hp : a.eval p = .pointer (some ⟨g, i, none⟩)) (hx : a.eval x = .int .u64 (vl y))
    (hown : Ow B w (.slice (some ⟨g, 0, none⟩) n cap) l) (hn : l.length = n) (hi : i < n) (hbel : Below B W w)
    (h : ∀ w', Ow B w' (.slice (some ⟨g, 0, none⟩) n cap) (l.set i y) → Below B W w' → (∀ k, k ≠ g → w'.heap[k]? = w.heap[k]?) → wpList Try.prog ops Q rest (a.put o.dst undef) w') :
    wpList Try.prog ops Q (o :: rest) a w := by
  subst hn
  have hc := hown.cell hi
  have hf := hown.frozen i
  refine wpList_plain hgd fun K hK' => ?_
  have hset := hown.set i y
  rw [List.length_set] at hset
  have hk := hK' _ _ (h (w.setCell ⟨g, i, none⟩ (.int .u64 (vl y))) hset (hbel.setCell hown.base.1 _) (fun k hk => Below.heap_setCell _ _ _ _ hk))
  unfold Oper.wp
  simp [execOp, ho, hp, hx, Result.andThen]
  go_simp
  exact hk
/-- what a division answers -/
def DivRes (fa fb q r : List F) : Prop := strip q = q ∧ strip r = r ∧ strip (addL (mulL q fb) r) = strip fa ∧ r.length < fb.length ∧ q.length ≤ fa.length ∧ r.length ≤ fa.length
def RetLLE (w : World) (l1 l2 : List F) (n : Int) (e : Ending) (w' : World) : Prop :=
  ∃ v1 v2, e = .returned (.tuple #[v1, v2, .int .i64 n]) ∧ Ow w.heap.size w' v1 l1 ∧ Ow w.heap.size w' v2 l2 ∧ Below w.heap.size w w'
def RetDiv (w : World) (fa fb : List F) (e : Ending) (w' : World) : Prop := ∃ q r, DivRes fa fb q r ∧ RetLLE w q r 0 e w'
theorem divres_short {fa fb : List F} (ha : strip fa = fa) (h : fa.length < fb.length) : DivRes fa fb [] fa := by
  refine ⟨rfl, ha, ?_, h, by simp, Nat.le_refl _⟩
  apply strip_eq
  intro k
  rw [cf_addL, cf_mulL]
  have : cv (cf []) (cf fb) k = 0 := S_all0 (fun i _ => by rw [cf_nil]; grind)
  rw [this]; grind
theorem divres_end {fa fb A q : List F} (hb : fb ≠ []) (hab : fb.length ≤ fa.length) (h : DivInv fa A q fb 0) : DivRes fa fb (strip q) (strip A) := by
  have h1 := div_end hb h
  refine ⟨strip_strip _, strip_strip _, h1.1, h1.2, ?_, ?_⟩
  · have := strip_len q; have h2 := h.2.1; have := List.length_pos_iff.2 hb
    omega
  · have := strip_len A; have := h.1; omega
def DivRel (B : Nat) (w : World) (fa fb : List F) (ga gb gq la lb lq ca cb : Nat) (i : Value) (wr : World) : Prop :=
  ∃ (k : Nat) (A q : List F), k ≤ lq ∧ i = .int .i64 ((k : Int) - 1) ∧ DivInv fa A q fb k ∧ A.length = la ∧ q.length = lq ∧
    Ow B wr (.slice (some ⟨ga, 0, none⟩) la ca) A ∧ Ow B wr (.slice (some ⟨gb, 0, none⟩) lb cb) fb ∧ Ow B wr (.slice (some ⟨gq, 0, none⟩) lq lq) q ∧ Below B w wr
def DivIn (B : Nat) (w : World) (A q fb : List F) (c : F) (j ga gb gq la lb lq ca cb : Nat) (i : Value) (wr : World) : Prop :=
  ∃ t : Nat, t ≤ lb ∧ i = .int .i64 t ∧
    Ow B wr (.slice (some ⟨ga, 0, none⟩) la ca) (subAt A c fb j t) ∧ Ow B wr (.slice (some ⟨gb, 0, none⟩) lb cb) fb ∧ Ow B wr (.slice (some ⟨gq, 0, none⟩) lq lq) (q.set j c) ∧ Below B w wr
theorem Ow.cell' {B g n cap : Nat} {w : World} {l : List F} (h : Ow B w (.slice (some ⟨g, 0, none⟩) n cap) l) (hn : l.length = n) {i : Nat} (hi : i < n) : w.cell? ⟨g, i, none⟩ = some (.int .u64 (vl (cf l i))) := by
  subst hn; exact Ow.cell h hi
set_option maxHeartbeats 1000000 in
theorem div_none (zs ys : List Int) (v v2 : Value) (w : World) (h : Rd .u64 w v zs) (h2 : Rd .u64 w v2 ys) (hz : B64 zs) (hy : B64 ys) (hl : zs.length ≤ 2048) (hl2 : ys.length ≤ 2048) (he : (strip (ys.map toF)).length ≤ 0) :
    Calls Try.prog 17 #[v, v2] w (RetLLE w [] [] 4) := by
  have HR := Lib.hid h
  have HR2 := Lib.hid h2
  obtain ⟨a, cap, rfl, hcap, hm⟩ := h.shape
  obtain ⟨a2, cap2, rfl, hcap2, hm2⟩ := h2.shape
  clear h h2
  obtain ⟨c1, c2⟩ := two_cells w (.slice a zs.length cap) (.slice a2 ys.length cap2) 22
  obtain ⟨fb, hfb⟩ : ∃ fb, fb = strip (ys.map toF) := ⟨_, rfl⟩
  rw [← hfb] at he
  have Fb := Lib.hid hfb
  clear hfb
  go_enter Try.func17, Try.ntmps17
  go_wp2_with fail
  refine (large2_no w.heap.size _ _ _ _ _ _ _ c1 c2 (by omega) (by omega)).mono ?_
  rintro e w' ⟨rfl, rfl⟩
  clear c1 c2
  go_wp2_with fail
  refine (normal_any zs _ _ (HR.out.alloc _) hz (by omega)).mono ?_
  rintro e w1 ⟨va, rfl, hown1, hbel1⟩
  have Hb1 := Lib.hid (((Below.refl w.heap.size w).alloc (Nat.le_refl _) (.cells #[.slice a zs.length cap, .slice a2 ys.length cap2] 22)).trans (hbel1.mono (B' := w.heap.size) (by simp)))
  have hsz1 := Hb1.out.size
  clear hown1 hbel1
  go_wp2_with fail
  refine (normal_any ys _ _ (HR2.out.below Hb1.out) hy (by omega)).mono ?_
  rintro e w2 ⟨vb, rfl, hown2, hbel2⟩
  rw [← Fb.out] at hown2
  obtain ⟨a4, cap4, rfl, hcap4, hm4⟩ := hown2.shape
  have Hb2 := Lib.hid (Hb1.out.trans (hbel2.mono hsz1))
  have hb0 : ((fb.length : Int) == 0) = true := by rw [beq_iff_eq]; omega
  have hb0' : (fb.length == 0) = true := by rw [beq_iff_eq]; omega
  clear hown2 hbel2
  go_wp2
  go_ret3
  exact ⟨_, _, rfl, Ow.nil _ _, Ow.nil _ _, Hb2.out⟩
set_option maxHeartbeats 2000000 in
set_option maxRecDepth 100000 in
theorem div_any (zs ys : List Int) (v v2 : Value) (w : World) (h : Rd .u64 w v zs) (h2 : Rd .u64 w v2 ys) (hz : B64 zs) (hy : B64 ys) (hl : zs.length ≤ 2048) (hl2 : ys.length ≤ 2048) (he : 0 < (strip (ys.map toF)).length) :
    Calls Try.prog 17 #[v, v2] w (RetDiv w (strip (zs.map toF)) (strip (ys.map toF))) := by
  have HR := Lib.hid h
  have HR2 := Lib.hid h2
  obtain ⟨a, cap, rfl, hcap, hm⟩ := h.shape
  obtain ⟨a2, cap2, rfl, hcap2, hm2⟩ := h2.shape
  clear h h2
  obtain ⟨c1, c2⟩ := two_cells w (.slice a zs.length cap) (.slice a2 ys.length cap2) 22
  obtain ⟨fa, hfa⟩ : ∃ fa, fa = strip (zs.map toF) := ⟨_, rfl⟩
  obtain ⟨fb, hfb⟩ : ∃ fb, fb = strip (ys.map toF) := ⟨_, rfl⟩
  have la2 : fa.length ≤ 2048 := by rw [hfa]; have := strip_len (zs.map toF); rw [List.length_map] at this; omega
  have lb2 : fb.length ≤ 2048 := by rw [hfb]; have := strip_len (ys.map toF); rw [List.length_map] at this; omega
  have nfa : strip fa = fa := by rw [hfa]; exact strip_strip _
  have nfb : strip fb = fb := by rw [hfb]; exact strip_strip _
  rw [← hfa, ← hfb]
  rw [← hfb] at he
  have Fa := Lib.hid hfa
  have Fb := Lib.hid hfb
  have Na := Lib.hid nfa
  have Nb := Lib.hid nfb
  clear hfa hfb nfa nfb
  go_enter Try.func17, Try.ntmps17
  go_wp2_with fail
  refine (large2_no w.heap.size _ _ _ _ _ _ _ c1 c2 (by omega) (by omega)).mono ?_
  rintro e w' ⟨rfl, rfl⟩
  clear c1 c2
  go_wp2_with fail
  refine (normal_any zs _ _ (HR.out.alloc _) hz (by omega)).mono ?_
  rintro e w1 ⟨va, rfl, hown1, hbel1⟩
  rw [← Fa.out] at hown1
  have Ho1 := Lib.hid (hown1.mono (B' := w.heap.size) (by simp))
  have Hb1 := Lib.hid (((Below.refl w.heap.size w).alloc (Nat.le_refl _) (.cells #[.slice a zs.length cap, .slice a2 ys.length cap2] 22)).trans (hbel1.mono (B' := w.heap.size) (by simp)))
  have hsz1 := Hb1.out.size
  clear hown1 hbel1
  go_wp2_with fail
  refine (normal_any ys _ _ (HR2.out.below Hb1.out) hy (by omega)).mono ?_
  rintro e w2 ⟨vb, rfl, hown2, hbel2⟩
  rw [← Fb.out] at hown2
  obtain ⟨gb, cb, rfl, hgb1, hgb2, hcb, hmb⟩ := hown2.block he
  have Ho1' := Lib.hid (Ho1.out.below hbel2)
  have Ho2 := Lib.hid (hown2.mono hsz1)
  have Hb2 := Lib.hid (Hb1.out.trans (hbel2.mono hsz1))
  have hsz2 := Hb2.out.size
  have hb0 : ((fb.length : Int) == 0) = false := by rw [beq_eq_false_iff_ne]; omega
  have hb0' : (fb.length == 0) = false := by rw [beq_eq_false_iff_ne]; omega
  clear hown2 hbel2
  by_cases hlt : fa.length < fb.length
  · obtain ⟨a3, cap3, rfl, hcap3, hm3⟩ := Ho1'.out.shape
    go_wp2
    go_ret3
    exact ⟨[], fa, divres_short Na.out hlt, _, _, rfl, Ow.nil _ _, Ho1'.out, Hb2.out⟩
  · have hga := Ho1.out.block (by omega)
    obtain ⟨ga, ca, rfl, hga1, hga2, hca, hma⟩ := hga
    have hgab : ga < gb := by omega
    have hcl := Ho2.out.cell (i := fb.length - 1) (by omega)
    have hidx : ((fb.length : Int) - 1).toNat = fb.length - 1 := by omega
    have hnz : cf fb (fb.length - 1) ≠ 0 := by
      rcases strip_normal Nb.out with e | e
      · rw [e] at he; simp at he
      · exact e
    have Hnz := Lib.hid hnz
    obtain ⟨lq, hlq⟩ : ∃ lq, lq = fa.length - fb.length + 1 := ⟨_, rfl⟩
    have HLQ := Lib.hid (show (fa.length : Int) - (fb.length : Int) + 1 = (lq : Int) by omega)
    have hlq1 : lq ≤ 1000000 := by omega
    have hlq2 : fa.length + 1 = fb.length + lq := by omega
    have HLQ2 := Lib.hid hlq2
    have hlqa : fa.length + 1 ≤ fb.length + lq := by omega
    have hlqb : fb.length + lq ≤ fa.length + 1 := by omega
    have hinvc : Calls Try.prog 41 #[.int .u64 (vl (cf fb (fb.length - 1)))] w2 fun e w' => e = .returned (.tuple #[.int .u64 (vl (inv (cf fb (fb.length - 1)))), .int .i64 0]) ∧ w2 = w' := by
      have h := inv_any (vl (cf fb (fb.length - 1))) w2 (vl_lo _) (vl_64 _) (by rw [toF_vl]; exact hnz)
      rwa [toF_vl] at h
    have Hinv := Lib.hid hinvc
    clear hnz hlq hlq2 hinvc
    go_wp2_with fail
    refine Hinv.out.mono ?_
    rintro e w' ⟨rfl, rfl⟩
    clear hcl
    go_wp2_with (refine wl_make _ rfl (.tmp 45) (.tmp 45) rfl w2.heap.size _ _ lq w2 rfl rfl HLQ.out HLQ.out hlq1 (Below.refl _ _) (Nat.le_refl _) ?_)
    intro gq w3 Hgq hown3 hbel3
    have hgq : gb < gq := by have := Hgq.out; omega
    have A3 := Lib.hid (Ho1'.out.below hbel3)
    have B3 := Lib.hid (Ho2.out.below hbel3)
    have Q3 := Lib.hid (hown3.mono hsz2)
    have Hb3 := Lib.hid (Hb2.out.trans (hbel3.mono hsz2))
    have St := Lib.hid (div_start (a0 := fa) (b := fb) (by intro e; rw [e] at he; simp at he) (by omega))
    have Lq := Lib.hid (show lq = fa.length - fb.length + 1 by omega)
    have hx1 := Hb3.out.size
    clear hown3 hbel3 Ho1 Ho1' Ho2 Hgq
    go_wp2
    go_loopw [10, 11, 12, 69] (fun i _ _ _ wr => DivRel w.heap.size w fa fb ga gb gq fa.length fb.length lq ca cb i wr) (fun i _ _ _ _ => (intOf i + 1).toNat)
    case atStart =>
      refine ⟨lq, fa, List.replicate lq 0, Nat.le_refl _, rfl, ?_, rfl, by simp, A3.out, B3.out, Q3.out, Hb3.out⟩
      have := St.out
      rw [← Lq.out] at this
      exact this
    case round =>
      obtain ⟨k, A, q, hk, rfl, hinv, hA, hq, hoA, hoB, hoQ, hbel⟩ := hrel
      have I := Lib.hid hinv
      have LA := Lib.hid hA
      have LQ := Lib.hid hq
      have OA := Lib.hid hoA
      have OB := Lib.hid hoB
      have OQ := Lib.hid hoQ
      have HB := Lib.hid hbel
      have hwsz := hbel.size
      clear hinv hA hq hoA hoB hoQ hbel
      obtain ⟨wo, hwo⟩ : ∃ wo : World, wo = wr := ⟨_, rfl⟩
      subst hwo
      cases k with
      | zero =>
        have hne : fb ≠ [] := by intro e; rw [e] at he; simp at he
        have DR := Lib.hid (divres_end hne (by omega) I.out)
        have lq3 : (q.map vl).length ≤ 1000000 := by rw [List.length_map, LQ.out]; omega
        have la3 : (A.map vl).length ≤ 1000000 := by rw [List.length_map, LA.out]; omega
        have RQ := Lib.hid (show Rd .u64 wo (.slice (some ⟨gq, 0, none⟩) lq lq) (q.map vl) from OQ.out.rd)
        clear hne
        go_wp2_with fail
        refine (normal_any (q.map vl) _ _ RQ.out (B64.vl q) lq3).mono ?_
        rintro e w4 ⟨vq, rfl, hown4, hbel4⟩
        rw [map_toF_vl] at hown4
        have V4 := Lib.hid (hown4.mono hwsz)
        have RA := Lib.hid (show Rd .u64 w4 (.slice (some ⟨ga, 0, none⟩) fa.length ca) (A.map vl) from (OA.out.below hbel4).rd)
        have Hb4 := Lib.hid (HB.out.trans (hbel4.mono hwsz))
        have hsz4 := Hb4.out.size
        clear hown4 hbel4
        go_wp2_with fail
        refine (normal_any (A.map vl) _ _ RA.out (B64.vl A) la3).mono ?_
        rintro e w5 ⟨va5, rfl, hown5, hbel5⟩
        rw [map_toF_vl] at hown5
        have V5 := Lib.hid (hown5.mono hsz4)
        have V4' := Lib.hid (V4.out.below hbel5)
        have Hb5 := Lib.hid (Hb4.out.trans (hbel5.mono hsz4))
        clear hown5 hbel5
        go_wp2
        go_ret3
        exact ⟨_, _, DR.out, _, _, rfl, V4'.out, V5.out, Hb5.out⟩
      | succ j =>
        rw [show ((j + 1 : Nat) : Int) - 1 = (j : Int) by omega]
        obtain ⟨c, hc⟩ : ∃ c, c = cf A (j + fb.length - 1) * inv (cf fb (fb.length - 1)) := ⟨_, rfl⟩
        have HC := Lib.hid hc
        have hca1 := OA.out.cell' LA.out (i := j + fb.length - 1) (by omega)
        have ei : ((j : Int) + (fb.length : Int) - 1).toNat = j + fb.length - 1 := by omega
        have hj : j < lq := by omega
        clear hc
        go_wp2_with fail
        refine (mul_F _ _ _).mono ?_
        rintro e w' ⟨rfl, rfl⟩
        rw [← HC.out]
        clear hca1 ei
        go_wp2_with (refine wl_store2 _ rfl (.tmp 66) (.tmp 65) rfl w.heap.size gq j lq lq q c w rfl rfl OQ.out LQ.out hj HB.out ?_)
        intro w4 hown4 hbel4 hoth4
        have OQ4 := Lib.hid hown4
        have OA4 := Lib.hid (OA.out.other hoth4 (by omega))
        have OB4 := Lib.hid (OB.out.other hoth4 (by omega))
        have HB4 := Lib.hid hbel4
        clear hown4 hbel4 hoth4 OQ OA OB HB hwsz
        go_wp2
        go_loopw [11, 12, 69] (fun _ _ t wr => DivIn w.heap.size w A q fb c j ga gb gq fa.length fb.length lq ca cb t wr) (fun _ _ t _ => fb.length - (intOf t).toNat)
        case atStart => exact ⟨0, by omega, rfl, OA4.out, OB4.out, OQ4.out, HB4.out⟩
        case round =>
          obtain ⟨t, ht, rfl, hoA, hoB, hoQ, hbel⟩ := hrel
          have OA5 := Lib.hid hoA
          have OB5 := Lib.hid hoB
          have OQ5 := Lib.hid hoQ
          have HB5 := Lib.hid hbel
          have LA5 := Lib.hid (show (subAt A c fb j t).length = fa.length by rw [subAt_len]; exact LA.out)
          have LQ5 := Lib.hid (show (q.set j c).length = lq by rw [List.length_set]; exact LQ.out)
          clear hoA hoB hoQ hbel OA4 OB4 OQ4 HB4
          by_cases htn : t < fb.length
          · have hcb := OB5.out.cell' rfl (i := t) htn
            have hca5 := OA5.out.cell' LA5.out (i := j + t) (by omega)
            have hcq5 := OQ5.out.cell' LQ5.out (i := j) hj
            rw [cf_set _ _ _ _ (by rw [LQ.out]; exact hj), if_pos rfl] at hcq5
            have ek : ((j : Int) + (t : Int)).toNat = j + t := by omega
            have ek2 : (j : Int) + (t : Int) < (fa.length : Int) := by omega
            have ew : IntKind.i64.wrap ((j : Int) + (t : Int)) = (j : Int) + (t : Int) := IntWalk.i64_in _ (by omega)
            have ew2 : (0 : Int) ≤ (j : Int) + (t : Int) := by omega
            have hjt : j + t < fa.length := by omega
            go_wp2
            go_still_tail 18, (by kernel_rfl)
            still_call (s_same (mul_F _ _ _))
            repeat still_step
            still_call (s_same (sub_F _ _ _))
            repeat still_step
            refine wpStill_nil ?_
            change wpList _ _ _ _ _ wr.drew
            clear ew ew2 ek ek2 hcb hca5 hcq5
            go_wp2_with (refine wl_store2 _ rfl (.tmp 91) (.tmp 90) rfl w.heap.size ga (j+t) fa.length ca (subAt A c fb j t) (cf (subAt A c fb j t) (j+t) - c * cf fb t) w rfl rfl (Ow.drewN OA5.out 1) LA5.out hjt (below_drewN HB5.out 1) ?_)
            intro w6 hown6 hbel6 hoth6
            have OA6 := Lib.hid hown6
            have OB6 := Lib.hid (OB5.out.other hoth6 (by omega))
            have OQ6 := Lib.hid (OQ5.out.other hoth6 (by omega))
            have HB6 := Lib.hid hbel6
            clear hown6 hbel6 hoth6
            go_wp2
            go_roundw
            case rel => exact ⟨t + 1, by omega, by go_num, OA6.out, OB6.out, OQ6.out, HB6.out⟩
            case measure => simp [intOf] <;> omega
          · obtain rfl : t = fb.length := by omega
            have hne : fb ≠ [] := by intro e; rw [e] at he; simp at he
            have DS := Lib.hid (by have h := div_step hne (by omega) Hnz.out I.out (by rw [LQ.out]; exact hj); rw [← HC.out] at h; exact h)
            clear hne
            go_wp2
            go_roundw
            case rel => exact ⟨j, _, _, by omega, by rfl, DS.out, LA5.out, LQ5.out, OA5.out, OB5.out, OQ5.out, HB5.out⟩
            case measure => simp [intOf] <;> omega
end Go.Proofs.Ytjljndnpefdifaa.Gm
