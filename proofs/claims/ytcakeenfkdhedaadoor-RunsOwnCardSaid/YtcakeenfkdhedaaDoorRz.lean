/- The walk of the law RunsOwn. (Its lines are printed by wip/mk_XRz.py.) -/
import Derived.Test.YtcakeenfkdhedaaDoorIp
import Derived.Test.YtcakeenfkdhedaaDoorSq2
import Derived.Test.YtcakeenfkdhedaaDoorTe
import Derived.Test.YtcakeenfkdhedaaDoorHe
namespace Go.Proofs.YtcakeenfkdhedaaDoor.Gm
open Go.RowKit
set_option linter.unusedVariables false
theorem ro_none (zs zx : List Int) (cut : Int) (v v2 v3 : Value) (w : World) (h : Rd .i64 w v zs) (hw : W64 zs) (hn : NoShape zs) (hT : Tb w) :
    Calls Tryd.prog 5 #[v, v2, .int .i64 cut, v3] w (RetV w (.bool true)) := by
  have CR := Lib.hid (runs_any w hT)
  have CS := Lib.hid (fun w h => shaped_no zs zx v v2 w h hw hn)
  have X := Lib.hid h
  clear h hw hn hT
  go_enter Tryd.func5, Tryd.ntmps5
  go_wp2_with fail
  refine CR.out.mono ?_
  rintro e w1 ⟨rfl, hb⟩
  have X1 := Lib.hid (X.out.below hb)
  have B1 := Lib.hid hb
  have hs1 := hb.size
  clear hb
  go_wp2_with fail
  refine (CS.out _ X1.out).mono ?_
  rintro e w3 ⟨v3, rfl, ho, hb⟩
  have B3 := Lib.hid (B1.out.trans (hb.mono hs1))
  clear ho hb
  go_wp2
  go_ret
  exact ⟨rfl, B3.out⟩
def RoA (w : World) (ll : List (List T3)) (p i : Value) (wr : World) : Prop :=
  ∃ m : Nat, m ≤ ll.length ∧ i = .int .i64 (m : Int) ∧ OP w.heap.size wr p (ll.take m) ∧ Below w.heap.size w wr
def RoB (w : World) (S : Nat → Prop) (n : Nat) (i : Value) (wr : World) : Prop :=
  ∃ m : Nat, m ≤ n ∧ i = .int .i64 (m : Int) ∧ Only S w wr ∧ KeepT w wr
structure RoP (w : World) (lo : Nat) (C C2 : Nat → Prop) (r r2 : Rn) (s s2 : RS) (M M2 : Nat → Prop) (wr : World) : Prop where
  a : RunAt wr C M r s
  b : RunAt wr C2 M2 r2 s2
  ma : ∀ k, M k → lo ≤ k
  mb : ∀ k, M2 k → lo ≤ k
  ab : ∀ k, M k → ¬ C2 k ∧ ¬ M2 k
  ba : ∀ k, M2 k → ¬ C k ∧ ¬ M k
  bel : Below lo w wr
section
variable {w wr wr' : World} {lo : Nat} {C C2 M M2 S : Nat → Prop} {r r2 : Rn} {s s2 s' : RS}
theorem RoP.news (h : RoP w lo C C2 r r2 s s2 M M2 wr) (hb : Below wr.heap.size wr wr') (hlo : lo ≤ wr.heap.size) : RoP w lo C C2 r r2 s s2 M M2 wr' :=
  ⟨h.a.bel hb, h.b.bel hb, h.ma, h.mb, h.ab, h.ba, h.bel.trans (hb.mono hlo)⟩
theorem RoP.only (h : RoP w lo C C2 r r2 s s2 M M2 wr) (ho : Only S wr wr') (hlo : lo ≤ wr.heap.size) (hS : ∀ k, S k → lo ≤ k ∧ ¬ (C k ∨ M k) ∧ ¬ (C2 k ∨ M2 k)) : RoP w lo C C2 r r2 s s2 M M2 wr' :=
  ⟨h.a.only ho (fun k hk => ⟨fun e => (hS k hk).2.1 (.inl e), fun e => (hS k hk).2.1 (.inr e)⟩), h.b.only ho (fun k hk => ⟨fun e => (hS k hk).2.2 (.inl e), fun e => (hS k hk).2.2 (.inr e)⟩), h.ma, h.mb, h.ab, h.ba, h.bel.trans (ho.below hlo (fun k hk => (hS k hk).1))⟩
theorem RoP.stepA (h : RoP w lo C C2 r r2 s s2 M M2 wr) (hlo : lo ≤ wr.heap.size) (ht : RunTo C M r s' wr wr') : ∃ M3, RoP w lo C C2 r r2 s' s2 M3 M2 wr' := by
  obtain ⟨M3, hrun, hO, hM⟩ := ht
  refine ⟨M3, hrun, h.b.only hO (fun k hk => h.ab k hk), fun k hk => ?_, h.mb, fun k hk => ?_, fun k hk => ⟨(h.ba k hk).1, fun e => ?_⟩, h.bel.trans (hO.below hlo h.ma)⟩
  · rcases hM k hk with h1 | h1
    · exact h.ma k h1
    · omega
  · rcases hM k hk with h1 | h1
    · exact h.ab k h1
    · exact ⟨fun e => by have := h.b.lt k (.inl e); omega, fun e => by have := h.b.lt k (.inr e); omega⟩
  · rcases hM k e with h1 | h1
    · exact (h.ba k hk).2 h1
    · have := h.b.lt k (.inr hk); omega
theorem RoP.flip (h : RoP w lo C C2 r r2 s s2 M M2 wr) : RoP w lo C2 C r2 r s2 s M2 M wr := ⟨h.b, h.a, h.mb, h.ma, h.ba, h.ab, h.bel⟩
end
theorem RwT.only {S : Nat → Prop} {w w' : World} {v : Value} (h : RwT w v) (ho : Only S w w') (hS : ∀ g, v.ownBlock = some g → ¬ S g) : RwT w' v := by
  rcases h with rfl | ⟨g, n, cap, cur, rfl, h1, h2, h3, h4⟩
  · exact .inl rfl
  · exact .inr ⟨g, n, cap, cur, rfl, h1.only ho (hS g rfl), h2, h3, h4⟩
/-- phases of one's own, whatever is in them: their blocks lie between lo and hi -/
structure PQ (lo hi : Nat) (w : World) (vp : Value) (vs : List Value) : Prop where
  row : w.ownsRow lo 63 1 vp vs.length vs
  up : ∀ g, vp.ownBlock = some g → g < hi
  each : ∀ (i : Nat) (u : Value), vs[i]? = some u → RwT w u ∧ ∀ g, u.ownBlock = some g → lo ≤ g ∧ g < hi ∧ vp.ownBlock ≠ some g
theorem OP.pq {lo : Nat} {w : World} {vp : Value} {ll : List (List T3)} (h : OP lo w vp ll) : ∃ vs : List Value, vs.length = ll.length ∧ PQ lo w.heap.size w vp vs := by
  obtain ⟨vs, p1, p2, p3⟩ := h
  refine ⟨vs, p2, by rw [p2]; exact p1, fun g hg => (World.ownsRow.lt p1 g hg).2, fun i u hu => ⟨(p3 i u hu).rwT, fun g hg => ?_⟩⟩
  have h1 := World.ownsRow.lt (p3 i u hu) g hg
  refine ⟨h1.1, h1.2, fun e => ?_⟩
  rcases (p3 i u hu).2 with ⟨rfl, _⟩ | ⟨g', cap, cur, rfl, _, hb, _⟩
  · cases hg
  · injection hg with hg
    subst hg
    exact own_blk_ne p1 (show Blk w g' 56 cur from hb) (by decide) e
theorem PQ.only {S : Nat → Prop} {lo hi : Nat} {w w' : World} {vp : Value} {vs : List Value} (h : PQ lo hi w vp vs) (ho : Only S w w') (hS : ∀ k, S k → k < lo ∨ hi ≤ k) : PQ lo hi w' vp vs :=
  ⟨own_only h.row ho (fun k hk hs => by have := (World.ownsRow.lt h.row k hk).1; have := h.up k hk; have := hS k hs; omega), h.up,
    fun i u hu => ⟨(h.each i u hu).1.only ho (fun g hg hs => by have := (h.each i u hu).2 g hg; have := hS g hs; omega), (h.each i u hu).2⟩⟩
theorem PQ.bel {lo hi : Nat} {w w' : World} {vp : Value} {vs : List Value} (h : PQ lo hi w vp vs) (hb : Below w.heap.size w w') : PQ lo hi w' vp vs :=
  ⟨own_only h.row (Only.of_below (S := fun _ => False) hb (fun k hk hk' => by omega)) (fun _ _ e => e), h.up,
    fun i u hu => ⟨(h.each i u hu).1.only (Only.of_below (S := fun _ => False) hb (fun k hk hk' => by omega)) (fun _ _ e => e), (h.each i u hu).2⟩⟩
theorem PQ.opened {lo hi : Nat} {w : World} {vp : Value} {vs : List Value} (h : PQ lo hi w vp vs) (hn : 1 ≤ vs.length) : ∃ g cap, vp = .slice (some ⟨g, 0, none⟩) vs.length cap ∧ vs.length ≤ cap ∧ cap ≤ 9223372036854775807 := by
  obtain ⟨a, cap, e, h1, h2, h3⟩ := own_shape h.row
  obtain ⟨g, rfl⟩ := h3 (by omega)
  exact ⟨g, cap, e, h1, h2⟩
def RoC (w : World) (lo : Nat) (C C2 : Nat → Prop) (r r2 : Rn) (st : Nat → RS) (n : Nat) (i : Value) (wr : World) : Prop :=
  ∃ (m : Nat) (M M2 : Nat → Prop), m ≤ n ∧ i = .int .i64 (m : Int) ∧ RoP w lo C C2 r r2 (st m) (st m) M M2 wr
set_option maxHeartbeats 4000000 in
set_option maxRecDepth 100000 in
theorem ro_some (ks : List Nat) (zx : List Int) (cut : Int) (lp : List (Int × Int)) (v v2 v3 : Value) (w : World) (h : Rd .i64 w v (zi (szs ks))) (h2 : Rd .u64 w v2 zx) (h3 : Rpi w v3 lp) (hw : W64 (zi (szs ks))) (hc2 : cut ≤ 9223372036854775807) (hs : Shp (szs ks)) (h64 : pr (szs ks) ≤ 64) (hy : B64 zx) (hT : Tb w) :
    Calls Tryd.prog 5 #[v, v2, .int .i64 cut, v3] w (RetV w (.bool true)) := by
  have X := Lib.hid h
  have Y := Lib.hid h2
  have TW := Lib.hid hT
  have CR := Lib.hid (runs_any w hT)
  have hN0 : 1 ≤ ks.length := by have := hs.len0; rwa [szs_len] at this
  have hN3 : ks.length ≤ 3 := by have := hs.len3; rwa [szs_len] at this
  obtain ⟨A, hA⟩ : ∃ A, A = siz zx (pr (szs ks)) := ⟨_, rfl⟩
  have lA : A.length = pk ks := by rw [hA, siz_len]; rfl
  have bA : B64 A := by rw [hA]; exact siz_64 hy _
  have HLA := Lib.hid lA
  have HBA := Lib.hid bA
  have HW := Lib.hid hw
  have H64 := Lib.hid (show pk ks ≤ 64 from h64)
  have CS := Lib.hid (fun w v v2 h h2 => by have := shaped_yes (szs ks) zx v v2 w h h2 hw hs h64; rwa [← hA] at this)
  have CM1 := Lib.hid (fun (hz : cut < 1) w v h => make_cut (szs ks) cut v w h hw hs hz)
  have CM2 := Lib.hid (fun (hz : 1 ≤ cut) w v h => make_gl ks cut v w h hw hs h64 hz hc2)
  have HGL := Lib.hid (fun (hz : 1 ≤ cut) => gl_phs (cut := cut) hs h64 hz)
  have HPL := Lib.hid (phs_len (szs ks) cut ks.length)
  obtain ⟨a3, q3, b3, o3, rfl, hk3, hm3, hx3, hc3⟩ := h3
  have HC3 := Lib.hid hc3
  obtain ⟨np, hnp⟩ : ∃ n, n = lp.length := ⟨_, rfl⟩
  have HNP := Lib.hid hnp
  rw [← hnp] at hk3 hx3 ⊢
  generalize phs (szs ks) cut ks.length = ll at *
  clear h h2 hT hs hw h64 hA lA bA hy hc2 hc3 hnp
  go_enter Tryd.func5, Tryd.ntmps5
  go_wp2_with fail
  refine CR.out.mono ?_
  rintro e w1 ⟨rfl, hb⟩
  have X1 := Lib.hid (X.out.below hb)
  have Y1 := Lib.hid (Y.out.below hb)
  have B1 := Lib.hid hb
  have hs1 := hb.size
  clear hb X Y CR
  go_wp2_with fail
  refine (CS.out _ _ _ X1.out Y1.out).mono ?_
  rintro e w3 ⟨v3, rfl, ho, hb⟩
  have X3 := Lib.hid (X1.out.below hb)
  have B3 := Lib.hid (B1.out.trans (hb.mono hs1))
  have hs3 := B3.out.size
  have A3 := Lib.hid (Oz.rd ho)
  clear ho hb X1 Y1 B1 CS
  by_cases hp300 : np ≤ 200
  rotate_left
  · have g1 : decide ((200 : Int) < (np : Int)) = true := decide_eq_true (by omega)
    have g2 : decide (200 < np) = true := decide_eq_true (by omega)
    go_wp2
    go_ret
    exact ⟨rfl, B3.out⟩
  have g1 : decide ((200 : Int) < (np : Int)) = false := decide_eq_false (by omega)
  have g2 : decide (200 < np) = false := decide_eq_false (by omega)
  by_cases hz : 1 ≤ cut
  rotate_left
  · go_wp2_with fail
    refine (CM1.out (by omega) _ _ X3.out).mono ?_
    rintro e w4 ⟨v4, rfl, ho, hb⟩
    have B4 := Lib.hid (B3.out.trans (hb.mono hs3))
    obtain ⟨_, _, rfl, _⟩ := ho.shape
    clear ho hb
    go_wp2
    go_ret
    exact ⟨rfl, B4.out⟩
  clear CM1
  have HG := Lib.hid (HGL.out hz)
  go_wp2_with fail
  refine (CM2.out hz _ _ X3.out).mono ?_
  rintro e w4 ⟨v4, rfl, ho, hb⟩
  have X4 := Lib.hid (X3.out.below hb)
  have A4 := Lib.hid (A3.out.below hb)
  have B4 := Lib.hid (B3.out.trans (hb.mono hs3))
  have hs4 := B4.out.size
  have P4 := Lib.hid ho
  obtain ⟨gP, cP, rfl, hcP1, hcP2⟩ := P4.out.opened (by rw [HPL.out]; exact hN0)
  rw [HPL.out] at hcP1 P4 ⊢
  clear ho hb X3 A3 B3 CM2 g1 g2

  go_wp2_with fail
  refine (cloneU_any A _ w4 A4.out (by rw [HLA.out]; have := H64.out; omega)).mono ?_
  rintro e w5 ⟨v5, rfl, ho, hb⟩
  have N5 := Lib.hid ho
  have HNB := Lib.hid (show ∀ g, v5.ownBlock = some g → w4.heap.size ≤ g ∧ g < w5.heap.size from fun g hg => World.ownsRow.lt ho g hg)
  have X5 := Lib.hid (X4.out.below hb)
  have A5 := Lib.hid (A4.out.below hb)
  have P5 := Lib.hid (P4.out.below hb)
  have B5 := Lib.hid (B4.out.trans (hb.mono hs4))
  have hs5 := hb.size
  clear ho hb X4 A4 P4
  go_wp2_with fail
  refine (cloneI_any (zi (szs ks)) _ w5 X5.out (by rw [zi_len, szs_len]; omega)).mono ?_
  rintro e w6 ⟨v6, rfl, ho, hb⟩
  have S6 := Lib.hid ho
  have HSB := Lib.hid (show ∀ g, v6.ownBlock = some g → w5.heap.size ≤ g ∧ g < w6.heap.size from fun g hg => World.ownsRow.lt ho g hg)
  have N6 := Lib.hid (N5.out.below hb)
  have X6 := Lib.hid (X5.out.below hb)
  have A6 := Lib.hid (A5.out.below hb)
  have P6 := Lib.hid (P5.out.below hb)
  have B6 := Lib.hid (B5.out.trans (hb.mono B5.out.size))
  have hs6 := hb.size
  have hs06 := B6.out.size
  clear ho hb N5 X5 A5 P5 B5
  go_wp2
  go_loopw [15, 17, 54] (fun p _ i wr => RoA w6 ll p i wr) (fun _ _ i _ => ks.length - (intOf i).toNat)
  case atStart => exact ⟨0, by omega, rfl, by rw [List.take_zero]; exact OP.nil _ _, Below.refl _ _⟩
  case round =>
    obtain ⟨m, hm, rfl, hop, hb⟩ := hrel
    rw [HPL.out] at hm
    have OO := Lib.hid hop
    have BQ := Lib.hid hb
    have hsq := hb.size
    clear hop hb
    by_cases hmN : m < ks.length
    · obtain ⟨u, hcu, hou⟩ := OP.at P6.out (i := m) (by rw [HPL.out]; exact hmN)
      have cu := cell_below BQ.out hcu
      have hle := HG.out.le m (by rw [HPL.out]; exact hmN)
      have hpos := HG.out.pos (x := m) (by rw [HPL.out]; exact hmN)
      have hrk := (hou.below BQ.out).rk
      obtain ⟨ua, uc, un, rfl, hun, hu1, hu2, hu3⟩ := hou.shapeN
      obtain ⟨ug, rfl⟩ := hu3 (by omega)
      have CC := Lib.hid (cloneP_any (pg ll m) _ _ hrk (fun c e => by cases e) (by omega))
      have HTK := Lib.hid (show ll.take (m + 1) = ll.take m ++ [pg ll m] from by rw [List.take_succ_eq_append_getElem (by rw [HPL.out]; exact hmN), pg_lt (by rw [HPL.out]; exact hmN)])
      have HTL := Lib.hid (show (ll.take m).length ≤ 1000000 from by rw [List.length_take, HPL.out]; omega)
      clear hou hcu hrk hun
      go_wp2_with fail
      refine CC.out.mono ?_
      rintro e w7 ⟨v7, rfl, ho, hb⟩
      obtain ⟨a7, q7, rfl, _⟩ := ho.shape
      have U7 := Lib.hid (ho.mono hsq)
      have OO7 := Lib.hid (OO.out.below hb)
      have B7 := Lib.hid (BQ.out.trans (hb.mono hsq))
      have hs7 := B7.out.size
      clear ho hb CC OO
      go_wp2_with (at_builtin; refine wl_appP _ rfl (.tmp 58) (.tmp 61) rfl w6.heap.size _ (ll.take m) _ (pg ll m) w6 rfl rfl OO7.out U7.out B7.out hs7 HTL.out ?_)
      intro v8 w8 hop hb8
      rw [← HTK.out] at hop
      have O8 := Lib.hid hop
      have B8 := Lib.hid hb8
      clear hop hb8 OO7 U7 B7
      go_wp2
      go_roundw
      case rel => exact ⟨m + 1, by rw [HPL.out]; omega, by go_num, O8.out, B8.out⟩
      case measure => simp [intOf] <;> omega
    · obtain rfl : ks.length = m := by omega
      have htk : ll.take ks.length = ll := List.take_of_length_le (by rw [HPL.out]; omega)
      rw [htk] at OO
      have S7 := Lib.hid (S6.out.below BQ.out)
      have N7 := Lib.hid (N6.out.below BQ.out)
      have X7 := Lib.hid (X6.out.below BQ.out)
      have A7 := Lib.hid (A6.out.below BQ.out)
      have P7 := Lib.hid (P6.out.below BQ.out)
      have hs07 : w.heap.size ≤ wr.heap.size := by omega
      have B7 := Lib.hid (B6.out.trans (BQ.out.mono hs06))
      obtain ⟨w7, hw7⟩ : ∃ w7, w7 = wr := ⟨_, rfl⟩
      rw [← hw7] at S7 N7 X7 A7 P7 OO hsq hs07 B7 ⊢
      clear htk BQ S6 N6 X6 A6 P6 B6 hm hmN hw7
      obtain ⟨vs, hvs, hpq⟩ := OO.out.pq
      have HVS := Lib.hid (show vs.length = ks.length from hvs.trans HPL.out)
      have PQ7 := Lib.hid hpq
      clear hvs hpq
      have CN := Lib.hid (xnew_ok ks ll A 3 false _ _ _ w7 S7.out.rd N7.out.rd OO.out.rps HW.out HG.out HLA.out (by omega) (by omega))
      go_wp2_with fail
      refine CN.out.mono ?_
      rintro e w8 ⟨r, C, M, rfl, hrun, hrW, hbk, hks, hll, hCM, hb⟩
      have R8 := Lib.hid hrun
      have HR1 := Lib.hid (show r.back = false ∧ r.ks = ks ∧ r.W = 3 ∧ r.ll = ll from ⟨hbk, hks, hrW, hll⟩)
      have HC1 := Lib.hid hCM
      have S8 := Lib.hid (S7.out.below hb)
      have N8 := Lib.hid (N7.out.below hb)
      have X8 := Lib.hid (X7.out.below hb)
      have A8 := Lib.hid (A7.out.below hb)
      have P8 := Lib.hid (P7.out.below hb)
      have PQ8 := Lib.hid (PQ7.out.bel hb)
      have B8 := Lib.hid (B7.out.trans (hb.mono hs07))
      have hs8 := hb.size
      clear hrun hrW hbk hks hll hCM hb CN S7 N7 X7 A7 P7 OO B7 PQ7
      have CN := Lib.hid (xnew_ok ks ll A 3 false _ _ _ w8 X8.out A8.out P8.out.rps HW.out HG.out HLA.out (by omega) (by omega))
      go_wp2_with fail
      refine CN.out.mono ?_
      rintro e w9 ⟨r2, C2, M2, rfl, hrun, hrW, hbk, hks, hll, hCM, hb⟩
      have R9 := Lib.hid (R8.out.bel hb)
      have Q9 := Lib.hid hrun
      have HR2 := Lib.hid (show r2.back = false ∧ r2.ks = ks ∧ r2.W = 3 ∧ r2.ll = ll from ⟨hbk, hks, hrW, hll⟩)
      have HC2 := Lib.hid hCM
      have HLT := Lib.hid (R8.out.lt)
      have S9 := Lib.hid (S8.out.below hb)
      have N9 := Lib.hid (N8.out.below hb)
      have X9 := Lib.hid (X8.out.below hb)
      have A9 := Lib.hid (A8.out.below hb)
      have PQ9 := Lib.hid (PQ8.out.bel hb)
      have hs08 := B8.out.size
      have B9 := Lib.hid (B8.out.trans (hb.mono hs08))
      have hs9 := hb.size
      clear hrun hrW hbk hks hll hCM hb CN S8 N8 X8 A8 P8 PQ8 B8 R8
      have RP := Lib.hid (show RoP w9 w4.heap.size C C2 r r2 (st0 3 ll A) (st0 3 ll A) M M2 w9 from ⟨R9.out, Q9.out, fun k hk => by have := HC1.out k (.inr hk); omega, fun k hk => by have := HC2.out k (.inr hk); omega,
        fun k hk => ⟨fun h => by have := HLT.out k (.inr hk); have := HC2.out k (.inl h); omega, fun h => by have := HLT.out k (.inr hk); have := HC2.out k (.inr h); omega⟩,
        fun k hk => ⟨fun h => by have := HLT.out k (.inl h); have := HC2.out k (.inr hk); omega, fun h => by have := HLT.out k (.inr h); have := HC2.out k (.inr hk); omega⟩, Below.refl _ _⟩)
      obtain ⟨R, hR⟩ : ∃ R, R = r.R := ⟨_, rfl⟩
      obtain ⟨R2, hR2⟩ : ∃ R, R = r2.R := ⟨_, rfl⟩
      have HRR := Lib.hid hR
      have HRR2 := Lib.hid hR2
      rw [← hR, ← hR2]
      clear hR hR2 R9 Q9
      go_wp2_with fail
      refine (equal_yes A _ _ _ N9.out.rd A9.out).mono ?_
      rintro e w10 ⟨rfl, hb⟩
      have S10 := Lib.hid (S9.out.below hb)
      have N10 := Lib.hid (N9.out.below hb)
      have X10 := Lib.hid (X9.out.below hb)
      have PQ10 := Lib.hid (PQ9.out.bel hb)
      have hs09 := B9.out.size
      have RP10 := Lib.hid (RP.out.news hb (by omega))
      have B10 := Lib.hid (B9.out.trans (hb.mono hs09))
      have hs10 := hb.size
      clear hb S9 N9 X9 A9 PQ9 RP B9
      go_wp2_with fail
      refine (equalI_yes (zi (szs ks)) _ _ _ S10.out.rd X10.out).mono ?_
      rintro e w11 ⟨rfl, hb⟩
      have S11 := Lib.hid (S10.out.below hb)
      have N11 := Lib.hid (N10.out.below hb)
      have PQ11 := Lib.hid (PQ10.out.bel hb)
      have RP11 := Lib.hid (RP10.out.news hb (by omega))
      have hs010 := B10.out.size
      have B11 := Lib.hid (B10.out.trans (hb.mono hs010))
      have hs11 := hb.size
      clear hb S10 N10 X10 PQ10 RP10 B10
      -- what was handed in is spoilt
      have HSP := Lib.hid (show ∀ k, w4.heap.size ≤ k → k < w7.heap.size → w4.heap.size ≤ k ∧ ¬ (C k ∨ M k) ∧ ¬ (C2 k ∨ M2 k) from fun k h1 h2 => ⟨h1, fun h => by have := HC1.out k h; omega, fun h => by have := HC2.out k h; omega⟩)
      go_wp2_with fail
      refine (spoilU _ _ _ v5 5 w11 N11.out).mono ?_
      rintro e w12 ⟨rfl, ho⟩
      have S12 := Lib.hid (S11.out.only ho (fun k hk e => by have := HNB.out k e; have := HSB.out k hk; omega))
      have PQ12 := Lib.hid (PQ11.out.only ho (fun k e => by have := HNB.out k e; omega))
      have RP12 := Lib.hid (RP11.out.only ho (by omega) (fun k e => by have := HNB.out k e; exact HSP.out k (by omega) (by omega)))
      have hs011 := B11.out.size
      have B12 := Lib.hid (B11.out.trans (ho.below hs011 (fun k e => by have := HNB.out k e; omega)))
      have hs12 := ho.size
      clear ho N11 S11 PQ11 RP11 B11
      go_wp2_with fail
      refine (spoilI _ _ _ v6 1 w12 S12.out).mono ?_
      rintro e w13 ⟨rfl, ho⟩
      have PQ13 := Lib.hid (PQ12.out.only ho (fun k e => by have := HSB.out k e; omega))
      have RP13 := Lib.hid (RP12.out.only ho (by omega) (fun k e => by have := HSB.out k e; exact HSP.out k (by omega) (by omega)))
      have hs012 := B12.out.size
      have B13 := Lib.hid (B12.out.trans (ho.below hs012 (fun k e => by have := HSB.out k e; omega)))
      have hs13 := ho.size
      have hs013 := B13.out.size
      clear ho S12 PQ12 RP12 B12 HNB HSB
      obtain ⟨gp, cp, rfl, hcp1, hcp2⟩ := PQ13.out.opened (by rw [HVS.out]; exact hN0)
      rw [HVS.out] at hcp1
      have HPS := Lib.hid (show Value.slice (some ⟨gp, 0, none⟩) vs.length cp = Value.slice (some ⟨gp, 0, none⟩) ks.length cp by rw [HVS.out])
      rw [HPS.out]
      obtain ⟨SS, hSS⟩ : ∃ SS : Nat → Prop, SS = fun k => w6.heap.size ≤ k ∧ k < w7.heap.size ∧ some gp ≠ some k := ⟨_, rfl⟩
      have HSS := Lib.hid hSS
      clear hSS
      have HGP := Lib.hid (PQ13.out.up gp rfl)
      go_wp2
      go_loopw [22, 102] (fun _ i wr => RoB w13 SS ks.length i wr) (fun _ i _ => ks.length - (intOf i).toNat)
      case atStart => exact ⟨0, by omega, rfl, Only.refl _ _, KeepT.refl _⟩
      case round =>
        obtain ⟨m, hm, rfl, ho, hk⟩ := hrel
        have HO := Lib.hid ho
        have HK := Lib.hid hk
        clear ho hk
        have ROW := Lib.hid (own_only PQ13.out.row HO.out (fun k hk hs => by rw [HSS.out] at hs; exact hs.2.2 hk))
        by_cases hmN : m < ks.length
        · obtain ⟨u, hu⟩ : ∃ u, vs[m]? = some u := ⟨_, List.getElem?_eq_getElem (by rw [HVS.out]; exact hmN)⟩
          have cu : wr.cell? ⟨gp, m, none⟩ = some u := by
            rw [World.ownsRow.cellAt ROW.out m (by rw [Nat.mul_one, HVS.out]; exact hmN), hu]
          have HE := PQ13.out.each m u hu
          have HRT := Lib.hid (HK.out.rw_ HE.1)
          have HEB := Lib.hid (show ∀ g, u.ownBlock = some g → SS g from fun g hg => by rw [HSS.out]; exact HE.2 g hg)
          have hsu : ∃ a n c, u = .slice a n c := by
            rcases HE.1 with rfl | ⟨g, n, c, _, rfl, _⟩
            · exact ⟨_, _, _, rfl⟩
            · exact ⟨_, _, _, rfl⟩
          obtain ⟨ua, un, uc, rfl⟩ := hsu
          clear hu HE ROW
          have CS := Lib.hid (spoilT (.slice ua un uc) 0 0 0 wr HRT.out)
          go_wp2_with fail
          refine CS.out.mono ?_
          rintro e w14 ⟨rfl, ho, hk⟩
          have HO2 := Lib.hid (HO.out.trans2 ho (fun k _ e => HEB.out k e))
          have HK2 := Lib.hid (HK.out.trans hk)
          clear ho hk CS HRT HEB cu
          go_wp2
          go_roundw
          case rel => exact ⟨m + 1, by omega, by go_num, HO2.out, HK2.out⟩
          case measure => simp [intOf] <;> omega
        · obtain rfl : ks.length = m := by omega
          have RP14 := Lib.hid (RP13.out.only HO.out (by omega) (fun k e => by rw [HSS.out] at e; exact HSP.out k (by omega) (by omega)))
          have B14 := Lib.hid (B13.out.trans (HO.out.below hs013 (fun k e => by rw [HSS.out] at e; omega)))
          have hs14 := HO.out.size
          have hs014 := B14.out.size
          obtain ⟨w14, hw14⟩ : ∃ w14, w14 = wr := ⟨_, rfl⟩
          rw [HPS.out, HVS.out] at ROW
          rw [← hw14] at ROW RP14 B14 hs14 hs014 ⊢
          clear hw14 HO HK PQ13 RP13 B13 hm hmN
          have CS := Lib.hid (spoilP _ _ _ _ w14 ROW.out)
          have HLO := Lib.hid (World.ownsRow.lt ROW.out gp rfl)
          go_wp2_with fail
          refine CS.out.mono ?_
          rintro e w15 ⟨rfl, ho⟩
          have RP15 := Lib.hid (RP14.out.only ho (by omega) (fun k e => by have e2 : gp = k := Option.some.inj e; rw [← e2]; exact HSP.out gp (by have := HLO.out.1; omega) HGP.out))
          have B15 := Lib.hid (B14.out.trans (ho.below hs014 (fun k e => by have e2 : gp = k := Option.some.inj e; rw [← e2]; have := HLO.out.1; omega)))
          have hs015 := B15.out.size
          clear ho CS ROW RP14 B14
          have hs415 := RP15.out.bel.size
          have RQ := Lib.hid (show RoP w15 w4.heap.size C C2 r r2 (st0 3 ll A) (st0 3 ll A) M M2 w15 from ⟨RP15.out.a, RP15.out.b, RP15.out.ma, RP15.out.mb, RP15.out.ab, RP15.out.ba, Below.refl _ _⟩)
          have RI0 := Lib.hid (show RI false ks A 3 ll (st0 3 ll A) from st0_inv HG.out HLA.out (by omega) (by rw [HPL.out]; exact hN0))
          have TLT := Lib.hid (show 3 < w.heap.size from World.block_lt_of_cell? w ⟨3, 0, none⟩ (TW.out 0 (by omega)))
          have CST1 := Lib.hid (fun (wr : World) (s : RS) (M' : Nat → Prop) (p : Int × Int) (h : RunAt wr C M' r s) (hI : RI false ks A 3 ll s) (hT : Tb wr) (hM : ∀ k, M' k → w4.heap.size ≤ k) => (show Calls Tryd.prog 20 #[.pointer (some ⟨r.R, 0, none⟩), pkv p.1 p.2] wr fun e w' => e = .returned (.int .i64 (stXE 3 ll s p)) ∧ RunTo C M' r (stXP false ks 3 ll s p) wr w' from by
            obtain ⟨e1, e2, e3, e4⟩ := HR1.out
            have := xstep_any r s A C M' wr p h (by rw [e1, e2, e3, e4]; exact hI) (by rw [e2, e4]; exact HG.out) (by rw [e2]; exact HLA.out) HBA.out (by rw [e2]; exact HW.out) hT (fun h => by have := hM _ h; have := TLT.out; omega) (by rw [e3]; omega) (by rw [e3]; omega)
            rw [e1, e2, e3, e4] at this
            exact this))
          have CST2 := Lib.hid (fun (wr : World) (s : RS) (M' : Nat → Prop) (p : Int × Int) (h : RunAt wr C2 M' r2 s) (hI : RI false ks A 3 ll s) (hT : Tb wr) (hM : ∀ k, M' k → w4.heap.size ≤ k) => (show Calls Tryd.prog 20 #[.pointer (some ⟨r2.R, 0, none⟩), pkv p.1 p.2] wr fun e w' => e = .returned (.int .i64 (stXE 3 ll s p)) ∧ RunTo C2 M' r2 (stXP false ks 3 ll s p) wr w' from by
            obtain ⟨e1, e2, e3, e4⟩ := HR2.out
            have := xstep_any r2 s A C2 M' wr p h (by rw [e1, e2, e3, e4]; exact hI) (by rw [e2, e4]; exact HG.out) (by rw [e2]; exact HLA.out) HBA.out (by rw [e2]; exact HW.out) hT (fun h => by have := hM _ h; have := TLT.out; omega) (by rw [e3]; omega) (by rw [e3]; omega)
            rw [e1, e2, e3, e4] at this
            exact this))
          clear RP15 HSP HC1 HC2 HLT HSS HPS HVS HGP
          go_wp2
          go_loopw [24, 114] (fun _ i wr => RoC w15 w4.heap.size C C2 r r2 (fun m => runP false ks 3 ll (st0 3 ll A) (lp.take m)) np i wr) (fun _ i _ => np - (intOf i).toNat)
          case atStart => exact ⟨0, M, M2, by omega, rfl, RQ.out⟩
          case round =>
            obtain ⟨m, Ma, Mb, hm, rfl, hP⟩ := hrel
            have IW := Lib.hid (runP_inv HG.out HLA.out (by omega) (lp.take m) RI0.out)
            have hP : RoP w15 w4.heap.size C C2 r r2 (runP false ks 3 ll (st0 3 ll A) (lp.take m)) (runP false ks 3 ll (st0 3 ll A) (lp.take m)) Ma Mb wr := hP
            have HP := Lib.hid hP
            have hlo : w4.heap.size ≤ wr.heap.size := by have := hP.bel.size; omega
            have hbw := B15.out.trans (hP.bel.mono hs4)
            have BW := Lib.hid hbw
            clear hP hbw
            by_cases hml : m < np
            · obtain rfl := hx3.resolve_left (by omega)
              obtain ⟨c0, c1⟩ := HC3.out m (by rw [← HNP.out]; exact hml)
              have c0 := (BW.out.cell (p := ⟨b3, _, none⟩) (World.block_lt_of_cell? w _ c0)).trans c0
              have c1 := (BW.out.cell (p := ⟨b3, _, none⟩) (World.block_lt_of_cell? w _ c1)).trans c1
              have HTK := Lib.hid (take_kp (l := lp) (i := m) (by rw [← HNP.out]; exact hml))
              have hal := (Below.refl wr.heap.size wr).alloc (Nat.le_refl _) (.cells #[.int .i64 (kp lp m).1, .int .i64 (kp lp m).2] 43)
              have KP := Blk.new wr 43 #[.int .i64 (kp lp m).1, .int .i64 (kp lp m).2]
              have P1 := Lib.hid (HP.out.news hal hlo)
              have T1 := Lib.hid ((TW.out.below BW.out).below hal)
              have HMA := Lib.hid (show ∀ k, Ma k → k < wr.heap.size from fun k hk => HP.out.a.lt k (.inr hk))
              have hz1 : (wr.alloc (.cells #[.int .i64 (kp lp m).1, .int .i64 (kp lp m).2] 43)).heap.size = wr.heap.size + 1 := by simp
              have HZ1 := Lib.hid hz1
              have CS := Lib.hid (CST1.out _ _ Ma (kp lp m) P1.out.a IW.out T1.out P1.out.ma)
              have KP1 := Lib.hid KP
              clear hal KP hz1
              obtain ⟨s7, hs7⟩ : ∃ s7, s7 = stXP false ks 3 ll (runP false ks 3 ll (st0 3 ll A) (lp.take m)) (kp lp m) := ⟨_, rfl⟩
              have I7 := Lib.hid (show RI false ks A 3 ll s7 from by rw [hs7]; exact stXP_inv HG.out HLA.out (by omega) IW.out _)
              have HS7 := Lib.hid (show runP false ks 3 ll (st0 3 ll A) (lp.take (m + 1)) = s7 from by rw [HTK.out, runP_snoc, hs7])
              have CS2 := Lib.hid (fun wr M' h hT hM => CST2.out wr (runP false ks 3 ll (st0 3 ll A) (lp.take m)) M' (kp lp m) h IW.out hT hM)
              rw [← HRR.out, ← hs7] at CS
              rw [← HRR2.out, ← hs7] at CS2
              clear hs7 HP
              unfold pkv at CS CS2
              generalize kp lp m = p at *
              obtain ⟨p1, p2⟩ := p
              simp only at c0 c1 CS CS2 KP1 P1 T1 HZ1
              generalize runP false ks 3 ll (st0 3 ll A) (lp.take m) = s6 at *
              go_wp2_with fail
              refine CS.out.mono ?_
              rintro e w16 ⟨rfl, ht⟩
              obtain ⟨bp, hbp⟩ : ∃ bp, bp = wr.heap.size := ⟨_, rfl⟩
              have HBP := Lib.hid hbp
              rw [← hbp] at KP1 HMA HZ1 hlo ⊢
              clear hbp
              obtain ⟨M3, hP2⟩ := P1.out.stepA (by rw [HZ1.out]; omega) ht
              obtain ⟨_, _, hO, _⟩ := ht
              have K2 := Lib.hid (KP1.out.only hO (fun h => by have := HMA.out _ h; omega))
              have P2 := Lib.hid hP2
              have T2 := Lib.hid (T1.out.only hO (fun h => by have := P1.out.ma _ h; have := TLT.out; omega))
              clear hO hP2 CS KP1 P1 T1 c0 c1 HMA HZ1
              have b0 : w16.cell? ⟨bp, 0, none⟩ = some (.int .i64 p1) := K2.out.cell 0
              have b1 : w16.cell? ⟨bp, 1, none⟩ = some (.int .i64 p2) := K2.out.cell 1
              have CSb := Lib.hid (CS2.out w16 Mb P2.out.b T2.out P2.out.mb)
              go_wp2_with fail
              refine CSb.out.mono ?_
              rintro e w17 ⟨rfl, ht⟩
              obtain ⟨M4, hP3⟩ := P2.out.flip.stepA (by have := P2.out.bel.size; omega) ht
              have P3 := Lib.hid hP3.flip
              clear hP3 ht CSb CS2 K2 P2 T2 b0 b1
              have hlo17 : w4.heap.size ≤ w17.heap.size := by have := P3.out.bel.size; omega
              have CA := Lib.hid (xarray_any r s7 C M3 w17 P3.out.a (by rw [I7.out.arlen HLA.out]; have := H64.out; omega))
              rw [← HRR.out] at CA
              go_wp2_with fail
              refine CA.out.mono ?_
              rintro e w18 ⟨va, rfl, ho, hb⟩
              have CS5 := Lib.hid (spoilU _ _ _ va 6 w18 ho)
              have HV := Lib.hid (show ∀ k, va.ownBlock = some k → w17.heap.size ≤ k from fun k hk => (World.ownsRow.lt ho k hk).1)
              have HB := Lib.hid hb
              clear ho hb CA
              go_wp2_with fail
              refine CS5.out.mono ?_
              rintro e w19 ⟨rfl, ho⟩
              have P4 := Lib.hid (P3.out.news (HB.out.trans (ho.below HB.out.size (fun k hk => HV.out k hk))) hlo17)
              clear ho CS5 HV HB P3 hlo17
              have hlo19 : w4.heap.size ≤ w19.heap.size := by have := P4.out.bel.size; omega
              have CL := Lib.hid (xlog_any r s7 C M3 w19 P4.out.a (I7.out.log_le HG.out))
              rw [← HRR.out] at CL
              go_wp2_with fail
              refine CL.out.mono ?_
              rintro e w20 ⟨vg, rfl, ho, hb⟩
              have CS6 := Lib.hid (spoilT vg 2 0 0 w20 ho.rwT)
              have HV := Lib.hid (show ∀ k, vg.ownBlock = some k → w19.heap.size ≤ k from fun k hk => (World.ownsRow.lt ho k hk).1)
              have HB := Lib.hid hb
              clear ho hb CL
              go_wp2_with fail
              refine CS6.out.mono ?_
              rintro e w21 ⟨rfl, ho, _⟩
              have P5 := Lib.hid (P4.out.news (HB.out.trans (ho.below HB.out.size (fun k hk => HV.out k hk))) hlo19)
              clear ho CS6 HV HB P4 hlo19
              go_wp2
              go_roundw
              case rel =>
                refine ⟨m + 1, M3, M4, by omega, by go_num, ?_⟩
                show RoP w15 w4.heap.size C C2 r r2 (runP false ks 3 ll (st0 3 ll A) (lp.take (m + 1))) (runP false ks 3 ll (st0 3 ll A) (lp.take (m + 1))) M3 M4 _
                rw [HS7.out]
                exact P5.out
              case measure => simp [intOf] <;> omega
            · obtain rfl : np = m := by omega
              generalize runP false ks 3 ll (st0 3 ll A) (lp.take np) = s6 at *
              have HAL := Lib.hid (show s6.ar.length ≤ 1000000 by rw [IW.out.arlen HLA.out]; have := H64.out; omega)
              have HLL := Lib.hid (IW.out.log_le HG.out)
              have CA := Lib.hid (xarray_any r s6 C Ma wr HP.out.a HAL.out)
              rw [← HRR.out] at CA
              go_wp2_with fail
              refine CA.out.mono ?_
              rintro e w16 ⟨va, rfl, ho, hb⟩
              have OA := Lib.hid ho.rd
              have P1 := Lib.hid (HP.out.news hb hlo)
              clear ho hb CA HP hlo
              have hlo16 : w4.heap.size ≤ w16.heap.size := by have := P1.out.bel.size; omega
              have CA := Lib.hid (xarray_any r2 s6 C2 Mb w16 P1.out.b HAL.out)
              rw [← HRR2.out] at CA
              go_wp2_with fail
              refine CA.out.mono ?_
              rintro e w17 ⟨vb, rfl, ho, hb⟩
              have OB := Lib.hid ho.rd
              have OA2 := Lib.hid (OA.out.below hb)
              have P2 := Lib.hid (P1.out.news hb hlo16)
              clear ho hb CA P1 OA hlo16
              have hlo17 : w4.heap.size ≤ w17.heap.size := by have := P2.out.bel.size; omega
              go_wp2_with fail
              refine (equal_yes _ _ _ _ OA2.out OB.out).mono ?_
              rintro e w18 ⟨rfl, hb⟩
              have P3 := Lib.hid (P2.out.news hb hlo17)
              clear hb OA2 OB P2 hlo17
              have hlo18 : w4.heap.size ≤ w18.heap.size := by have := P3.out.bel.size; omega
              have CL := Lib.hid (xlog_any r s6 C Ma w18 P3.out.a HLL.out)
              rw [← HRR.out] at CL
              go_wp2_with fail
              refine CL.out.mono ?_
              rintro e w19 ⟨vc, rfl, ho, hb⟩
              have OC := Lib.hid ho.rk
              have P4 := Lib.hid (P3.out.news hb hlo18)
              clear ho hb CL P3 hlo18
              have hlo19 : w4.heap.size ≤ w19.heap.size := by have := P4.out.bel.size; omega
              have CL := Lib.hid (xlog_any r2 s6 C2 Mb w19 P4.out.b HLL.out)
              rw [← HRR2.out] at CL
              go_wp2_with fail
              refine CL.out.mono ?_
              rintro e w20 ⟨vd, rfl, ho, hb⟩
              have OD := Lib.hid ho.rk
              have OC2 := Lib.hid (OC.out.below hb)
              have P5 := Lib.hid (P4.out.news hb hlo19)
              clear ho hb CL P4 OC hlo19
              have hlo20 : w4.heap.size ≤ w20.heap.size := by have := P5.out.bel.size; omega
              go_wp2_with fail
              refine (equalT_yes _ _ _ _ OC2.out OD.out).mono ?_
              rintro e w21 ⟨rfl, hb⟩
              have P6 := Lib.hid (P5.out.news hb hlo20)
              have BE := Lib.hid (B15.out.trans (P6.out.bel.mono hs4))
              clear hb OC2 OD P5 hlo20 P6
              go_wp2
              go_ret
              exact ⟨rfl, BE.out⟩
theorem wRunsOwn (zs zx : List Int) (cut : Int) (lp : List (Int × Int)) (v v2 v3 : Value) (w : World) (h : Rd .i64 w v zs) (h2 : Rd .u64 w v2 zx) (h3 : Rpi w v3 lp) (hw : W64 zs) (hy : B64 zx) (hc2 : cut ≤ 9223372036854775807) (hT : Tb w) :
    Calls Tryd.prog 5 #[v, v2, .int .i64 cut, v3] w (RetV w (.bool true)) := by
  rcases shape_split zs with hn | ⟨ds, rfl, hs, h64⟩
  · exact ro_none zs zx cut v v2 v3 w h hw hn hT
  · obtain ⟨ks, rfl, hk⟩ := shp_ks hs
    exact ro_some ks zx cut lp v v2 v3 w h h2 h3 hw hc2 hs h64 hy hT
end Go.Proofs.YtcakeenfkdhedaaDoor.Gm
