/- The walk of the law PlanDoes. (Its lines are printed by wip/mk_XLpd.py.) -/
import Derived.Test.YtkcfnbfkbmgchaaDoorPd
import Derived.Test.YtkcfnbfkbmgchaaDoorNt
import Derived.Test.YtkcfnbfkbmgchaaDoorIn
import Derived.Test.YtkcfnbfkbmgchaaDoorRp
import Derived.Test.YtkcfnbfkbmgchaaDoorRc
namespace Go.Proofs.YtkcfnbfkbmgchaaDoor.Gm
open Go.RowKit Go.ChangeShapes Go.WideShapes Go.Deep
set_option linter.unusedVariables false
set_option maxRecDepth 100000 in
theorem in_task {H : Type} {enc : TypeId × Value → H} {W : World} {base : Nat} {sp : Nat → Bool} {held : Bool} {r : Reach} {b0 : Nat} {v : Value} {d : DataW H} {ps : List MemPlace} (hval : Value.okWide Tryd.prog W r b0 60 v)
    (h : DataW.Trod enc Tryd.prog W base sp held 60 v d ps) : ∃ a b c : Int, v = tk (a, b, c) ∧ (Lit.int .i64 a).wf = true ∧ (Lit.int .i64 b).wf = true ∧ (Lit.int .i64 c).wf = true := by
  obtain ⟨cs, rfl, _⟩ := okWide_struct (P := Tryd.prog) Tryd.underlying60 hval
  obtain ⟨fuel, hf⟩ := h
  obtain ⟨⟨a, b, c⟩, ht, w0, w1, w2⟩ := task_cells hf
  refine ⟨a, b, c, ?_, w0, w1, w2⟩
  have ht : cs.toList = tc (a, b, c) := ht
  unfold tk
  obtain ⟨l⟩ := cs
  have ht : l = tc (a, b, c) := ht
  subst ht
  rfl
/-- a task's block -/
def Kt (w : World) (b : Nat) (x y z : Int) : Prop := Blk w b 60 #[.int .i64 x, .int .i64 y, .int .i64 z]
theorem Kt.below {b : Nat} {x y z : Int} {w w' : World} (h : Kt w b x y z) (hb : Below w.heap.size w w') : Kt w' b x y z := Blk.bel h hb
theorem Kt.cells {b : Nat} {x y z : Int} {w : World} (h : Kt w b x y z) : w.cell? ⟨b, 0, none⟩ = some (.int .i64 x) ∧ w.cell? ⟨b, 1, none⟩ = some (.int .i64 y) ∧ w.cell? ⟨b, 2, none⟩ = some (.int .i64 z) := Blk.cells3 h
theorem pd_bad (zs ys : List Int) (t : T3) (n : Int) (back : Bool) (v v2 : Value) (w : World) (h : Rd .i64 w v zs) (h2 : Rd .u64 w v2 ys) (hw : W64 zs) (hn : n = 1 ∧ Bad zs ∨ n = 2 ∧ Big zs) :
    Calls Tryd.prog 11 #[v, v2, tk t, .bool back] w (RetV w (.bool true)) := by
  have hn0 : (n == 0) = false := by rcases hn with ⟨rfl, _⟩ | ⟨rfl, _⟩ <;> rfl
  obtain ⟨x, y, z⟩ := t
  obtain ⟨w1, hw1⟩ : ∃ w1, w1 = w.alloc (.cells #[.int .i64 x, .int .i64 y, .int .i64 z] 60) := ⟨_, rfl⟩
  obtain ⟨b, hbb⟩ : ∃ b, b = w.heap.size := ⟨_, rfl⟩
  have hal := (Below.refl w.heap.size w).alloc (Nat.le_refl _) (.cells #[.int .i64 x, .int .i64 y, .int .i64 z] 60)
  have K : Kt (w.alloc (.cells #[.int .i64 x, .int .i64 y, .int .i64 z] 60)) w.heap.size x y z := Blk.new w 60 #[.int .i64 x, .int .i64 y, .int .i64 z]
  rw [← hw1] at hal K
  rw [← hbb] at K
  have k0 := K.cells.1
  have k1 := K.cells.2.1
  have k2 := K.cells.2.2
  have K := Lib.hid K
  have HW1 := Lib.hid hw1
  have HBB := Lib.hid hbb
  have X := Lib.hid (h.below hal)
  have Y := Lib.hid (h2.below hal)
  have CD := Lib.hid (fun w t v h => do_bad zs ys t n back v v2 w h hw hn)
  have HN := Lib.hid hn
  have B1 := Lib.hid hal
  have hs1 := hal.size
  obtain ⟨a2, cap2, rfl, hcap2, hm2⟩ := h2.shape
  have X0 := h
  clear h h2 hn hw1 hbb hal
  unfold tk
  go_enter Tryd.func11, Tryd.ntmps11
  go_wp2_with fail
  rw [← HW1.out, ← HBB.out]
  refine (rshape_any zs _ _ X.out hw).mono ?_
  rintro e w' ⟨he, rfl⟩
  have he : e = .returned (.tuple #[.int .i64 0, .int .i64 n]) := by
    rcases HN.out with ⟨rfl, hb⟩ | ⟨rfl, hb⟩
    · exact he.bad hb
    · exact he.big hb
  subst he
  go_wp2_with fail
  refine (CD.out w1 (x, y, z) _ X.out).mono ?_
  rintro e w2 ⟨v3, rfl, ho, hb⟩
  have B2 := Lib.hid (B1.out.trans (hb.mono hs1))
  have O2 := Lib.hid ho
  clear ho hb
  go_wp2_with fail
  refine (equal_yes [] _ _ _ O2.out.rd (Rd.nil _ _)).mono ?_
  rintro e w3 ⟨rfl, hb⟩
  have B3 := Lib.hid (B2.out.trans (hb.mono B2.out.size))
  clear hb
  go_wp2
  go_ret
  exact ⟨rfl, B3.out⟩
theorem pd_more (ds : List Nat) (ys : List Int) (t : T3) (back : Bool) (v v2 : Value) (w : World) (h : Rd .i64 w v (zi ds)) (h2 : Rd .u64 w v2 ys) (hw : W64 (zi ds)) (hs : Shp ds) (h64 : 64 < pr ds) :
    Calls Tryd.prog 11 #[v, v2, tk t, .bool back] w (RetV w (.bool true)) := by
  obtain ⟨x, y, z⟩ := t
  obtain ⟨w1, hw1⟩ : ∃ w1, w1 = w.alloc (.cells #[.int .i64 x, .int .i64 y, .int .i64 z] 60) := ⟨_, rfl⟩
  obtain ⟨b, hbb⟩ : ∃ b, b = w.heap.size := ⟨_, rfl⟩
  have hal := (Below.refl w.heap.size w).alloc (Nat.le_refl _) (.cells #[.int .i64 x, .int .i64 y, .int .i64 z] 60)
  have K : Kt (w.alloc (.cells #[.int .i64 x, .int .i64 y, .int .i64 z] 60)) w.heap.size x y z := Blk.new w 60 #[.int .i64 x, .int .i64 y, .int .i64 z]
  rw [← hw1] at hal K
  rw [← hbb] at K
  have k0 := K.cells.1
  have k1 := K.cells.2.1
  have k2 := K.cells.2.2
  have K := Lib.hid K
  have HW1 := Lib.hid hw1
  have HBB := Lib.hid hbb
  have X := Lib.hid (h.below hal)
  have Y := Lib.hid (h2.below hal)
  obtain ⟨n, hn⟩ : ∃ n, n = pr ds := ⟨_, rfl⟩
  have HN := Lib.hid hn
  have HS := Lib.hid hs
  have B1 := Lib.hid hal
  have hs1 := hal.size
  rw [← hn] at h64
  have hb : (64 : Int) < (n : Int) := by omega
  clear h h2 hw1 hbb hal hn hs
  unfold tk
  go_enter Tryd.func11, Tryd.ntmps11
  go_wp2_with fail
  rw [← HW1.out, ← HBB.out]
  refine (rshape_any (zi ds) _ _ X.out hw).mono ?_
  rintro e w' ⟨he, rfl⟩
  obtain rfl := he.ok HS.out
  rw [← HN.out]
  go_wp2
  go_ret
  exact ⟨rfl, B1.out⟩
theorem pd_len (ds : List Nat) (ys : List Int) (t : T3) (back : Bool) (v v2 : Value) (w : World) (h : Rd .i64 w v (zi ds)) (h2 : Rd .u64 w v2 ys) (hw : W64 (zi ds)) (hs : Shp ds) (h64 : pr ds ≤ 64) (hne : ys.length ≠ pr ds) :
    Calls Tryd.prog 11 #[v, v2, tk t, .bool back] w (RetV w (.bool true)) := by
  obtain ⟨x, y, z⟩ := t
  obtain ⟨w1, hw1⟩ : ∃ w1, w1 = w.alloc (.cells #[.int .i64 x, .int .i64 y, .int .i64 z] 60) := ⟨_, rfl⟩
  obtain ⟨b, hbb⟩ : ∃ b, b = w.heap.size := ⟨_, rfl⟩
  have hal := (Below.refl w.heap.size w).alloc (Nat.le_refl _) (.cells #[.int .i64 x, .int .i64 y, .int .i64 z] 60)
  have K : Kt (w.alloc (.cells #[.int .i64 x, .int .i64 y, .int .i64 z] 60)) w.heap.size x y z := Blk.new w 60 #[.int .i64 x, .int .i64 y, .int .i64 z]
  rw [← hw1] at hal K
  rw [← hbb] at K
  have k0 := K.cells.1
  have k1 := K.cells.2.1
  have k2 := K.cells.2.2
  have K := Lib.hid K
  have HW1 := Lib.hid hw1
  have HBB := Lib.hid hbb
  have X := Lib.hid (h.below hal)
  have Y := Lib.hid (h2.below hal)
  obtain ⟨n, hn⟩ : ∃ n, n = pr ds := ⟨_, rfl⟩
  have HN := Lib.hid hn
  have HS := Lib.hid hs
  have B1 := Lib.hid hal
  have hs1 := hal.size
  have CD := Lib.hid (fun w t v v2 h h2 => do_len ds ys t back v v2 w h h2 hw hs hne)
  rw [← hn] at h64 hne
  obtain ⟨a2, cap2, rfl, hcap2, hm2⟩ := h2.shape
  obtain ⟨q, hq⟩ : ∃ n, n = ys.length := ⟨_, rfl⟩
  rw [← hq] at hne Y ⊢
  have d1 : decide ((q : Int) = (n : Int)) = false := by rw [decide_eq_false_iff_not]; omega
  have d2 : ((q : Int) != (n : Int)) = true := by simp; omega
  have d3 : decide ((64 : Int) < (n : Int)) = false := by rw [decide_eq_false_iff_not]; omega
  clear h h2 hw1 hbb hal hn hs hq
  unfold tk
  go_enter Tryd.func11, Tryd.ntmps11
  go_wp2_with fail
  rw [← HW1.out, ← HBB.out]
  refine (rshape_any (zi ds) _ _ X.out hw).mono ?_
  rintro e w' ⟨he, rfl⟩
  obtain rfl := he.ok HS.out
  rw [← HN.out]
  go_wp2_with fail
  refine (CD.out w1 (x, y, z) _ _ X.out Y.out).mono ?_
  rintro e w2 ⟨v3, rfl, ho, hb⟩
  have B2 := Lib.hid (B1.out.trans (hb.mono hs1))
  have O2 := Lib.hid ho
  clear ho hb
  go_wp2_with fail
  refine (equal_yes [] _ _ _ O2.out.rd (Rd.nil _ _)).mono ?_
  rintro e w3 ⟨rfl, hb⟩
  have B3 := Lib.hid (B2.out.trans (hb.mono B2.out.size))
  clear hb
  go_wp2
  go_ret
  exact ⟨rfl, B3.out⟩
set_option maxHeartbeats 4000000 in
set_option maxRecDepth 100000 in
theorem pd_arg (ds : List Nat) (ys : List Int) (t : T3) (back : Bool) (v v2 : Value) (w : World) (h : Rd .i64 w v (zi ds)) (h2 : Rd .u64 w v2 ys) (hw : W64 (zi ds)) (hs : Shp ds) (h64 : pr ds ≤ 64) (hl : ys.length = pr ds) (hbad : TaskBad ds t) :
    Calls Tryd.prog 11 #[v, v2, tk t, .bool back] w (RetV w (.bool true)) := by
  obtain ⟨x, y, z⟩ := t
  obtain ⟨w1, hw1⟩ : ∃ w1, w1 = w.alloc (.cells #[.int .i64 x, .int .i64 y, .int .i64 z] 60) := ⟨_, rfl⟩
  obtain ⟨b, hbb⟩ : ∃ b, b = w.heap.size := ⟨_, rfl⟩
  have hal := (Below.refl w.heap.size w).alloc (Nat.le_refl _) (.cells #[.int .i64 x, .int .i64 y, .int .i64 z] 60)
  have K : Kt (w.alloc (.cells #[.int .i64 x, .int .i64 y, .int .i64 z] 60)) w.heap.size x y z := Blk.new w 60 #[.int .i64 x, .int .i64 y, .int .i64 z]
  rw [← hw1] at hal K
  rw [← hbb] at K
  have k0 := K.cells.1
  have k1 := K.cells.2.1
  have k2 := K.cells.2.2
  have K := Lib.hid K
  have HW1 := Lib.hid hw1
  have HBB := Lib.hid hbb
  have X := Lib.hid (h.below hal)
  have Y := Lib.hid (h2.below hal)
  obtain ⟨n, hn⟩ : ∃ n, n = pr ds := ⟨_, rfl⟩
  have HN := Lib.hid hn
  have HS := Lib.hid hs
  have B1 := Lib.hid hal
  have hs1 := hal.size
  have CD := Lib.hid (fun w v v2 h h2 => do_arg ds ys (x, y, z) back v v2 w h h2 hw hs hl hbad)
  rw [← hn] at h64
  obtain ⟨a2, cap2, rfl, hcap2, hm2⟩ := h2.shape
  obtain ⟨a, cap, sb, so, rfl, hcap, hm, hax, hcx⟩ := X.out.opened
  rw [zi_len] at hcap hax hcx
  have LZ := Lib.hid (zi_len ds)
  rw [LZ.out] at X ⊢
  have hl3 := hs.len3
  have hl0 := hs.len0
  obtain rfl := hax.resolve_left (by omega)
  have HCX := Lib.hid (show ∀ p, p < ds.length → w1.cell? ⟨sb, so + p, none⟩ = some (.int .i64 (nd ds p)) from fun p hp => by rw [hcx p hp, gd_zi])
  have XD := Lib.hid (fun p (hp : p < ds.length) => (show 1 ≤ nd ds p from hs.pos _ (nd_mem hp)))
  have CS := Lib.hid hbad.cases
  rw [← hn] at CS
  have d3 : decide ((64 : Int) < (n : Int)) = false := by rw [decide_eq_false_iff_not]; omega
  rw [hl, ← hn] at Y hcap2 ⊢
  clear h h2 hw1 hbb hal hn hs hl hbad hcx
  unfold tk
  go_enter Tryd.func11, Tryd.ntmps11
  go_wp2_with fail
  rw [← HW1.out, ← HBB.out]
  refine (rshape_any (zi ds) _ _ X.out hw).mono ?_
  rintro e w' ⟨he, rfl⟩
  obtain rfl := he.ok HS.out
  rw [← HN.out]
  obtain ⟨len, hlen⟩ : ∃ l, l = ds.length := ⟨_, rfl⟩
  rw [← hlen] at CS hcap hl3 hl0 HCX XD X ⊢
  clear LZ hlen HS
  have el : IntKind.i64.wrap ((len : Int) - 1) = (len : Int) - 1 := IntWalk.i64_in _ (by omega)
  rcases CS.out with h1 | ⟨h1, h2⟩ | ⟨p, rfl, hp, h | ⟨h, h'⟩ | ⟨h, h', h''⟩⟩
  · skip
    clear CS
    go_wp2
    go_quiet ((first | (go_at_call 21; exact q_same (in_no _ _ _ _ (by omega)))))
    have hdr := below_drewN (Below.refl w1.heap.size w1) nq
    have X1 := Lib.hid (X.out.below hdr)
    have Y1 := Lib.hid (Y.out.below hdr)
    have K1 := Lib.hid (K.out.below hdr)
    have B1' := Lib.hid (below_drewN B1.out nq)
    clear X Y K k0 k1 k2 hdr HW1 B1
    generalize w1.drewN nq = w2 at *
    have hs2 := B1'.out.size
    have k0 := K1.out.cells.1
    have k1 := K1.out.cells.2.1
    have k2 := K1.out.cells.2.2
    go_wp2_with fail
    refine (CD.out _ _ _ X1.out Y1.out).mono ?_
    rintro e w3 ⟨v3, rfl, ho, hb⟩
    have B2 := Lib.hid (B1'.out.trans (hb.mono hs2))
    have O2 := Lib.hid ho
    clear ho hb k0 k1 k2
    go_wp2_with fail
    refine (equal_yes [] _ _ _ O2.out.rd (Rd.nil _ _)).mono ?_
    rintro e w4 ⟨rfl, hb⟩
    have B3 := Lib.hid (B2.out.trans (hb.mono B2.out.size))
    clear hb
    go_wp2
    go_ret
    exact ⟨rfl, B3.out⟩
  · skip
    clear CS
    go_wp2
    go_quiet ((first | (go_at_call 21; exact q_same (in_no _ _ _ _ (by omega)))))
    have hdr := below_drewN (Below.refl w1.heap.size w1) nq
    have X1 := Lib.hid (X.out.below hdr)
    have Y1 := Lib.hid (Y.out.below hdr)
    have K1 := Lib.hid (K.out.below hdr)
    have B1' := Lib.hid (below_drewN B1.out nq)
    clear X Y K k0 k1 k2 hdr HW1 B1
    generalize w1.drewN nq = w2 at *
    have hs2 := B1'.out.size
    have k0 := K1.out.cells.1
    have k1 := K1.out.cells.2.1
    have k2 := K1.out.cells.2.2
    go_wp2_with fail
    refine (CD.out _ _ _ X1.out Y1.out).mono ?_
    rintro e w3 ⟨v3, rfl, ho, hb⟩
    have B2 := Lib.hid (B1'.out.trans (hb.mono hs2))
    have O2 := Lib.hid ho
    clear ho hb k0 k1 k2
    go_wp2_with fail
    refine (equal_yes [] _ _ _ O2.out.rd (Rd.nil _ _)).mono ?_
    rintro e w4 ⟨rfl, hb⟩
    have B3 := Lib.hid (B2.out.trans (hb.mono B2.out.size))
    clear hb
    go_wp2
    go_ret
    exact ⟨rfl, B3.out⟩
  · skip
    have c3 := HCX.out p hp
    clear CS
    go_wp2
    go_quiet ((first | (go_at_call 21; exact q_same (in_yes _ _ _ _ (by omega) (by omega)))))
    have hdr := below_drewN (Below.refl w1.heap.size w1) nq
    have X1 := Lib.hid (X.out.below hdr)
    have Y1 := Lib.hid (Y.out.below hdr)
    have K1 := Lib.hid (K.out.below hdr)
    have B1' := Lib.hid (below_drewN B1.out nq)
    clear X Y K k0 k1 k2 hdr HW1 B1
    generalize w1.drewN nq = w2 at *
    have hs2 := B1'.out.size
    have k0 := K1.out.cells.1
    have k1 := K1.out.cells.2.1
    have k2 := K1.out.cells.2.2
    go_wp2_with fail
    refine (CD.out _ _ _ X1.out Y1.out).mono ?_
    rintro e w3 ⟨v3, rfl, ho, hb⟩
    have B2 := Lib.hid (B1'.out.trans (hb.mono hs2))
    have O2 := Lib.hid ho
    clear ho hb k0 k1 k2
    go_wp2_with fail
    refine (equal_yes [] _ _ _ O2.out.rd (Rd.nil _ _)).mono ?_
    rintro e w4 ⟨rfl, hb⟩
    have B3 := Lib.hid (B2.out.trans (hb.mono B2.out.size))
    clear hb
    go_wp2
    go_ret
    exact ⟨rfl, B3.out⟩
  · skip
    have c3 := HCX.out p hp
    clear CS
    have g4 : decide (y < 0) = false := decide_eq_false (by omega)
    go_wp2
    go_quiet ((first | (go_at_call 21; exact q_same (in_yes _ _ _ _ (by omega) (by omega)))))
    have hdr := below_drewN (Below.refl w1.heap.size w1) nq
    have X1 := Lib.hid (X.out.below hdr)
    have Y1 := Lib.hid (Y.out.below hdr)
    have K1 := Lib.hid (K.out.below hdr)
    have B1' := Lib.hid (below_drewN B1.out nq)
    clear X Y K k0 k1 k2 hdr HW1 B1
    generalize w1.drewN nq = w2 at *
    have hs2 := B1'.out.size
    have k0 := K1.out.cells.1
    have k1 := K1.out.cells.2.1
    have k2 := K1.out.cells.2.2
    go_wp2_with fail
    refine (CD.out _ _ _ X1.out Y1.out).mono ?_
    rintro e w3 ⟨v3, rfl, ho, hb⟩
    have B2 := Lib.hid (B1'.out.trans (hb.mono hs2))
    have O2 := Lib.hid ho
    clear ho hb k0 k1 k2
    go_wp2_with fail
    refine (equal_yes [] _ _ _ O2.out.rd (Rd.nil _ _)).mono ?_
    rintro e w4 ⟨rfl, hb⟩
    have B3 := Lib.hid (B2.out.trans (hb.mono B2.out.size))
    clear hb
    go_wp2
    go_ret
    exact ⟨rfl, B3.out⟩
  · skip
    have c3 := HCX.out p hp
    clear CS
    have g4 : decide (y < 0) = false := decide_eq_false (by omega)
    have g5 : decide (z ≤ y) = false := decide_eq_false (by omega)
    have d1 := XD.out p hp
    generalize nd ds p = d at *
    have hd0 : ¬ d = 0 := by omega
    have hqle := Nat.div_le_self n d
    have e1 := nat_quo n d
    have e2 : IntKind.i64.wrap ((n / d : Nat) : Int) = ((n / d : Nat) : Int) := wrap_nat (by omega)
    generalize n / d = q at *
    have m1 : (if (len : Int) - 1 < (p : Int) then (len : Int) - 1 else (p : Int)) = (p : Int) := if_neg (by omega)
    have m2 : (if (0 : Int) < (p : Int) then (p : Int) else 0) = (p : Int) := by split <;> omega
    have m3 : (if 0 < p then (p : Int) else 0) = (p : Int) := by split <;> omega
    go_wp2
    go_quiet ((first | (go_at_call 21; exact q_same (in_yes _ _ _ _ (by omega) (by omega)))))
    have hdr := below_drewN (Below.refl w1.heap.size w1) nq
    have X1 := Lib.hid (X.out.below hdr)
    have Y1 := Lib.hid (Y.out.below hdr)
    have K1 := Lib.hid (K.out.below hdr)
    have B1' := Lib.hid (below_drewN B1.out nq)
    clear X Y K k0 k1 k2 hdr HW1 B1
    generalize w1.drewN nq = w2 at *
    have hs2 := B1'.out.size
    have k0 := K1.out.cells.1
    have k1 := K1.out.cells.2.1
    have k2 := K1.out.cells.2.2
    go_wp2_with fail
    refine (CD.out _ _ _ X1.out Y1.out).mono ?_
    rintro e w3 ⟨v3, rfl, ho, hb⟩
    have B2 := Lib.hid (B1'.out.trans (hb.mono hs2))
    have O2 := Lib.hid ho
    clear ho hb k0 k1 k2
    go_wp2_with fail
    refine (equal_yes [] _ _ _ O2.out.rd (Rd.nil _ _)).mono ?_
    rintro e w4 ⟨rfl, hb⟩
    have B3 := Lib.hid (B2.out.trans (hb.mono B2.out.size))
    clear hb
    go_wp2
    go_ret
    exact ⟨rfl, B3.out⟩
theorem task_good {ds : List Nat} (hs : Shp ds) {x y z : Int} (h : ¬ TaskBad ds (x, y, z)) : ∃ a k f t : Nat, x = a ∧ y = f ∧ z = t ∧ a < ds.length ∧ nd ds a = 2 ^ k ∧ f < t ∧ t ≤ pr (ds.take a) * under ds a ∧ pr ds / nd ds a = pr (ds.take a) * under ds a := by
  have n0 : ¬ x < 0 := fun q => h (.inl q)
  have n1 : ¬ (ds.length : Int) ≤ x := fun q => h (.inr (.inl q))
  have n2 : ¬ y < 0 := fun q => h (.inr (.inr (.inl q)))
  have n3 : ¬ z ≤ y := fun q => h (.inr (.inr (.inr (.inl q))))
  have hx : x.toNat < ds.length := by omega
  obtain ⟨k, hk⟩ := hs.pow _ (nd_mem hx)
  have n4 : ¬ ((pr ds / nd ds x.toNat : Nat) : Int) < z := fun q => h (.inr (.inr (.inr (.inr ⟨x.toNat, by show x = _; omega, hx, q⟩))))
  have he : pr ds / nd ds x.toNat = pr (ds.take x.toNat) * under ds x.toNat := by
    rw [shp_split hx hk, hk, Nat.mul_left_comm]
    exact Nat.mul_div_cancel_left _ (Nat.two_pow_pos k)
  rw [he] at n4
  exact ⟨x.toNat, k, y.toNat, z.toNat, by omega, by omega, by omega, hx, hk, by omega, by omega, he⟩
set_option maxHeartbeats 4000000 in
set_option maxRecDepth 100000 in
theorem pd_ok (ds : List Nat) (ys : List Int) (t : T3) (back : Bool) (v v2 : Value) (w : World) (h : Rd .i64 w v (zi ds)) (h2 : Rd .u64 w v2 ys) (hw : W64 (zi ds)) (hs : Shp ds) (h64 : pr ds ≤ 64) (hl : ys.length = pr ds) (hgood : ¬ TaskBad ds t) (hy : B64 ys) (hT : Tb w) :
    Calls Tryd.prog 11 #[v, v2, tk t, .bool back] w (RetV w (.bool true)) := by
  obtain ⟨x, y, z⟩ := t
  obtain ⟨w1, hw1⟩ : ∃ w1, w1 = w.alloc (.cells #[.int .i64 x, .int .i64 y, .int .i64 z] 60) := ⟨_, rfl⟩
  obtain ⟨b, hbb⟩ : ∃ b, b = w.heap.size := ⟨_, rfl⟩
  have hal := (Below.refl w.heap.size w).alloc (Nat.le_refl _) (.cells #[.int .i64 x, .int .i64 y, .int .i64 z] 60)
  have K : Kt (w.alloc (.cells #[.int .i64 x, .int .i64 y, .int .i64 z] 60)) w.heap.size x y z := Blk.new w 60 #[.int .i64 x, .int .i64 y, .int .i64 z]
  rw [← hw1] at hal K
  rw [← hbb] at K
  have k0 := K.cells.1
  have k1 := K.cells.2.1
  have k2 := K.cells.2.2
  have K := Lib.hid K
  have HW1 := Lib.hid hw1
  have HBB := Lib.hid hbb
  have X := Lib.hid (h.below hal)
  have Y := Lib.hid (h2.below hal)
  obtain ⟨n, hn⟩ : ∃ n, n = pr ds := ⟨_, rfl⟩
  have HN := Lib.hid hn
  have HS := Lib.hid hs
  have B1 := Lib.hid hal
  have hs1 := hal.size
  have T := Lib.hid (hT.below hal)
  obtain ⟨p, k, f, t, rfl, rfl, rfl, hp, hk, hft, ht, hq⟩ := task_good hs hgood
  have CD := Lib.hid (fun w v v2 h h2 hT => do_ok ds ys p k f t ((p : Int), (f : Int), (t : Int)) back v v2 w h h2 hw hs hy hl hp hk hft ht hT rfl)
  have CT := Lib.hid (fun w v v2 h h2 => rturned_any ds ys p k f t (p : Int) (f : Int) (t : Int) back v v2 w h h2 hs hw hy hl hp hk (by omega) ht rfl rfl rfl)
  obtain ⟨R, hR⟩ : ∃ l, l = tz back (under ds p) k (pr ds) f t ys := ⟨_, rfl⟩
  rw [← hR] at CD CT
  rw [← hn] at h64 hq
  obtain ⟨a2, cap2, rfl, hcap2, hm2⟩ := h2.shape
  obtain ⟨a, cap, sb, so, rfl, hcap, hm, hax, hcx⟩ := X.out.opened
  rw [zi_len] at hcap hax hcx
  have LZ := Lib.hid (zi_len ds)
  rw [LZ.out] at X ⊢
  have hl3 := hs.len3
  have hl0 := hs.len0
  obtain rfl := hax.resolve_left (by omega)
  have c3 : w1.cell? ⟨sb, so + p, none⟩ = some (.int .i64 (nd ds p)) := by rw [hcx p hp, gd_zi]
  have d1 : 1 ≤ nd ds p := hs.pos _ (nd_mem hp)
  have d3 : decide ((64 : Int) < (n : Int)) = false := by rw [decide_eq_false_iff_not]; omega
  obtain ⟨M, hM⟩ : ∃ M, M = pr (ds.take p) * under ds p := ⟨_, rfl⟩
  rw [← hM] at hq ht
  rw [hl, ← hn] at Y hcap2 ⊢
  clear h h2 hw1 hbb hal hn hs hl hgood hcx hk hT hR hM
  unfold tk
  go_enter Tryd.func11, Tryd.ntmps11
  go_wp2_with fail
  rw [← HW1.out, ← HBB.out]
  refine (rshape_any (zi ds) _ _ X.out hw).mono ?_
  rintro e w' ⟨he, rfl⟩
  obtain rfl := he.ok HS.out
  rw [← HN.out]
  obtain ⟨len, hlen⟩ : ∃ l, l = ds.length := ⟨_, rfl⟩
  rw [← hlen] at hp hcap hl3 hl0 X ⊢
  clear LZ hlen HS
  have el : IntKind.i64.wrap ((len : Int) - 1) = (len : Int) - 1 := IntWalk.i64_in _ (by omega)
  generalize nd ds p = d at *
  have hd0 : ¬ d = 0 := by omega
  have hqle := Nat.div_le_self n d
  have e1 := nat_quo n d
  rw [hq] at e1 hqle
  clear hq
  have e2 : IntKind.i64.wrap (M : Int) = (M : Int) := wrap_nat (by omega)
  have m1 : (if (len : Int) - 1 < (p : Int) then (len : Int) - 1 else (p : Int)) = (p : Int) := if_neg (by omega)
  have m2 : (if (0 : Int) < (p : Int) then (p : Int) else 0) = (p : Int) := by split <;> omega
  have m3 : (if 0 < p then (p : Int) else 0) = (p : Int) := by split <;> omega
  have g4 : decide ((f : Int) < 0) = false := decide_eq_false (by omega)
  have g5 : decide ((t : Int) ≤ (f : Int)) = false := decide_eq_false (by omega)
  have g6 : decide (t ≤ f) = false := decide_eq_false (by omega)
  have g7 : decide ((M : Int) < (t : Int)) = false := decide_eq_false (by omega)
  have g8 : decide (M < t) = false := decide_eq_false (by omega)
  go_wp2
  go_quiet ((first | (go_at_call 21; exact q_same (in_yes _ _ _ _ (by omega) (by omega)))))
  clear g4 g5 g6 g7 g8 e1 e2 m1 m2 m3
  have hdr := below_drewN (Below.refl w1.heap.size w1) nq
  have X1 := Lib.hid (X.out.below hdr)
  have Y1 := Lib.hid (Y.out.below hdr)
  have T1 := Lib.hid (T.out.below hdr)
  have K1 := Lib.hid (K.out.below hdr)
  have B1' := Lib.hid (below_drewN B1.out nq)
  clear X Y T K c3 k0 k1 k2 hdr HW1 B1
  generalize w1.drewN nq = w2 at *
  have hs2 := B1'.out.size
  have k0 := K1.out.cells.1
  have k1 := K1.out.cells.2.1
  have k2 := K1.out.cells.2.2
  go_wp2_with fail
  refine (CT.out _ _ _ X1.out Y1.out).mono ?_
  rintro e w3 ⟨v3, rfl, ho, hb⟩
  have X3 := Lib.hid (X1.out.below hb)
  have Y3 := Lib.hid (Y1.out.below hb)
  have T3 := Lib.hid (T1.out.below hb)
  have K3 := Lib.hid (K1.out.below hb)
  have O3 := Lib.hid ho
  have B3 := Lib.hid (B1'.out.trans (hb.mono hs2))
  have hs3 := B3.out.size
  clear ho hb k0 k1 k2 X1 Y1 T1 K1 B1'
  have k0 := K3.out.cells.1
  have k1 := K3.out.cells.2.1
  have k2 := K3.out.cells.2.2
  go_wp2_with fail
  refine (CD.out _ _ _ X3.out Y3.out T3.out).mono ?_
  rintro e w4 ⟨v4, rfl, ho, hb⟩
  have O4 := Lib.hid ho
  have O3' := Lib.hid (O3.out.below hb)
  have B4 := Lib.hid (B3.out.trans (hb.mono hs3))
  have hs4 := B4.out.size
  clear ho hb k0 k1 k2 X3 Y3 T3 K3 B3 O3
  go_wp2_with fail
  refine (equal_yes R _ _ _ O4.out.rd O3'.out.rd).mono ?_
  rintro e w5 ⟨rfl, hb⟩
  have B5 := Lib.hid (B4.out.trans (hb.mono hs4))
  clear hb
  go_wp2
  go_ret
  exact ⟨rfl, B5.out⟩
theorem wPlanDoes (zs ys : List Int) (t : T3) (back : Bool) (v v2 : Value) (w : World) (h : Rd .i64 w v zs) (h2 : Rd .u64 w v2 ys) (hw : W64 zs) (hy : B64 ys) (hT : Tb w) :
    Calls Tryd.prog 11 #[v, v2, tk t, .bool back] w (RetV w (.bool true)) := by
  rcases shape_cases zs with hb | hb | ⟨ds, rfl, hs⟩
  · exact pd_bad zs ys t 1 back v v2 w h h2 hw (.inl ⟨rfl, hb⟩)
  · exact pd_bad zs ys t 2 back v v2 w h h2 hw (.inr ⟨rfl, hb⟩)
  · by_cases h64 : 64 < pr ds
    · exact pd_more ds ys t back v v2 w h h2 hw hs h64
    by_cases hl : ys.length = pr ds
    · by_cases hg : TaskBad ds t
      · exact pd_arg ds ys t back v v2 w h h2 hw hs (by omega) hl hg
      · exact pd_ok ds ys t back v v2 w h h2 hw hs (by omega) hl hg hy hT
    · exact pd_len ds ys t back v v2 w h h2 hw hs (by omega) hl
end Go.Proofs.YtkcfnbfkbmgchaaDoor.Gm
