/- plan.Do. -/
import Derived.Test.YtkcfnbfkbmgchaaDoorAn
import Derived.Test.YtkcfnbfkbmgchaaDoorTk
import Derived.Test.YtkcfnbfkbmgchaaDoorBl
namespace Go.Proofs.YtkcfnbfkbmgchaaDoor.Gm
open Go.RowKit
set_option linter.unusedVariables false
theorem puL_tzf (back : Bool) (s k n f L : Nat) (zs : List Int) (ln : List Nat) (hs : 0 < s) (hln : ∀ i, i < 2 ^ k → nd ln i = lineAt s (2 ^ k) L + i * s) (hin : ∀ i, i < 2 ^ k → lineAt s (2 ^ k) L + i * s < n) :
    ∀ m, m ≤ 2 ^ k → puL (tz back s k n f L zs) ln (tr back k (fun i => toF (gd (tz back s k n f L zs) (nd ln i)))) m = tzPart back s k n f L m zs := by
  have hf : ∀ j, tr back k (fun i => toF (gd (tz back s k n f L zs) (nd ln i))) j = tr back k (fun i => toF (gd zs (lineAt s (2 ^ k) L + i * s))) j := fun j => tr_congr (fun i hi => by
    rw [hln i hi, gd_tz _ _ _ _ _ _ _ (hin i hi), tzAt, lineNo_of _ _ _ _ hs hi, if_neg (by omega)]) j
  intro m
  induction m with
  | zero => intro _; rw [puL_zero, tzPart_zero]
  | succ m ih =>
    intro hm
    rw [puL_succ, ih (by omega), hf, hln m (by omega)]
    exact tzPart_step back s k n f L m zs hs (by omega)
theorem Blk.bel {b : Nat} {t : TypeId} {cs : Array Value} {w w' : World} (h : Blk w b t cs) (hb : Below w.heap.size w w') : Blk w' b t cs := h.below hb h.lt
theorem Blk.cells3 {b : Nat} {t : TypeId} {x y z : Int} {w : World} (h : Blk w b t #[.int .i64 x, .int .i64 y, .int .i64 z]) : w.cell? ⟨b, 0, none⟩ = some (.int .i64 x) ∧ w.cell? ⟨b, 1, none⟩ = some (.int .i64 y) ∧ w.cell? ⟨b, 2, none⟩ = some (.int .i64 z) := ⟨h.cell 0, h.cell 1, h.cell 2⟩
def PdRel (w : World) (B1 : Nat) (back : Bool) (s k n f t g c : Nat) (zs : List Int) (lv : Value) (ll : List (List Int)) (i : Value) (wr : World) : Prop :=
  ∃ m : Nat, m ≤ t - f ∧ i = .int .i64 m ∧ Oz .u64 25 w.heap.size wr (.slice (some ⟨g, 0, none⟩) n c) (tz back s k n f (f + m) zs) ∧ OL B1 wr lv ll ∧ Below w.heap.size w wr
theorem do_bad (zs ys : List Int) (t : T3) (n : Int) (back : Bool) (v v2 : Value) (w : World) (h : Rd .i64 w v zs) (hw : W64 zs) (hn : n = 1 ∧ Bad zs ∨ n = 2 ∧ Big zs) :
    Calls Tryd.prog 45 #[v, v2, tk t, .bool back] w (RetZE w [] n) := by
  obtain ⟨x, y, z⟩ := t
  have hal := Lib.hid ((Below.refl w.heap.size w).alloc (Nat.le_refl _) (.cells #[.int .i64 x, .int .i64 y, .int .i64 z] 60))
  have X := Lib.hid (h.below hal.out)
  have HN := Lib.hid hn
  have hn0 : (n != 0) = true := by rcases hn with ⟨rfl, _⟩ | ⟨rfl, _⟩ <;> rfl
  clear h hn
  unfold tk
  go_enter Tryd.func45, Tryd.ntmps45
  go_wp2_with fail
  refine (mcheck_any zs _ _ X.out hw).mono ?_
  rintro e w' ⟨he, rfl⟩
  have he : e = .returned (.tuple #[.int .i64 0, .int .i64 n]) := by
    rcases HN.out with ⟨rfl, hb⟩ | ⟨rfl, hb⟩
    · exact he.bad hb
    · exact he.big hb
  subst he
  go_wp2
  go_ret2
  exact ⟨_, rfl, Oz.nil _ _ _ _, hal.out⟩
theorem do_len (ds : List Nat) (ys : List Int) (t : T3) (back : Bool) (v v2 : Value) (w : World) (h : Rd .i64 w v (zi ds)) (h2 : Rd .u64 w v2 ys) (hw : W64 (zi ds)) (hs : Shp ds) (hne : ys.length ≠ pr ds) :
    Calls Tryd.prog 45 #[v, v2, tk t, .bool back] w (RetZE w [] 5) := by
  obtain ⟨x, y, z⟩ := t
  have hal := Lib.hid ((Below.refl w.heap.size w).alloc (Nat.le_refl _) (.cells #[.int .i64 x, .int .i64 y, .int .i64 z] 60))
  have X := Lib.hid (h.below hal.out)
  have HS := Lib.hid hs
  obtain ⟨a2, cap2, rfl, hcap2, hm2⟩ := h2.shape
  obtain ⟨n, hn⟩ : ∃ n, n = pr ds := ⟨_, rfl⟩
  obtain ⟨q, hq⟩ : ∃ n, n = ys.length := ⟨_, rfl⟩
  rw [← hn, ← hq] at hne
  rw [← hq]
  have HN := Lib.hid hn
  have d1 : decide ((q : Int) = (n : Int)) = false := by rw [decide_eq_false_iff_not]; omega
  have d2 : ((q : Int) != (n : Int)) = true := by simp; omega
  clear h hs h2 hn hq
  unfold tk
  go_enter Tryd.func45, Tryd.ntmps45
  go_wp2_with fail
  refine (mcheck_any (zi ds) _ _ X.out hw).mono ?_
  rintro e w' ⟨he, rfl⟩
  obtain rfl := he.ok HS.out
  rw [← HN.out]
  go_wp2
  go_ret2
  exact ⟨_, rfl, Oz.nil _ _ _ _, hal.out⟩
/-- what is wrong with a task's numbers: its axis, its first line, its last line -/
def TaskBad (ds : List Nat) (t : T3) : Prop := t.1 < 0 ∨ (ds.length : Int) ≤ t.1 ∨ t.2.1 < 0 ∨ t.2.2 ≤ t.2.1 ∨ ∃ x : Nat, t.1 = x ∧ x < ds.length ∧ ((pr ds / nd ds x : Nat) : Int) < t.2.2
theorem TaskBad.cases {ds : List Nat} {x y z : Int} (h : TaskBad ds (x, y, z)) : x < 0 ∨ (0 ≤ x ∧ (ds.length : Int) ≤ x) ∨ (∃ a : Nat, x = a ∧ a < ds.length ∧ (y < 0 ∨ (0 ≤ y ∧ z ≤ y) ∨ (0 ≤ y ∧ y < z ∧ ((pr ds / nd ds a : Nat) : Int) < z))) := by
  unfold TaskBad at h
  by_cases h0 : x < 0
  · exact .inl h0
  by_cases h1 : (ds.length : Int) ≤ x
  · exact .inr (.inl ⟨by omega, h1⟩)
  refine .inr (.inr ⟨x.toNat, by omega, by omega, ?_⟩)
  rcases h with h | h | h | h | ⟨a, h, h2, h3⟩
  · exact absurd h h0
  · exact absurd h h1
  · exact .inl h
  · by_cases hy : y < 0
    · exact .inl hy
    · exact .inr (.inl ⟨by omega, h⟩)
  · by_cases hy : y < 0
    · exact .inl hy
    by_cases hz : z ≤ y
    · exact .inr (.inl ⟨by omega, hz⟩)
    · have e : x.toNat = a := by have h : x = (a : Int) := h; omega
      rw [e]
      exact .inr (.inr ⟨by omega, by omega, h3⟩)
set_option maxHeartbeats 2000000 in
set_option maxRecDepth 100000 in
theorem do_arg (ds : List Nat) (ys : List Int) (t : T3) (back : Bool) (v v2 : Value) (w : World) (h : Rd .i64 w v (zi ds)) (h2 : Rd .u64 w v2 ys) (hw : W64 (zi ds)) (hs : Shp ds) (hl : ys.length = pr ds) (hb : TaskBad ds t) :
    Calls Tryd.prog 45 #[v, v2, tk t, .bool back] w (RetZE w [] 1) := by
  obtain ⟨x, y, z⟩ := t
  obtain ⟨w1, hw1⟩ : ∃ w1, w1 = w.alloc (.cells #[.int .i64 x, .int .i64 y, .int .i64 z] 60) := ⟨_, rfl⟩
  obtain ⟨b, hbb⟩ : ∃ b, b = w.heap.size := ⟨_, rfl⟩
  have hal := (Below.refl w.heap.size w).alloc (Nat.le_refl _) (.cells #[.int .i64 x, .int .i64 y, .int .i64 z] 60)
  have K := Blk.new w 60 #[.int .i64 x, .int .i64 y, .int .i64 z]
  rw [← hw1] at hal K
  rw [← hbb] at K
  obtain ⟨k0, k1, k2⟩ := K.cells3
  have X := Lib.hid (h.below hal)
  have HS := Lib.hid hs
  have HAL := Lib.hid hal
  have HW1 := Lib.hid hw1
  have HBB := Lib.hid hbb
  obtain ⟨a2, cap2, rfl, hcap2, hm2⟩ := h2.shape
  obtain ⟨a, cap, sb, so, rfl, hcap, hm, hax, hcx⟩ := X.out.opened
  rw [zi_len] at hcap hax hcx
  have LZ := Lib.hid (zi_len ds)
  rw [LZ.out] at X ⊢
  have hl3 := hs.len3
  obtain rfl := hax.resolve_left (by have := hs.len0; omega)
  obtain ⟨n, hn⟩ : ∃ n, n = pr ds := ⟨_, rfl⟩
  have HN := Lib.hid hn
  rw [hl, ← hn]
  have hpr : n ≤ 1024 := by rw [hn]; exact hs.le
  have CS := Lib.hid hb.cases
  rw [← hn] at CS
  have XD := Lib.hid (fun p (hp : p < ds.length) => (show 1 ≤ nd ds p from hs.pos _ (nd_mem hp)))
  have HCX := Lib.hid (show ∀ p, p < ds.length → w1.cell? ⟨sb, so + p, none⟩ = some (.int .i64 (nd ds p)) from fun p hp => by rw [hcx p hp, gd_zi])
  clear h hs h2 hn hl hb hal K hw1 hbb hcx
  unfold tk
  go_enter Tryd.func45, Tryd.ntmps45
  go_wp2_with fail
  rw [← HW1.out, ← HBB.out]
  refine (mcheck_any (zi ds) _ _ X.out hw).mono ?_
  rintro e w' ⟨he, rfl⟩
  obtain rfl := he.ok HS.out
  rw [← HN.out]
  obtain ⟨len, hlen⟩ : ∃ l, l = ds.length := ⟨_, rfl⟩
  rw [← hlen] at CS hcap hl3 HCX ⊢
  rw [← hlen] at XD
  clear X LZ hlen
  rcases CS.out with h1 | ⟨h1, h2⟩ | ⟨p, rfl, hp, h | ⟨h, h'⟩ | ⟨h, h', h''⟩⟩
  · skip
    go_wp2
    go_quiet (fail)
    go_wp2
    go_ret2
    exact ⟨_, rfl, Oz.nil _ _ _ _, below_drewN HAL.out _⟩
  · have g0 : decide (x < 0) = false := decide_eq_false (by omega)
    go_wp2
    go_quiet (fail)
    go_wp2
    go_ret2
    exact ⟨_, rfl, Oz.nil _ _ _ _, below_drewN HAL.out _⟩
  · have c3 := HCX.out p hp
    have g1 : decide ((p : Int) < 0) = false := decide_eq_false (by omega)
    have g2 : decide ((len : Int) ≤ (p : Int)) = false := decide_eq_false (by omega)
    have g3 : decide (len ≤ p) = false := decide_eq_false (by omega)
    go_wp2
    go_quiet (fail)
    go_wp2
    go_ret2
    exact ⟨_, rfl, Oz.nil _ _ _ _, below_drewN HAL.out _⟩
  · have c3 := HCX.out p hp
    have g1 : decide ((p : Int) < 0) = false := decide_eq_false (by omega)
    have g2 : decide ((len : Int) ≤ (p : Int)) = false := decide_eq_false (by omega)
    have g3 : decide (len ≤ p) = false := decide_eq_false (by omega)
    have g4 : decide (y < 0) = false := decide_eq_false (by omega)
    go_wp2
    go_quiet (fail)
    go_wp2
    go_ret2
    exact ⟨_, rfl, Oz.nil _ _ _ _, below_drewN HAL.out _⟩
  · have c3 := HCX.out p hp
    have d1 := XD.out p hp
    have g1 : decide ((p : Int) < 0) = false := decide_eq_false (by omega)
    have g2 : decide ((len : Int) ≤ (p : Int)) = false := decide_eq_false (by omega)
    have g3 : decide (len ≤ p) = false := decide_eq_false (by omega)
    have g4 : decide (y < 0) = false := decide_eq_false (by omega)
    have g5 : decide (z ≤ y) = false := decide_eq_false (by omega)
    generalize nd ds p = d at *
    have hd0 : ¬ d = 0 := by omega
    have hqle := Nat.div_le_self n d
    have e1 := nat_quo n d
    have e2 : IntKind.i64.wrap ((n / d : Nat) : Int) = ((n / d : Nat) : Int) := wrap_nat (by omega)
    generalize n / d = q at *
    go_wp2
    go_quiet (fail)
    go_wp2
    go_ret2
    exact ⟨_, rfl, Oz.nil _ _ _ _, below_drewN HAL.out _⟩
set_option maxHeartbeats 4000000 in
set_option maxRecDepth 100000 in
theorem do_ok (ds : List Nat) (zs : List Int) (x k f t : Nat) (tt : T3) (back : Bool) (v v2 : Value) (w : World) (h : Rd .i64 w v (zi ds)) (h2 : Rd .u64 w v2 zs) (hw : W64 (zi ds)) (hs : Shp ds) (hz : B64 zs) (hl : zs.length = pr ds)
    (hxl : x < ds.length) (hk : nd ds x = 2 ^ k) (hft : f < t) (ht : t ≤ pr (ds.take x) * under ds x) (hT : Tb w) (et : tt = ((x : Int), (f : Int), (t : Int))) :
    Calls Tryd.prog 45 #[v, v2, tk tt, .bool back] w (RetZE w (tz back (under ds x) k (pr ds) f t zs) 0) := by
  subst et
  have hk10 := shp_k hs hxl hk
  have hsp := shp_split hxl hk
  have hu := hs.under1 x
  obtain ⟨s, hse⟩ : ∃ s, s = under ds x := ⟨_, rfl⟩
  obtain ⟨M, hM⟩ : ∃ M, M = pr (ds.take x) * under ds x := ⟨_, rfl⟩
  obtain ⟨n, hn⟩ : ∃ n, n = pr ds := ⟨_, rfl⟩
  have hn1 : n ≤ 1024 := by rw [hn]; exact hs.le
  have hn0 : 1 ≤ n := by rw [hn]; exact hs.pr1
  have hN1 := Nat.two_pow_pos k
  have hM1 : 1 ≤ M := by rw [hM]; exact Nat.mul_pos (pr_pos (fun d hd => hs.pos d (List.mem_of_mem_take hd))) hu
  have hMn : M ≤ n := by
    rw [hM, hn, hsp]
    exact Nat.mul_le_mul_left _ (Nat.le_mul_of_pos_left _ hN1)
  have EQ := Lib.hid (show n / nd ds x = M by
    rw [hk, hn, hsp, hM, Nat.mul_left_comm]
    exact Nat.mul_div_cancel_left _ hN1)
  have htM : t ≤ M := by rw [hM]; exact ht
  have LGL := Lib.hid (show (lnz (lns ds x)).length = M by rw [lns_length hs hxl, hM])
  have LG := Lib.hid (show ∀ i, i < M → lg (lnz (lns ds x)) i = zi (line s (2 ^ k) i) from fun i hi => by rw [lns_get hs hxl (by rw [← hM]; exact hi), hk, hse])
  have LIN := Lib.hid (show ∀ L i, L < M → i < 2 ^ k → lineAt s (2 ^ k) L + i * s < n from fun L i hL hi => by
    rw [hn, hsp, ← hse]
    exact lineAt_lt s (2 ^ k) _ L i (by omega) (by rw [hM, ← hse] at hL; exact hL) hi)
  have TS := Lib.hid (show ∀ L, f ≤ L → L < M → puL (tz back s k n f L zs) (line s (2 ^ k) L) (tr back k (fun i => toF (gd (tz back s k n f L zs) (nd (line s (2 ^ k) L) i)))) (2 ^ k) = tz back s k n f (L + 1) zs from fun L hf hL => by
    rw [puL_tzf back s k n f L zs _ (by omega) (fun i hi => by rw [nd_eq, line, List.getElem?_map, List.getElem?_range hi]; rfl) (fun i hi => LIN.out L i hL hi) _ (Nat.le_refl _), tzPart_full _ _ _ _ _ _ _ hf])
  have TL := Lib.hid (fun m => tz_len back s k n f m zs)
  have TB := Lib.hid (fun m => (B64.tz (back := back) (s := s) (k := k) (n := n) (first := f) (last := m) hz (by rw [hl, hn])))
  have T0 := Lib.hid (tz_none back s k n f (zs := zs) (by rw [hl, hn]))
  have LLN := Lib.hid (show ∀ L, (line s (2 ^ k) L).length = 2 ^ k ∧ ∀ i, i < 2 ^ k → nd (line s (2 ^ k) L) i = lineAt s (2 ^ k) L + i * s from fun L => ⟨by simp [line], fun i hi => by rw [nd_eq, line, List.getElem?_map, List.getElem?_range hi]; rfl⟩)
  obtain ⟨w1, hw1⟩ : ∃ w1, w1 = w.alloc (.cells #[.int .i64 x, .int .i64 f, .int .i64 t] 60) := ⟨_, rfl⟩
  obtain ⟨b, hbb⟩ : ∃ b, b = w.heap.size := ⟨_, rfl⟩
  have hal := (Below.refl w.heap.size w).alloc (Nat.le_refl _) (.cells #[.int .i64 x, .int .i64 f, .int .i64 t] 60)
  have K := Blk.new w 60 #[.int .i64 x, .int .i64 f, .int .i64 t]
  rw [← hw1] at hal K
  rw [← hbb] at K
  obtain ⟨k0, k1, k2⟩ := K.cells3
  have K := Lib.hid K
  have X := Lib.hid (h.below hal)
  have Y := Lib.hid (h2.below hal)
  have T := Lib.hid (hT.below hal)
  have T0w := Lib.hid hT
  have hs0 := hal.size
  have HAL := Lib.hid hal
  have HS := Lib.hid hs
  have HW1 := Lib.hid hw1
  have HBB := Lib.hid hbb
  obtain ⟨a2, cap2, rfl, hcap2, hm2⟩ := h2.shape
  obtain ⟨a, cap, sb, so, rfl, hcap, hm, hax, hcx⟩ := X.out.opened
  rw [zi_len] at hcap hax hcx
  have LZ := Lib.hid (zi_len ds)
  rw [LZ.out] at X ⊢
  have hl3 := hs.len3
  obtain rfl := hax.resolve_left (by have := hs.len0; omega)
  have CC := Lib.hid (fun w v h => cloneU_any zs v w h (by omega))
  have CLN := Lib.hid (fun w v h => mLines_ok ds x (x : Int) v w h hw hs hxl rfl)
  rw [← hM] at ht
  rw [← hse, ← hn]
  have HN := Lib.hid hn
  have HL := Lib.hid (show zs.length = n by rw [hl, hn])
  have hcx := hcx x hxl
  rw [gd_zi] at hcx
  have hd1 : 1 ≤ nd ds x := hs.pos _ (nd_mem hxl)
  rw [HL.out] at Y hcap2 ⊢
  clear h h2 hT hse hM hn hsp hN1 hl hu hk hal hw1 hbb hs
  unfold tk
  go_enter Tryd.func45, Tryd.ntmps45
  go_wp2_with fail
  rw [← HW1.out, ← HBB.out]
  refine (mcheck_any (zi ds) _ _ X.out hw).mono ?_
  rintro e w' ⟨he, rfl⟩
  obtain rfl := he.ok HS.out
  rw [← HN.out]
  obtain ⟨len, hlen⟩ : ∃ l, l = ds.length := ⟨_, rfl⟩
  rw [← hlen] at hcap hl3 hxl X ⊢
  clear LZ hlen HS hw
  have EQ := EQ.out
  generalize nd ds x = d at *
  have hd0 : ¬ d = 0 := by omega
  have e1 := nat_quo n d
  rw [EQ] at e1
  have e2 : IntKind.i64.wrap (M : Int) = (M : Int) := wrap_nat (by omega)
  clear EQ
  have g1 : decide ((x : Int) < 0) = false := decide_eq_false (by omega)
  have g2 : decide ((len : Int) ≤ (x : Int)) = false := decide_eq_false (by omega)
  have g3 : decide (len ≤ x) = false := decide_eq_false (by omega)
  have g4 : decide ((f : Int) < 0) = false := decide_eq_false (by omega)
  have g5 : decide ((t : Int) ≤ (f : Int)) = false := decide_eq_false (by omega)
  have g6 : decide (t ≤ f) = false := decide_eq_false (by omega)
  have g7 : decide ((M : Int) < (t : Int)) = false := decide_eq_false (by omega)
  have g8 : decide (M < t) = false := decide_eq_false (by omega)
  go_wp2
  go_quiet (fail)
  clear g1 g2 g3 g4 g5 g6 g7 g8 e1 e2 hcx hd0 hd1 k0 k1 k2
  have hdr := below_drewN (Below.refl w1.heap.size w1) nq
  have X1 := Lib.hid (X.out.below hdr)
  have Y1 := Lib.hid (Y.out.below hdr)
  have T1 := Lib.hid (T.out.below hdr)
  have HB1 := Lib.hid (below_drewN HAL.out nq)
  have K1 := Lib.hid (K.out.bel hdr)
  clear X Y T HAL K hdr HW1
  generalize w1.drewN nq = w2 at *
  have hs1 := HB1.out.size
  go_wp2_with fail
  refine (CC.out _ _ Y1.out).mono ?_
  rintro e w3 ⟨v3, rfl, ho, hb⟩
  obtain ⟨g, c, rfl, hc, hcm⟩ := ho.opened (by rw [HL.out]; exact hn0)
  rw [HL.out] at ho hc ⊢
  have hg := ho.base
  have X3 := Lib.hid (X1.out.below hb)
  have T3 := Lib.hid (T1.out.below hb)
  have K3 := Lib.hid (K1.out.bel hb)
  have O3 := Lib.hid (ho.mono hs1)
  have B3 := Lib.hid (HB1.out.trans (hb.mono hs1))
  have hs3 := B3.out.size
  have hg3 : g < w3.heap.size := by have := ho.lt g (by simp [Value.ownBlock]); exact this.2
  clear ho hb X1 T1 K1 HB1 Y1 CC
  have k0 := K3.out.cells3.1
  go_wp2_with fail
  refine (CLN.out _ _ X3.out).mono ?_
  rintro e w4 ⟨lv, rfl, ho, hb⟩
  obtain ⟨gl, cl, rfl, hcl, hclm⟩ := ho.opened (by rw [LGL.out]; exact hM1)
  have O4 := O3.out.below hb
  rw [← T0.out] at O4
  have O4 := Lib.hid O4
  rw [LGL.out] at hcl
  have L4 := ho
  rw [LGL.out] at L4 ⊢
  have L4 := Lib.hid L4
  have T4 := Lib.hid (T3.out.below hb)
  have K4 := Lib.hid (K3.out.bel hb)
  have B4 := Lib.hid (B3.out.trans (hb.mono hs3))
  clear ho hb O3 B3 X3 T3 K3 CLN k0
  obtain ⟨_, k1, k2⟩ := K4.out.cells3
  have i1 : (0 : Int) ≤ (f : Int) := by omega
  have i2 : (f : Int) ≤ (t : Int) := by omega
  have i3 : (t : Int) ≤ (cl : Int) := by omega
  have i4 : t ≤ cl := by omega
  have i5 : f ≤ t := by omega
  go_wp2
  go_loopw [16, 82] (fun _ i wr => PdRel w w3.heap.size back s k n f t g c zs (.slice (some ⟨gl, 0, none⟩) M cl) (lnz (lns ds x)) i wr) (fun _ i _ => (t - f) - (intOf i).toNat)
  case atStart => exact ⟨0, by omega, rfl, O4.out, L4.out, B4.out⟩
  case round =>
    obtain ⟨m, hm1, rfl, ho, hol, hbel⟩ := hrel
    have OO := Lib.hid ho
    have OLN := Lib.hid hol
    have HB := Lib.hid hbel
    have hwsz := hbel.size
    clear ho hol hbel O4 L4 B4
    by_cases hml : m < t - f
    · obtain ⟨u, hcu, hou⟩ := OLN.out.at (i := f + m) (by rw [LGL.out]; omega)
      rw [LG.out (f + m) (by omega)] at hou
      obtain ⟨ll1, ll2⟩ := LLN.out (f + m)
      have HOU := Lib.hid hou
      have CT := Lib.hid (turnl_any back k g n c w.heap.size w3.heap.size (tz back s k n f (f + m) zs) (line s (2 ^ k) (f + m)) u wr OO.out (TB.out (f + m)) (TL.out (f + m)) hn1 hou hk10 ll1 (fun i hi => by rw [ll2 i hi]; exact LIN.out (f + m) i (by omega) hi) (T0w.out.below HB.out))
      rw [TS.out (f + m) (by omega) (by omega)] at CT
      clear hou ll1 ll2
      go_wp2_with fail
      refine CT.out.mono ?_
      rintro e w5 ⟨rfl, ho3, hon⟩
      have O5 := Lib.hid ho3
      have L5 := Lib.hid (OLN.out.only hon (fun gg h1 h2 e => by omega))
      have B5 := Lib.hid (HB.out.trans (hon.below hwsz (fun gg e => by omega)))
      clear ho3 hon hcu
      go_wp2
      go_roundw
      case rel => exact ⟨m + 1, by omega, by go_num, O5.out, L5.out, B5.out⟩
      case measure => simp [intOf] <;> omega
    · obtain rfl : m = t - f := by omega
      rw [show f + (t - f) = t by omega] at OO
      go_wp2
      go_ret2
      exact ⟨_, rfl, OO.out, HB.out⟩
end Go.Proofs.YtkcfnbfkbmgchaaDoor.Gm
