/- exec.check, exec.New of right things. -/
import Derived.Test.YtcakeenfkdhedaaDoorEl
import Derived.Test.YtcakeenfkdhedaaDoorSk
import Derived.Test.YtcakeenfkdhedaaDoorCi
namespace Go.Proofs.YtcakeenfkdhedaaDoor.Gm
open Go.RowKit
set_option linter.unusedVariables false
theorem pck_ok (ks : List Nat) (ll : List (List T3)) (v v2 : Value) (w : World) (h : Rd .i64 w v (zi (szs ks))) (h2 : RPs w v2 ll) (hw : W64 (zi (szs ks))) (hg : GL ks ll) :
    Calls Tryd.prog 12 #[v, v2] w (RetV w (.int .i64 0)) := by
  refine (pcheck_any (szs ks) ll v v2 w h h2 hw hg.shp (fun i hi => by have := hg.le i hi; omega)).mono ?_
  rintro e w' ⟨m, rfl, hk, hb⟩
  refine ⟨?_, hb⟩
  rcases hk with ⟨_, h5 | ⟨x, hx, h5⟩⟩ | ⟨_, _, ⟨_, i, hi, h5⟩ | ⟨rfl, _⟩⟩
  · exact absurd (by rw [hg.len, szs_len]) h5
  · exact absurd (hg.rp x (by rw [hg.len, ← szs_len]; exact hx)) h5
  · have := hg.le i hi; omega
  · rfl
theorem xcheck_ok (ks : List Nat) (ll : List (List T3)) (zs : List Int) (W : Nat) (v v2 v3 : Value) (w : World) (h : Rd .i64 w v (zi (szs ks))) (h2 : Rd .u64 w v2 zs) (h3 : RPs w v3 ll) (hw : W64 (zi (szs ks))) (hg : GL ks ll) (hl : zs.length = pk ks) (hW : 1 ≤ W) (hW8 : W ≤ 8) :
    Calls Tryd.prog 54 #[v, v2, v3, .int .i64 (W : Int)] w (RetV w (.int .i64 0)) := by
  have CP := Lib.hid (pck_ok ks ll v v3 w h h3 hw hg)
  have CM := Lib.hid (fun w h => mcheck_any (zi (szs ks)) v w h hw)
  have X := Lib.hid h
  have HS := Lib.hid hg.shp
  obtain ⟨a2, cap2, rfl, hcap2, hm2⟩ := h2.shape
  have hle := hg.shp.le
  rw [hl]
  clear h h2 h3 hg hw hcap2 hm2 hl
  go_enter Tryd.func54, Tryd.ntmps54
  go_wp2_with fail
  refine CP.out.mono ?_
  rintro e w1 ⟨rfl, hb⟩
  have X1 := Lib.hid (X.out.below hb)
  have B1 := Lib.hid hb
  clear hb
  go_wp2_with fail
  refine (CM.out _ X1.out).mono ?_
  rintro e w2 ⟨he, rfl⟩
  obtain rfl := he.ok HS.out
  rw [show pr (szs ks) = pk ks from rfl] at hle ⊢
  generalize pk ks = n at *
  have g1 : decide ((W : Int) < 1) = false := decide_eq_false (by omega)
  have g2 : decide ((8 : Int) < (W : Int)) = false := decide_eq_false (by omega)
  have g3 : decide (8 < W) = false := decide_eq_false (by omega)
  go_wp2
  go_ret
  exact ⟨rfl, B1.out⟩
theorem OP.grow {B : Nat} {w w' : World} {v v' u : Value} {ll : List (List T3)} {l : List T3} {vs : List Value} (h1 : w.ownsRow B 63 1 v ll.length vs) (h2 : vs.length = ll.length) (h3 : ∀ i u, vs[i]? = some u → Ot B w u (pg ll i)) (hu : Ot B w u l) (hg : w.grownBy w' v.ownBlock)
    (h' : w'.ownsRow B 63 1 v' (ll.length + 1) (vs ++ [u])) : OP B w' v' (ll ++ [l]) := by
  have hO : Only (fun k => v.ownBlock = some k) w w' := Only.of_grown (S := fun k => v.ownBlock = some k) hg (fun _ e => e)
  have keep : ∀ {u' : Value} {l' : List T3}, Ot B w u' l' → Ot B w' u' l' := by
    intro u' l' hz
    refine hz.only hO (fun g e e' => ?_)
    rcases own_ne hz h1 (by decide) with hh | hh
    · rw [e] at hh; cases hh
    · exact hh (by rw [e, e'])
  refine ⟨vs ++ [u], ?_, ?_, ?_⟩
  · rw [List.length_append, List.length_singleton]; exact h'
  · rw [List.length_append, List.length_append, h2]; rfl
  · intro i y hy
    rw [pg_eq]
    by_cases hil : i < vs.length
    · rw [List.getElem?_append_left hil] at hy
      rw [List.getElem?_append_left (by omega), ← pg_eq]
      exact keep (h3 i y hy)
    · have hi2 : i = vs.length := by
        have := (List.getElem?_eq_some_iff.1 hy).1
        rw [List.length_append, List.length_singleton] at this
        omega
      subst hi2
      rw [List.getElem?_append_right (Nat.le_refl _)] at hy
      simp at hy
      subst hy
      rw [h2, List.getElem?_append_right (Nat.le_refl _)]
      simpa using keep hu
def ecs (vsh var vph : Value) (back : Bool) (vdq : Value) : Array Value := #[vsh, var, vph, .bool back, vdq, .int .i64 0, .int .i64 0, .slice none 0 0]
def NwA (w : World) (R : Nat) (vsh var : Value) (back : Bool) (ll : List (List T3)) (i : Value) (wr : World) : Prop :=
  ∃ m vph, m ≤ ll.length ∧ i = .int .i64 (m : Int) ∧ Blk wr R 92 (ecs vsh var vph back (.slice none 0 0)) ∧ OP w.heap.size wr vph (ll.take m) ∧ Only (fun k => k = R) w wr
theorem info_pdq : (Tryd.prog.info? 93).map (fun i => (i.zero, i.size, i.bytes)) = some (some (.pointer none), 1, 8) := by kernel_rfl
def pdl (D : Nat → Nat) (m : Nat) : List Value := (List.range m).map fun i => .pointer (some ⟨D i, 0, none⟩)
theorem pdl_succ (D : Nat → Nat) (m d : Nat) : pdl (fun i => if i = m then d else D i) (m + 1) = pdl D m ++ [.pointer (some ⟨d, 0, none⟩)] := by
  unfold pdl
  rw [List.range_succ, List.map_append]
  congr 1
  · refine List.map_congr_left fun i hi => ?_
    have := List.mem_range.1 hi
    show Value.pointer (some ⟨if i = m then d else D i, 0, none⟩) = _
    rw [if_neg (by omega)]
  · simp
structure NwD (B : Nat) (wr : World) (vdq : Value) (D G : Nat → Nat) (m : Nat) : Prop where
  row : wr.ownsRow B 93 1 vdq m (pdl D m)
  dq : ∀ i, i < m → DqAt wr (D i) (G i) 64 [] ∧ B ≤ D i ∧ B ≤ G i
  inj : ∀ i j, i < m → j < m → i ≠ j → D i ≠ D j ∧ G i ≠ G j
def NwB (w : World) (R W : Nat) (vsh var vph : Value) (back : Bool) (i : Value) (wr : World) : Prop :=
  ∃ m vdq D G, m ≤ W ∧ i = .int .i64 (m : Int) ∧ Blk wr R 92 (ecs vsh var vph back vdq) ∧ NwD w.heap.size wr vdq D G m ∧ Only (fun k => k = R) w wr
/-- one deque more -/
theorem NwD.grow {B m d g : Nat} {w w' : World} {v v' : Value} {D G : Nat → Nat} (h : NwD B w v D G m) (hd : DqAt w d g 64 []) (hB : B ≤ d ∧ B ≤ g) (hnew : ∀ i, i < m → D i ≠ d ∧ G i ≠ g) (hg : w.grownBy w' v.ownBlock) (h' : w'.ownsRow B 93 1 v' (m + 1) (pdl D m ++ [.pointer (some ⟨d, 0, none⟩)])) :
    NwD B w' v' (fun i => if i = m then d else D i) (fun i => if i = m then g else G i) (m + 1) := by
  have hO : Only (fun k => v.ownBlock = some k) w w' := Only.of_grown (S := fun k => v.ownBlock = some k) hg (fun _ e => e)
  have keep : ∀ {a b : Nat}, DqAt w a b 64 [] → DqAt w' a b 64 [] := by
    intro a b hz
    obtain ⟨⟨c1, b1⟩, ⟨c2, b2⟩⟩ := hz.blk
    exact hz.only hO (own_blk_ne h.row b1 (by decide)) (own_blk_ne h.row b2 (by decide))
  refine ⟨by rw [pdl_succ]; exact h', fun i hi => ?_, fun i j hi hj hij => ?_⟩
  · by_cases e : i = m
    · simp only [e, if_true]; exact ⟨keep hd, hB⟩
    · simp only [e, if_false]; exact ⟨keep (h.dq i (by omega)).1, (h.dq i (by omega)).2⟩
  · by_cases e : i = m
    · have e2 : j ≠ m := by omega
      simp only [e, e2, if_true, if_false]
      have := hnew j (by omega)
      exact ⟨fun h => this.1 h.symm, fun h => this.2 h.symm⟩
    · by_cases e2 : j = m
      · simp only [e, e2, if_true, if_false]
        exact hnew i (by omega)
      · simp only [e, e2, if_false]
        exact h.inj i j (by omega) (by omega) hij
theorem NwD.only {S : Nat → Prop} {B m : Nat} {w w' : World} {v : Value} {D G : Nat → Nat} (h : NwD B w v D G m) (ho : Only S w w') (hS : ∀ k, S k → k < B ∨ w.heap.size ≤ k) : NwD B w' v D G m :=
  ⟨own_only h.row ho (fun k hk hs => by have := World.ownsRow.lt h.row k hk; have := hS k hs; omega), fun i hi => ⟨(h.dq i hi).1.only ho (fun hs => by have := (h.dq i hi).1.lt; have := (h.dq i hi).2; have := hS _ hs; omega) (fun hs => by have := (h.dq i hi).1.lt; have := (h.dq i hi).2; have := hS _ hs; omega), (h.dq i hi).2⟩, h.inj⟩
theorem own_mono {B B' : Nat} {e : TypeId} {size n : Nat} {w : World} {v : Value} {xs : List Value} (h : w.ownsRow B e size v n xs) (hB : B' ≤ B) : w.ownsRow B' e size v n xs := by
  refine ⟨h.1, ?_⟩
  rcases h.2 with h0 | ⟨g, cap, cur, e, hb, rest⟩
  · exact .inl h0
  · exact .inr ⟨g, cap, cur, e, by omega, rest⟩
theorem pg_rep (W i : Nat) : pg (List.replicate W []) i = [] := by
  rw [pg_eq, List.getElem?_replicate]
  split <;> rfl
/-- a new run, its tasks not dealt yet -/
theorem run_new {w4 w5 wr : World} {B R W : Nat} {vsh var vph vdq : Value} {back : Bool} {ks : List Nat} {ll : List (List T3)} {zs : List Int} {D G : Nat → Nat} {cs4 : Array Value} (hK4 : Blk w4 R 92 cs4) (hB : B ≤ R)
    (hSH : Oz .i64 3 B w4 vsh (zi (szs ks))) (hAR : Oz .u64 52 B w4 var zs) (O45 : Only (fun k => k = R) w4 w5) (hOP : OP w4.heap.size w5 vph ll) (O5 : Only (fun k => k = R) w5 wr) (hK : Blk wr R 92 (ecs vsh var vph back vdq)) (ND : NwD w5.heap.size wr vdq D G W) :
    ∃ C M : Nat → Prop, RunAt wr C M ⟨R, vsh, vph, vdq, D, G, W, back, ks, ll⟩ ⟨zs, List.replicate W [], 0, 0, []⟩ ∧ ∀ k, C k ∨ M k → B ≤ k := by
  have hRl := hK4.lt
  have h45 := O45.size
  have h5 := O5.size
  have O4 : Only (fun k => k = R) w4 wr := O45.trans O5
  have nsh : vsh.ownBlock ≠ some R := own_blk_ne hSH hK4 (by decide)
  have nar : var.ownBlock ≠ some R := own_blk_ne hAR hK4 (by decide)
  have lsh := fun g hg => World.ownsRow.lt hSH g hg
  have lar := fun g hg => World.ownsRow.lt hAR g hg
  have ldq := fun g hg => World.ownsRow.lt ND.row g hg
  obtain ⟨vs, p1, p2, p3⟩ := hOP
  have lph := fun g hg => World.ownsRow.lt p1 g hg
  refine ⟨fun k => (B ≤ k ∧ k < w5.heap.size ∧ k ≠ R ∧ var.ownBlock ≠ some k) ∨ vdq.ownBlock = some k, fun k => k = R ∨ var.ownBlock = some k ∨ ∃ i, i < W ∧ (k = D i ∨ k = G i), ⟨var, .slice none 0 0, ?_⟩, ?_⟩
  · refine { run := hK, mR := .inl rfl, sh := ?_, shC := ?_, ph := ?_, phC := ?_, dq := ?_, dqC := fun g hg => .inr hg, ds := ?_, dsM := fun i hi => ⟨.inr (.inr ⟨i, hi, .inl rfl⟩), .inr (.inr ⟨i, hi, .inr rfl⟩)⟩, inj := ND.inj, ar := ?_, arM := fun g hg => .inr (.inl hg), log := Ot.nil _ _, logM := fun g hg => (by cases hg), apart := ?_, lt := ?_ }
    · exact own_only (own_mono (B' := 0) hSH (by omega)) O4 (fun k hk e => nsh (e ▸ hk))
    · intro g hg
      have := lsh g hg
      refine .inl ⟨this.1, by omega, fun e => nsh (e ▸ hg), fun e => ?_⟩
      rcases own_ne hSH hAR (by decide) with hh | hh
      · rw [hg] at hh; cases hh
      · exact hh (by rw [hg, e])
    · refine ⟨vs, own_only (own_mono (B' := 0) p1 (by omega)) O5 (fun k hk e => by have := lph k hk; omega), p2, fun i u hu => ⟨?_, fun g hg => ?_⟩⟩
      · exact ((p3 i u hu).mono (by omega)).only O5 (fun k hk e => by have := (p3 i u hu).lt k hk; omega)
      · have h1 := (p3 i u hu).lt g hg
        exact .inl ⟨by omega, h1.2, by omega, fun e => by have := lar g e; omega⟩
    · intro g hg
      have h1 := lph g hg
      exact .inl ⟨by omega, h1.2, by omega, fun e => by have := lar g e; omega⟩
    · exact own_mono (B' := 0) ND.row (by omega)
    · intro i hi
      show DqAt wr (D i) (G i) 64 (pg (List.replicate W []) i)
      rw [pg_rep]
      exact (ND.dq i hi).1
    · exact own_only (own_mono (B' := 0) hAR (by omega)) O4 (fun k hk e => nar (e ▸ hk))
    · rintro k hk hc
      rcases hk with rfl | hk | ⟨i, hi, hk⟩
      · rcases hc with hc | hc
        · exact hc.2.2.1 rfl
        · have := ldq k hc; omega
      · rcases hc with hc | hc
        · exact hc.2.2.2 hk
        · have := ldq k hc; have := lar k hk; omega
      · obtain ⟨⟨c1, b1⟩, ⟨c2, b2⟩⟩ := (ND.dq i hi).1.blk
        have h3 := (ND.dq i hi).2
        rcases hc with hc | hc
        · rcases hk with rfl | rfl <;> omega
        · rcases hk with rfl | rfl
          · exact own_blk_ne ND.row b1 (by decide) hc
          · exact own_blk_ne ND.row b2 (by decide) hc
    · rintro k (hc | hk)
      · rcases hc with hc | hc
        · omega
        · exact (ldq k hc).2
      · rcases hk with rfl | hk | ⟨i, hi, hk⟩
        · omega
        · have := lar k hk; omega
        · have := (ND.dq i hi).1.lt
          rcases hk with rfl | rfl
          · exact this.1
          · exact this.2
  · rintro k (hc | hk)
    · rcases hc with hc | hc
      · exact hc.1
      · have := ldq k hc; omega
    · rcases hk with rfl | hk | ⟨i, hi, hk⟩
      · exact hB
      · exact (lar k hk).1
      · have := (ND.dq i hi).2
        rcases hk with rfl | rfl <;> omega
set_option maxHeartbeats 2000000 in
set_option maxRecDepth 100000 in
theorem xnew_ok (ks : List Nat) (ll : List (List T3)) (zs : List Int) (W : Nat) (back : Bool) (v v2 v3 : Value) (w : World) (h : Rd .i64 w v (zi (szs ks))) (h2 : Rd .u64 w v2 zs) (h3 : RPs w v3 ll) (hw : W64 (zi (szs ks))) (hg : GL ks ll) (hl : zs.length = pk ks) (hW : 1 ≤ W) (hW8 : W ≤ 8) :
    Calls Tryd.prog 18 #[v, v2, v3, .int .i64 (W : Int), .bool back] w fun e w' => ∃ (r : Rn) (C M : Nat → Prop), e = .returned (.tuple #[.pointer (some ⟨r.R, 0, none⟩), .int .i64 0]) ∧ RunAt w' C M r (st0 W ll zs) ∧ r.W = W ∧ r.back = back ∧ r.ks = ks ∧ r.ll = ll ∧ (∀ k, C k ∨ M k → w.heap.size ≤ k) ∧ Below w.heap.size w w' := by
  have CK := Lib.hid (xcheck_ok ks ll zs W v v2 v3 w h h2 h3 hw hg hl hW hW8)
  have hks := hg.shp.len3
  have hks1 := hg.shp.len0
  rw [szs_len] at hks hks1
  have CS := Lib.hid (fun w h => cloneI_any (zi (szs ks)) v w h (by rw [zi_len, szs_len]; omega))
  have CU := Lib.hid (fun w h => cloneU_any zs v2 w h (by have := hg.shp.le; rw [show pr (szs ks) = pk ks from rfl] at this; omega))
  have CP := Lib.hid (fun w i u (hi : i < ll.length) h hn => cloneP_any (pg ll i) u w h hn (by have := hg.le i hi; omega))
  have X := Lib.hid h
  have Y := Lib.hid h2
  have Z := Lib.hid h3
  have HG := Lib.hid hg
  obtain ⟨N, hN⟩ : ∃ N, N = ll.length := ⟨_, rfl⟩
  have hN3 : N ≤ 3 := by rw [hN, hg.len]; exact hks
  have hN1 : 1 ≤ N := by rw [hN, hg.len]; exact hks1
  obtain ⟨a3, q3, b3, o3, rfl, hk3, hm3, hx3, hc3⟩ := h3
  rw [← hN] at hk3 hx3 CK Z ⊢
  obtain rfl := hx3.resolve_left (by omega)
  have HN := Lib.hid hN
  have HC := Lib.hid hc3
  clear h h2 hw hg hl hN hc3 hks hks1
  go_enter Tryd.func18, Tryd.ntmps18
  go_wp2_with fail
  refine CK.out.mono ?_
  rintro e w1 ⟨rfl, hb⟩
  have B1 := Lib.hid hb
  have X1 := Lib.hid (X.out.below hb)
  have Y1 := Lib.hid (Y.out.below hb)
  have hs1 := hb.size
  clear hb X Y CK
  go_wp2_with fail
  refine (CS.out _ X1.out).mono ?_
  rintro e w2 ⟨vsh, rfl, ho, hb⟩
  have SH2 := Lib.hid ho
  have Y2 := Lib.hid (Y1.out.below hb)
  have B2 := Lib.hid (B1.out.trans (hb.mono hs1))
  have hs2 := B2.out.size
  have hs12 := hb.size
  clear ho hb X1 Y1 B1 CS
  go_wp2_with fail
  refine (CU.out _ Y2.out).mono ?_
  rintro e w3 ⟨var, rfl, ho, hb⟩
  have SH3 := Lib.hid ((SH2.out.mono (B' := w.heap.size) hs1).below hb)
  have AR3 := Lib.hid (ho.mono hs2)
  have B3 := Lib.hid (B2.out.trans (hb.mono hs2))
  have hs3 := B3.out.size
  clear ho hb SH2 Y2 B2 CU
  obtain ⟨sa, scap, rfl, _⟩ := own_shape SH3.out
  obtain ⟨ua, ucap, rfl, _⟩ := own_shape AR3.out
  obtain ⟨ls, hls⟩ : ∃ ls, ls = (zi (szs ks)).length := ⟨_, rfl⟩
  obtain ⟨lu, hlu⟩ : ∃ lu, lu = zs.length := ⟨_, rfl⟩
  rw [← hls] at SH3
  rw [← hlu] at AR3
  rw [← hls, ← hlu]
  clear hls hlu
  go_wp2
  have K4 := Blk.new w3 92 #[.slice sa ls scap, .slice ua lu ucap, .slice none 0 0, .bool back, .slice none 0 0, .int .i64 0, .int .i64 0, .slice none 0 0]
  have hal := (Below.refl w3.heap.size w3).alloc (Nat.le_refl _) (.cells #[.slice sa ls scap, .slice ua lu ucap, .slice none 0 0, .bool back, .slice none 0 0, .int .i64 0, .int .i64 0, .slice none 0 0] 92)
  have hz4 : (w3.alloc (.cells #[.slice sa ls scap, .slice ua lu ucap, .slice none 0 0, .bool back, .slice none 0 0, .int .i64 0, .int .i64 0, .slice none 0 0] 92)).heap.size = w3.heap.size + 1 := by simp
  obtain ⟨R, hR⟩ : ∃ R, R = w3.heap.size := ⟨_, rfl⟩
  rw [← hR] at K4 hz4 ⊢
  generalize w3.alloc (.cells #[.slice sa ls scap, .slice ua lu ucap, .slice none 0 0, .bool back, .slice none 0 0, .int .i64 0, .int .i64 0, .slice none 0 0] 92) = w4 at *
  have SH4 := Lib.hid (SH3.out.below hal)
  have AR4 := Lib.hid (AR3.out.below hal)
  have B4 := Lib.hid (B3.out.trans (hal.mono hs3))
  have K4 := Lib.hid K4
  have hwR : w.heap.size ≤ R := by omega
  have HRV := Lib.hid hR
  clear hal SH3 AR3 B3 hR
  go_loopw [15, 35] (fun _ i wr => NwA w4 R (.slice sa ls scap) (.slice ua lu ucap) back ll i wr) (fun _ i _ => N - (intOf i).toNat)
  case atStart => exact ⟨0, _, by omega, rfl, K4.out, by rw [List.take_zero]; exact OP.nil _ _, Only.refl _ _⟩
  case round =>
    obtain ⟨m, vph, hm, rfl, hk, hop, ho⟩ := hrel
    have hm : m ≤ N := by rw [HN.out]; exact hm
    have KR := Lib.hid hk
    have OPH := Lib.hid hop
    have HO := Lib.hid ho
    clear hk hop ho
    by_cases hml : m < N
    · obtain ⟨u, cu, ru, nu⟩ := HC.out m (by rw [← HN.out]; exact hml)
      have hbw := B4.out.trans (HO.out.below (B := w.heap.size) (by omega) (fun k e => by omega))
      have cu := (hbw.cell (p := ⟨b3, o3 + m, none⟩) (World.block_lt_of_cell? w _ cu)).trans cu
      have ru := ru.below hbw
      have HBW := Lib.hid hbw
      have CPm := Lib.hid (fun W h => CP.out W m u (by rw [← HN.out]; exact hml) h nu)
      obtain ⟨ua', ucap', rfl, _⟩ := ru.shape
      have RU := Lib.hid ru
      have hvp := OPH.out.shape
      obtain ⟨pa, pc, rfl, hpc, hpm⟩ := hvp
      have hlen : (ll.take m).length = m := by rw [List.length_take, ← HN.out]; omega
      rw [hlen] at OPH KR hpc
      clear ru nu hbw hlen
      go_wp2_with fail
      have c2 : wr.cell? ⟨R, 2, none⟩ = some (.slice pa m pc) := KR.out.cell 2
      have hRl : R < wr.heap.size := KR.out.lt
      refine wp_region_lastL 11 (fun w' => w'.cell? ⟨R, 2, none⟩ = some (.slice pa m pc)) rfl rfl (by kernel_rfl) (by kernel_rfl) rfl (by kernel_rfl) (by kernel_rfl) (by kernel_rfl) ?_
      simp only [List.take_succ_cons, List.take_zero]
      have hS : wr.drew.cell? ⟨R, 2, none⟩ = some (.slice pa m pc) := c2
      refine wpAnyH_take (i := 0) (v := ?_) rfl (by kernel_rfl) (by kernel_rfl) (by kernel_rfl) (fun _ _ _ h => h) (Or.inl ⟨by rfl, ?_⟩) hS ?_
      rotate_left
      · ((intro w' hw'; (try dsimp only at hw'); go_simp) <;> with_reducible rfl)
      simp only [Act.put, List.setIfInBounds_toArray, List.set_cons_zero, List.set_cons_succ]
      refine wpAnyH_take (i := 1) (v := ?_) rfl (by kernel_rfl) (by kernel_rfl) (by kernel_rfl) (fun _ _ _ h => h) (Or.inl ⟨by rfl, ?_⟩) hS ?_
      rotate_left
      · ((intro w' hw'; (try dsimp only at hw'); go_simp) <;> with_reducible rfl)
      simp only [Act.put, List.setIfInBounds_toArray, List.set_cons_zero, List.set_cons_succ]
      refine wpAnyH_take (i := 2) (v := ?_) rfl (by kernel_rfl) (by kernel_rfl) (by kernel_rfl) (fun _ _ _ h => h) (Or.inl ⟨by rfl, ?_⟩) hS ?_
      rotate_left
      · ((intro w' hw'; (try dsimp only at hw'); go_simp) <;> with_reducible rfl)
      simp only [Act.put, List.setIfInBounds_toArray, List.set_cons_zero, List.set_cons_succ]
      refine wpAnyH_take (i := 3) (v := ?_) rfl (by kernel_rfl) (by kernel_rfl) (by kernel_rfl) (fun _ _ _ h => h) (Or.inl ⟨by rfl, ?_⟩) hS ?_
      rotate_left
      · ((intro w' hw'; (try dsimp only at hw'); go_simp) <;> with_reducible rfl)
      simp only [Act.put, List.setIfInBounds_toArray, List.set_cons_zero, List.set_cons_succ]
      refine wpAnyH_take (i := 4) (v := ?_) rfl (by kernel_rfl) (by kernel_rfl) (by kernel_rfl) (fun _ _ _ h => h) (Or.inl ⟨by rfl, ?_⟩) hS ?_
      rotate_left
      · ((intro w' hw'; (try dsimp only at hw'); go_simp) <;> with_reducible rfl)
      simp only [Act.put, List.setIfInBounds_toArray, List.set_cons_zero, List.set_cons_succ]
      refine wpAnyH_take (i := 5) (v := ?_) rfl (by kernel_rfl) (by kernel_rfl) (by kernel_rfl) (fun _ _ _ h => h) (Or.inl ⟨by rfl, ?_⟩) hS ?_
      rotate_left
      · ((intro w' hw'; (try dsimp only at hw'); go_simp) <;> with_reducible rfl)
      simp only [Act.put, List.setIfInBounds_toArray, List.set_cons_zero, List.set_cons_succ]
      refine wpAnyH_ready (rs := [6]) (by kernel_rfl) (by simp) ?_
      refine AllReadyH.cons rfl (fun K hK => ?_) AllReadyH.nil
      rw [if_pos (by rfl)]
      go_simp
      refine (CPm.out _ (RU.out.below (w' := wr.drew) (below_drewN (Below.refl _ _) 1))).mono ?_
      rintro e w5 ⟨v5, rfl, ho5, hb5⟩
      have hb5 : Below wr.heap.size wr w5 := (below_drewN (Below.refl wr.heap.size wr) 1).trans hb5
      obtain ⟨a5, q5, rfl, _⟩ := own_shape ho5
      have c2 := (hb5.cell (p := ⟨R, 2, none⟩) hRl).trans c2
      refine hK.out _ _ c2 (fun hS => ?_)
      clear hK K
      have K5 := Lib.hid (Blk.below KR.out hb5 hRl)
      have P5 := Lib.hid (OPH.out.below hb5)
      have O5 := Lib.hid (HO.out.then hb5 HO.out.size)
      have V5 := Lib.hid (Ot.mono ho5 (B' := w4.heap.size) HO.out.size)
      have hs5 := hb5.size
      clear ho5 hb5 KR OPH
      refine wpAnyH_ready (rs := [7]) (by kernel_rfl) (by simp) ?_
      refine AllReadyH.cons rfl (fun K hK => ?_) AllReadyH.nil
      rw [if_pos (by rfl)]
      go_simp
      have hal := (Below.refl w5.heap.size w5).alloc (Nat.le_refl _) (.cells #[.slice a5 (pg ll m).length q5] 63)
      have c2 := (hal.cell (p := ⟨R, 2, none⟩) (by show R < w5.heap.size; omega)).trans c2
      refine hK.out _ _ c2 (fun hS => ?_)
      clear hK K
      have K6 := Lib.hid (K5.out.alloc (.cells #[.slice a5 (pg ll m).length q5] 63))
      have P6 := Lib.hid (P5.out.below hal)
      have O6 := Lib.hid (O5.out.alloc (.cells #[.slice a5 (pg ll m).length q5] 63))
      have V6 := Lib.hid (V5.out.below hal)
      have hb6 := Blk.new w5 63 #[.slice a5 (pg ll m).length q5]
      obtain ⟨g6, hg6⟩ : ∃ g, g = w5.heap.size := ⟨_, rfl⟩
      rw [← hg6] at hb6 ⊢
      clear hal P5 O5 V5 K5 hg6
      generalize w5.alloc (.cells #[.slice a5 (pg ll m).length q5] 63) = w6 at *
      have hs6 := O6.out.size
      obtain ⟨vs, p1, p2, p3⟩ := P6.out
      have hlen : (ll.take m).length = m := by rw [List.length_take, ← HN.out]; omega
      have P1 := p1
      rw [hlen] at P1
      have HLEN := Lib.hid hlen
      have PS := Lib.hid (And.intro p1 (And.intro p2 p3))
      have P1 := Lib.hid P1
      clear p1 p2 p3 hlen
      refine wpAnyH_ready (rs := [8]) (by kernel_rfl) (by simp) ?_
      refine AllReadyH.cons rfl (fun K hK => ?_) AllReadyH.nil
      rw [if_pos (by rfl)]
      refine st_appG 63 23 (.slice none 0 0) 1 24 Tryd.underlying23 info_phase rfl (by decide) (by decide) w6 (.tmp 43) (.tmp 46) rfl w4.heap.size g6 (.slice pa m pc) m vs #[.slice a5 (pg ll m).length q5] rfl (by intro x hx; simp at hx; subst hx; rfl) rfl rfl P1.out hb6 hs6 (by omega) ?_
      intro v7 w7 p7 hg7 hat
      obtain ⟨a7, c7, rfl, _⟩ := own_shape p7
      have hne : some R ≠ (Value.slice pa m pc).ownBlock := fun e => own_blk_ne P1.out K6.out (by decide) e.symm
      have c2 := (K6.out.grown hg7 hne).cell 2
      refine hK.out _ _ c2 (fun hS => ?_)
      clear hK K
      simp only [Act.put, List.setIfInBounds_toArray, List.set_cons_zero, List.set_cons_succ]
      refine wpAnyH_take (i := 9) (v := ?_) rfl (by kernel_rfl) (by kernel_rfl) (by kernel_rfl) (fun _ _ _ h => h) (Or.inl ⟨by rfl, ?_⟩) hS ?_
      rotate_left
      · ((intro w' hw'; (try dsimp only at hw'); go_simp) <;> with_reducible rfl)
      simp only [Act.put, List.setIfInBounds_toArray, List.set_cons_zero, List.set_cons_succ]
      refine wpAnyH_take (i := 10) (v := ?_) rfl (by kernel_rfl) (by kernel_rfl) (by kernel_rfl) (fun _ _ _ h => h) (Or.inl ⟨by rfl, ?_⟩) hS ?_
      rotate_left
      · ((intro w' hw'; (try dsimp only at hw'); go_simp) <;> with_reducible rfl)
      simp only [Act.put, List.setIfInBounds_toArray, List.set_cons_zero, List.set_cons_succ]
      refine wpAnyH_done (by kernel_rfl) ?_ _
      have K7 := Lib.hid (K6.out.grown hg7 hne)
      obtain ⟨t1, t2, t3⟩ := PS.out
      have O7 := Lib.hid (show OP w4.heap.size w7 (.slice a7 (m + 1) c7) (ll.take m ++ [pg ll m]) from OP.grow t1 t2 t3 V6.out hg7 (by rw [HLEN.out]; exact p7))
      have B7 := Lib.hid (O6.out.trans2 (Only.of_grown (S := fun k => w4.heap.size ≤ k) hg7 (fun k hk => (World.ownsRow.lt P1.out k hk).1)) (fun k hk hk2 => absurd hk (by omega)))
      refine st_storeS 23 (fun _ => rfl) w7 (.tmp 49) (.tmp 47) rfl R 2 92 _ a7 (m + 1) c7 rfl rfl K7.out (by show 2 < 8; decide) ?_
      intro w8 hb8 ho8 hs8
      have O8 := Lib.hid (O7.out.only ho8 (fun k hk _ e => by rw [e] at hk; omega))
      have B8 := Lib.hid (B7.out.trans ho8)
      have K8 := Lib.hid hb8
      clear hb8 ho8 p7 hg7 hat c2 hS K7 O7 B7 V6 P1 P6 O6 PS hne t1 t2 t3 hb6 K6
      go_wp2
      go_roundw
      case rel => exact ⟨m + 1, _, by rw [← HN.out]; omega, by go_num, K8.out, by rw [List.take_succ_eq_append_getElem (by rw [← HN.out]; exact hml), ← pg_lt]; exact O8.out, B8.out⟩
      case measure => simp [intOf] <;> omega
    · obtain rfl : N = m := by omega
      have hlen : ll.take N = ll := by rw [HN.out]; exact List.take_length
      rw [hlen] at OPH
      clear CP HC hlen
      have W5 := Lib.hid (HO.out)
      have hs5 := HO.out.size
      have KR5 := Lib.hid KR.out
      go_wp2
      clear HO KR
      obtain ⟨pa, pc, rfl, _⟩ := OPH.out.shape
      rw [← HN.out] at KR5 OPH
      generalize wr = w5 at *
      go_loopw [16, 17, 52] (fun _ _ i wr => NwB w5 R W (.slice sa ls scap) (.slice ua lu ucap) (.slice pa N pc) back i wr) (fun _ _ i _ => W - (intOf i).toNat)
      case atStart => exact ⟨0, _, fun _ => 0, fun _ => 0, by omega, rfl, KR5.out, ⟨World.ownsRow_nil _ _ _ _, fun i hi => absurd hi (by omega), fun i j hi => absurd hi (by omega)⟩, Only.refl _ _⟩
      case round =>
        obtain ⟨m, vdq, D, G, hm, rfl, hk, hd, ho⟩ := hrel
        have KR := Lib.hid hk
        have ND := Lib.hid hd
        have HO := Lib.hid ho
        clear hk hd ho
        by_cases hml : m < W
        · go_wp2_with fail
          refine (dnew_any 64 64 wr (by omega) (by omega) rfl).mono ?_
          rintro e w6 ⟨d, g, rfl, hd1, hd2, hdq, hb⟩
          have hRl : R < wr.heap.size := KR.out.lt
          have KR6 := Lib.hid (Blk.below KR.out hb hRl)
          have ND6 := Lib.hid (ND.out.only (Only.of_below (S := fun k => wr.heap.size ≤ k) hb (fun k _ hk => hk)) (fun k hk => .inr hk))
          have HO6 := Lib.hid (HO.out.then hb HO.out.size)
          have DQ6 := Lib.hid hdq
          have NE6 := Lib.hid (show ∀ i, i < m → D i ≠ d ∧ G i ≠ g from fun i hi => by
            have h1 := (ND.out.dq i hi).1.lt
            omega)
          have hs6 := hb.size
          have hsw := HO.out.size
          obtain ⟨qa, qc, rfl, _⟩ := own_shape ND.out.row
          have hRl6 : R < w6.heap.size := by omega
          have hBd : w5.heap.size ≤ d ∧ w5.heap.size ≤ g := by omega
          clear hdq hb KR ND HO hd1 hd2
          have c2 : w6.cell? ⟨R, 4, none⟩ = some (.slice qa m qc) := KR6.out.cell 4
          have hs6w : w5.heap.size ≤ w6.heap.size := by omega
          have hml6 : m ≤ 1000000 := by omega
          go_wp2_with (refine wl_appG 93 90 (.pointer none) 1 8 Tryd.underlying90 info_pdq rfl (by decide) (by decide) w6 rfl (.tmp 62) (.tmp 64) rfl w5.heap.size (.slice qa m qc) m (pdl D m) #[.pointer (some ⟨d, 0, none⟩)] rfl (by intro x hx; simp at hx; subst hx; rfl) rfl rfl ND6.out.row hs6w hml6 ?_)
          intro v8 w8 p8 hg8 hat
          obtain ⟨a8, c8, rfl, _⟩ := own_shape p8
          have O1 := (Only.refl (fun _ => False) w6).alloc (.cells #[.pointer (some ⟨d, 0, none⟩)] 93)
          have K6 := Lib.hid (KR6.out.alloc (.cells #[.pointer (some ⟨d, 0, none⟩)] 93))
          have N6 := Lib.hid (ND6.out.only O1 (fun _ e => e.elim))
          have Q6 := Lib.hid (DQ6.out.only O1 id id)
          have O6 := Lib.hid (HO6.out.alloc (.cells #[.pointer (some ⟨d, 0, none⟩)] 93))
          have hne : some R ≠ (Value.slice qa m qc).ownBlock := fun e => own_blk_ne N6.out.row K6.out (by decide) e.symm
          have K8 := Lib.hid (K6.out.grown hg8 hne)
          have N8 := Lib.hid (N6.out.grow Q6.out hBd NE6.out hg8 p8)
          have B8 := Lib.hid (O6.out.trans2 (Only.of_grown (S := fun k => w5.heap.size ≤ k) hg8 (fun k hk => (World.ownsRow.lt N6.out.row k hk).1)) (fun k hk hk2 => absurd hk (by omega)))
          clear p8 hg8 hat c2 O1 K6 N6 Q6 O6 hne KR6 ND6 HO6 DQ6
          go_wp2_with (refine wl_storeS 90 (fun _ => rfl) w8 rfl (.tmp 67) (.tmp 65) rfl R 4 92 _ a8 (m + 1) c8 rfl rfl K8.out (by show 4 < 8; decide) ?_)
          intro w9 hb9 ho9 hs9
          have N9 := Lib.hid (N8.out.only ho9 (fun k hk => by left; have : k = R := hk; omega))
          have B9 := Lib.hid (B8.out.trans ho9)
          have K9 := Lib.hid hb9
          clear hb9 ho9 K8 N8 B8
          go_wp2
          go_roundw
          case rel => exact ⟨m + 1, _, _, _, by omega, by go_num, K9.out, N9.out, B9.out⟩
          case measure => simp [intOf] <;> omega
        · obtain rfl : W = m := by omega
          obtain ⟨C, M, hrun, hCM⟩ := run_new K4.out hwR SH4.out AR4.out W5.out OPH.out HO.out KR.out ND.out
          have CD := Lib.hid (xdeal_go _ _ C M wr hrun (by rw [← HN.out]; show 0 < N; omega) rfl hW hW8 (HG.out.pos (by rw [← HN.out]; show 0 < N; omega)) (HG.out.le _ (by rw [← HN.out]; show 0 < N; omega)))
          have HCM := Lib.hid hCM
          have HBel := Lib.hid (B4.out.trans ((W5.out.trans HO.out).below (B := w.heap.size) B4.out.size (fun k e => by have : k = R := e; omega)))
          clear hrun hCM
          go_wp2_with fail
          refine CD.out.mono ?_
          rintro e w9 ⟨rfl, M', hrun, hO, hM⟩
          have HR := Lib.hid hrun
          have HM := Lib.hid hM
          have HO9 := Lib.hid hO
          clear hrun hM hO CD
          go_wp2
          go_ret2
          refine ⟨_, C, M', rfl, HR.out, rfl, rfl, rfl, rfl, ?_, HBel.out.trans (HO9.out.below (B := w.heap.size) HBel.out.size (fun k hk => HCM.out k (.inr hk)))⟩
          rintro k (hk | hk)
          · exact HCM.out k (.inl hk)
          · rcases HM.out k hk with h1 | h1
            · exact HCM.out k (.inr h1)
            · have := HBel.out.size; omega
end Go.Proofs.YtcakeenfkdhedaaDoor.Gm
