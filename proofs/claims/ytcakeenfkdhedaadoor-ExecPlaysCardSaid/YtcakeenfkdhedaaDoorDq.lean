/- The deque: a ring. -/
import Derived.Test.YtcakeenfkdhedaaDoorGb
import Derived.BigRegion
import Derived.StillTailTactics
import Derived.Deep.RegionHeld3
import Derived.ChangeAlike
namespace Go.Proofs.YtcakeenfkdhedaaDoor.Gm
open Go.RowKit
theorem mod_ne {t i m n : Nat} (h1 : i < m) (h2 : m < n) : (t + i) % n ≠ (t + m) % n := by
  intro h
  have h3 := Nat.sub_mod_eq_zero_of_mod_eq h.symm
  rw [show t + m - (t + i) = m - i by omega, Nat.mod_eq_of_lt (by omega)] at h3
  omega
/-- the deque of block D, its ring of n places in block G, has the tasks l -/
def DqAt (w : World) (D G n : Nat) (l : List T3) : Prop :=
  ∃ (top : Nat) (cs : Array Value), Blk w D 124 #[.slice (some ⟨G, 0, none⟩) n n, .int .i64 top, .int .i64 l.length] ∧ Blk w G 56 cs ∧ cs.size = n * 3 ∧ top < n ∧ l.length ≤ n ∧ n ≤ 64 ∧
    ∀ i, i < l.length → cs[((top + i) % n) * 3]? = some (.int .i64 (tg l i).1) ∧ cs[((top + i) % n) * 3 + 1]? = some (.int .i64 (tg l i).2.1) ∧ cs[((top + i) % n) * 3 + 2]? = some (.int .i64 (tg l i).2.2)
theorem DqAt.only {S : Nat → Prop} {w w' : World} {D G n : Nat} {l : List T3} (h : DqAt w D G n l) (ho : Only S w w') (hD : ¬ S D) (hG : ¬ S G) : DqAt w' D G n l := by
  obtain ⟨top, cs, h1, h2, h3⟩ := h
  exact ⟨top, cs, h1.only ho hD, h2.only ho hG, h3⟩
theorem DqAt.lt {w : World} {D G n : Nat} {l : List T3} (h : DqAt w D G n l) : D < w.heap.size ∧ G < w.heap.size := by
  obtain ⟨top, cs, h1, h2, h3⟩ := h
  exact ⟨h1.lt, h2.lt⟩
/-- the ring with a task more -/
theorem ring_set {cs : Array Value} {top n : Nat} {l : List T3} (t : T3) (hs : cs.size = n * 3) (hl : l.length < n)
    (h : ∀ i, i < l.length → cs[((top + i) % n) * 3]? = some (.int .i64 (tg l i).1) ∧ cs[((top + i) % n) * 3 + 1]? = some (.int .i64 (tg l i).2.1) ∧ cs[((top + i) % n) * 3 + 2]? = some (.int .i64 (tg l i).2.2))
    (r : Nat) (hr : r = (top + l.length) % n) (cs' : Array Value) (hcs' : cs' = ((cs.setIfInBounds (r * 3) (.int .i64 t.1)).setIfInBounds (r * 3 + 1) (.int .i64 t.2.1)).setIfInBounds (r * 3 + 2) (.int .i64 t.2.2)) :
    cs'.size = n * 3 ∧ ∀ i, i < (l ++ [t]).length → cs'[((top + i) % n) * 3]? = some (.int .i64 (tg (l ++ [t]) i).1) ∧ cs'[((top + i) % n) * 3 + 1]? = some (.int .i64 (tg (l ++ [t]) i).2.1) ∧ cs'[((top + i) % n) * 3 + 2]? = some (.int .i64 (tg (l ++ [t]) i).2.2) := by
  have hrn : r < n := by rw [hr]; exact Nat.mod_lt _ (by omega)
  refine ⟨by rw [hcs']; simpa using hs, fun i hi => ?_⟩
  rw [List.length_append, List.length_singleton] at hi
  subst hcs'
  by_cases h1 : i < l.length
  · have hne : (top + i) % n ≠ r := by rw [hr]; exact mod_ne h1 hl
    rw [tg_snoc_lt l t h1]
    have := h i h1
    generalize (top + i) % n = q at *
    refine ⟨?_, ?_, ?_⟩
    · rw [Array.getElem?_setIfInBounds_ne (by omega), Array.getElem?_setIfInBounds_ne (by omega), Array.getElem?_setIfInBounds_ne (by omega)]; exact this.1
    · rw [Array.getElem?_setIfInBounds_ne (by omega), Array.getElem?_setIfInBounds_ne (by omega), Array.getElem?_setIfInBounds_ne (by omega)]; exact this.2.1
    · rw [Array.getElem?_setIfInBounds_ne (by omega), Array.getElem?_setIfInBounds_ne (by omega), Array.getElem?_setIfInBounds_ne (by omega)]; exact this.2.2
  · obtain rfl : i = l.length := by omega
    rw [tg_snoc_at, ← hr]
    refine ⟨?_, ?_, ?_⟩
    · rw [Array.getElem?_setIfInBounds_ne (by omega), Array.getElem?_setIfInBounds_ne (by omega), Array.getElem?_setIfInBounds_self_of_lt (by omega)]
    · rw [Array.getElem?_setIfInBounds_ne (by omega), Array.getElem?_setIfInBounds_self_of_lt (by simp; omega)]
    · rw [Array.getElem?_setIfInBounds_self_of_lt (by simp; omega)]
/-- the ring without its first task -/
theorem ring_tail {cs : Array Value} {top n : Nat} {l : List T3}
    (h : ∀ i, i < l.length → cs[((top + i) % n) * 3]? = some (.int .i64 (tg l i).1) ∧ cs[((top + i) % n) * 3 + 1]? = some (.int .i64 (tg l i).2.1) ∧ cs[((top + i) % n) * 3 + 2]? = some (.int .i64 (tg l i).2.2)) :
    ∀ i, i < (l.drop 1).length → cs[(((top + 1) % n + i) % n) * 3]? = some (.int .i64 (tg (l.drop 1) i).1) ∧ cs[(((top + 1) % n + i) % n) * 3 + 1]? = some (.int .i64 (tg (l.drop 1) i).2.1) ∧ cs[(((top + 1) % n + i) % n) * 3 + 2]? = some (.int .i64 (tg (l.drop 1) i).2.2) := by
  intro i hi
  rw [List.length_drop] at hi
  rw [Nat.mod_add_mod, tg_drop, Nat.add_assoc]
  exact h (1 + i) (by omega)
/-- .. and without its last -/
theorem ring_init {cs : Array Value} {top n m : Nat} {l : List T3} (hm : m ≤ l.length)
    (h : ∀ i, i < l.length → cs[((top + i) % n) * 3]? = some (.int .i64 (tg l i).1) ∧ cs[((top + i) % n) * 3 + 1]? = some (.int .i64 (tg l i).2.1) ∧ cs[((top + i) % n) * 3 + 2]? = some (.int .i64 (tg l i).2.2)) :
    ∀ i, i < (l.take m).length → cs[((top + i) % n) * 3]? = some (.int .i64 (tg (l.take m) i).1) ∧ cs[((top + i) % n) * 3 + 1]? = some (.int .i64 (tg (l.take m) i).2.1) ∧ cs[((top + i) % n) * 3 + 2]? = some (.int .i64 (tg (l.take m) i).2.2) := by
  intro i hi
  rw [List.length_take] at hi
  rw [tg_take l (by omega)]
  exact h i (by omega)
theorem wrap64_in {z : Int} (h0 : -9223372036854775808 ≤ z) (h1 : z ≤ 9223372036854775807) : IntKind.i64.wrap z = z := IntWalk.i64_in _ (by omega)
theorem tmod_mod (a n r : Nat) (hr : r = a % n) : (a : Int).tmod (n : Int) = (r : Int) := by
  subst hr
  rw [Int.tmod_eq_emod_of_nonneg (by omega)]
  rfl
theorem dnew_bad (n : Int) (w : World) (hn : n < 1 ∨ 64 < n) :
    Calls Tryd.prog 55 #[.int .i64 n] w fun e w' => e = .returned (.tuple #[.pointer none, .int .i64 1]) ∧ w = w' := by
  rcases (show n < 1 ∨ (1 ≤ n ∧ 64 < n) by omega) with h1 | ⟨h1, h2⟩
  all_goals
    go_enter Tryd.func55, Tryd.ntmps55
    go_wp2
    go_ret2
    exact ⟨rfl, rfl⟩
theorem some_at {cs : Array Value} {i : Nat} (h : i < cs.size) : ∃ u, cs[i]? = some u := ⟨_, Array.getElem?_eq_getElem h⟩
set_option maxHeartbeats 2000000 in
theorem dpush_full (D G n : Nat) (l : List T3) (t : T3) (w : World) (h : DqAt w D G n l) (hl : n ≤ l.length) :
    Calls Tryd.prog 77 #[.pointer (some ⟨D, 0, none⟩), tk t] w fun e w' => e = .returned (.int .i64 2) ∧ Below w.heap.size w w' := by
  obtain ⟨x, y, z⟩ := t
  have hb1 := Lib.hid ((Below.refl w.heap.size w).alloc (Nat.le_refl _) (.cells #[.int .i64 x, .int .i64 y, .int .i64 z] 56))
  obtain ⟨top, cs, h1, h2, hs, htop, hln, hn, hc⟩ := h
  obtain rfl : l.length = n := by omega
  have h1 := Lib.hid (h1.alloc (.cells #[.int .i64 x, .int .i64 y, .int .i64 z] 56))
  clear h2 hs htop hln hn hc
  have hd : ((l.length : Int) == (l.length : Int)) = true := by simp
  unfold tk
  go_enter Tryd.func77, Tryd.ntmps77
  go_wp2
  generalize w.alloc (.cells #[.int .i64 x, .int .i64 y, .int .i64 z] 56) = w1 at *
  have c0 : w1.cell? ⟨D, 0, none⟩ = some (.slice (some ⟨G, 0, none⟩) l.length l.length) := h1.out.cell 0
  have c2 : w1.cell? ⟨D, 2, none⟩ = some (.int .i64 l.length) := h1.out.cell 2
  go_quiet (fail)
  go_wp2
  go_ret
  exact ⟨rfl, below_drewN hb1.out _⟩
set_option maxHeartbeats 2000000 in
set_option maxRecDepth 100000 in
theorem dpush_any (D G n : Nat) (l : List T3) (t : T3) (w : World) (h : DqAt w D G n l) (hl : l.length < n) :
    Calls Tryd.prog 77 #[.pointer (some ⟨D, 0, none⟩), tk t] w fun e w' => e = .returned (.int .i64 0) ∧ DqAt w' D G n (l ++ [t]) ∧ Only (fun k => k = D ∨ k = G) w w' := by
  obtain ⟨x, y, z⟩ := t
  have HO := Lib.hid ((Only.refl (fun k => k = D ∨ k = G) w).alloc (.cells #[.int .i64 x, .int .i64 y, .int .i64 z] 56))
  have hb := Blk.new w 56 #[.int .i64 x, .int .i64 y, .int .i64 z]
  obtain ⟨top, cs, h1, h2, hs, htop, hln, hn, hc⟩ := h
  have h1 := h1.alloc (.cells #[.int .i64 x, .int .i64 y, .int .i64 z] 56)
  have h2 := h2.alloc (.cells #[.int .i64 x, .int .i64 y, .int .i64 z] 56)
  obtain ⟨r, hr⟩ : ∃ r, r = (top + l.length) % n := ⟨_, rfl⟩
  have hrn : r < n := by rw [hr]; exact Nat.mod_lt _ (by omega)
  obtain ⟨u0, hu0⟩ := some_at (cs := cs) (i := r * 3) (by omega)
  obtain ⟨u1, hu1⟩ := some_at (cs := cs) (i := r * 3 + 1) (by omega)
  obtain ⟨u2, hu2⟩ := some_at (cs := cs) (i := r * 3 + 2) (by omega)
  have hd : ((l.length : Int) == (n : Int)) = false := by simp; omega
  have hDG := h1.ne_ h2 (by decide)
  have H1 := Lib.hid h1
  have H2 := Lib.hid h2
  have HB := Lib.hid hb
  have HS := Lib.hid hs
  have HC := Lib.hid hc
  have HR := Lib.hid hr
  have HU0 := Lib.hid hu0
  have HU1 := Lib.hid hu1
  have HU2 := Lib.hid hu2
  clear h1 h2 hs hc hr hu0 hu1 hu2 hb
  unfold tk
  go_enter Tryd.func77, Tryd.ntmps77
  go_wp2
  generalize w.alloc (.cells #[.int .i64 x, .int .i64 y, .int .i64 z] 56) = w1 at *
  have c0 : w1.cell? ⟨D, 0, none⟩ = some (.slice (some ⟨G, 0, none⟩) n n) := H1.out.cell 0
  have c1 : w1.cell? ⟨D, 1, none⟩ = some (.int .i64 top) := H1.out.cell 1
  have c2 : w1.cell? ⟨D, 2, none⟩ = some (.int .i64 l.length) := H1.out.cell 2
  go_quiet (fail)
  go_wp2
  have HO2 := Lib.hid (HO.out.drewN nq)
  have K1 := Lib.hid (H1.out.drewN nq)
  have K2 := Lib.hid (H2.out.drewN nq)
  have KB := Lib.hid (HB.out.drewN nq)
  clear c0 c1 c2 HO H1 H2 HB
  generalize w1.drewN nq = w2 at *
  have c0 : w2.cell? ⟨D, 0, none⟩ = some (.slice (some ⟨G, 0, none⟩) n n) := K1.out.cell 0
  have c1 : w2.cell? ⟨D, 1, none⟩ = some (.int .i64 top) := K1.out.cell 1
  have c2 : w2.cell? ⟨D, 2, none⟩ = some (.int .i64 l.length) := K1.out.cell 2
  have b0 : w2.cell? ⟨w.heap.size, 0, none⟩ = some (.int .i64 x) := KB.out.cell 0
  have b1 : w2.cell? ⟨w.heap.size, 1, none⟩ = some (.int .i64 y) := KB.out.cell 1
  have b2 : w2.cell? ⟨w.heap.size, 2, none⟩ = some (.int .i64 z) := KB.out.cell 2
  have ea : IntKind.i64.wrap ((top : Int) + (l.length : Int)) = (top : Int) + (l.length : Int) := wrap64_in (by omega) (by omega)
  have em : ((top : Int) + (l.length : Int)).tmod (n : Int) = (r : Int) := by rw [← Int.natCast_add]; exact tmod_mod _ _ _ HR.out
  have hn0 : ¬ n = 0 := by omega
  go_still_tail 21, (by kernel_rfl)
  repeat still_step
  change wpList _ _ _ _ _ w2.drew
  clear em ea hn0 hd c0 c1 c2 b0 b1 b2
  refine wl_storeBlk 56 3 (by kernel_rfl) _ rfl (.tmp 35) (.tmp 34) rfl G (r * 3) 56 cs #[.int .i64 x, .int .i64 y, .int .i64 z] rfl rfl K2.out.drew rfl (by have := HS.out; omega) (tk_one x y z) ?_
  intro w3 hB3 hO3 hs3
  have R := ring_set (x, y, z) HS.out hl HC.out r HR.out _ rfl
  have R1 := Lib.hid R.1
  have R2 := Lib.hid R.2
  clear R
  have K3 := Lib.hid hB3
  have D3 := Lib.hid (K1.out.drew.only hO3 hDG)
  have HO3 := Lib.hid (HO2.out.drew.trans (hO3.mono fun k _ e => .inr e))
  clear hB3 hO3 hs3
  have c2 : w3.cell? ⟨D, 2, none⟩ = some (.int .i64 l.length) := D3.out.cell 2
  have hlen : l.length ≤ 64 := by omega
  go_wp2_with (refine wl_storeBlk1 3 (fun _ => rfl) _ rfl (.tmp 42) (.tmp 40) rfl D 2 124 _ .i64 ((l.length : Int) + 1) rfl rfl D3.out (by simp) ?_; intro w4 hB4 hO4 hs4)
  have hlt : l.length + 1 ≤ n := by omega
  have hl2 : (l ++ [(x, y, z)]).length = l.length + 1 := by simp
  have HL2 := Lib.hid hl2
  clear hl2
  go_ret
  refine ⟨rfl, ⟨top, _, ?_, K3.out.only hO4 hDG.symm, R1.out, htop, by rw [HL2.out]; exact hlt, hn, R2.out⟩, HO3.out.trans (hO4.mono fun k _ e => .inl e)⟩
  rw [HL2.out]
  exact hB4
set_option maxHeartbeats 2000000 in
theorem dpop_none (D G n : Nat) (w : World) (h : DqAt w D G n []) :
    Calls Tryd.prog 58 #[.pointer (some ⟨D, 0, none⟩)] w fun e w' => e = .returned (.tuple #[tk (0, 0, 0), .bool false]) ∧ Below w.heap.size w w' := by
  have hb1 := Lib.hid ((Below.refl w.heap.size w).alloc (Nat.le_refl _) (.cells #[.int .i64 0, .int .i64 0, .int .i64 0] 56))
  obtain ⟨top, cs, h1, h2, h3⟩ := h
  have c2 : (w.alloc (.cells #[.int .i64 0, .int .i64 0, .int .i64 0] 56)).cell? ⟨D, 2, none⟩ = some (.int .i64 0) := (h1.alloc _).cell 2
  clear h1 h2 h3
  unfold tk
  go_enter Tryd.func58, Tryd.ntmps58
  go_wp2
  exact bodyPost_ret (v := .tuple #[.agg #[.int .i64 0, .int .i64 0, .int .i64 0], .bool false]) (by simp [results, Tryd.results58, go_sem]) rfl ⟨rfl, hb1.out⟩
set_option maxHeartbeats 2000000 in
set_option maxRecDepth 100000 in
theorem dpop_any (D G n : Nat) (l : List T3) (w : World) (h : DqAt w D G n l) (hl : 0 < l.length) :
    Calls Tryd.prog 58 #[.pointer (some ⟨D, 0, none⟩)] w fun e w' => e = .returned (.tuple #[tk (tg l (l.length - 1)), .bool true]) ∧ DqAt w' D G n (l.take (l.length - 1)) ∧ Only (fun k => k = D ∨ k = G) w w' := by
  have HO := Lib.hid ((Only.refl (fun k => k = D ∨ k = G) w).alloc (.cells #[.int .i64 0, .int .i64 0, .int .i64 0] 56))
  have hb := Blk.new w 56 #[.int .i64 0, .int .i64 0, .int .i64 0]
  obtain ⟨top, cs, h1, h2, hs, htop, hln, hn, hc⟩ := h
  have hDW := h1.lt
  have hGW := h2.lt
  have h1 := h1.alloc (.cells #[.int .i64 0, .int .i64 0, .int .i64 0] 56)
  have h2 := h2.alloc (.cells #[.int .i64 0, .int .i64 0, .int .i64 0] 56)
  obtain ⟨m, hm⟩ : ∃ m, l.length = m + 1 := ⟨l.length - 1, by omega⟩
  obtain ⟨r, hr⟩ : ∃ r, r = (top + m) % n := ⟨_, rfl⟩
  have hrn : r < n := by rw [hr]; exact Nat.mod_lt _ (by omega)
  have hcm := hc m (by omega)
  rw [← hr] at hcm
  rw [show l.length - 1 = m by omega]
  have hDG := h1.ne_ h2 (by decide)
  have hmn : m + 1 ≤ n := by omega
  rw [hm] at h1
  have hRI := Lib.hid (ring_init (m := m) (by omega) hc)
  have HLT := Lib.hid (show (l.take m).length = m by rw [List.length_take]; omega)
  have H1 := Lib.hid h1
  have H2 := Lib.hid h2
  have HB := Lib.hid hb
  have HS := Lib.hid hs
  have HR := Lib.hid hr
  have HC := Lib.hid hcm
  clear h1 h2 hs hc hr hcm hb hm hl hln
  generalize tg l m = t at *
  obtain ⟨x, y, z⟩ := t
  have c2 : (w.alloc (.cells #[.int .i64 0, .int .i64 0, .int .i64 0] 56)).cell? ⟨D, 2, none⟩ = some (.int .i64 ((m : Int) + 1)) := H1.out.cell 2
  unfold tk
  go_enter Tryd.func58, Tryd.ntmps58
  go_wp2_with (refine wl_storeBlk1 3 (fun _ => rfl) _ rfl (.tmp 16) (.tmp 14) rfl D 2 124 _ .i64 (m : Int) rfl rfl H1.out (by simp) ?_; intro w4 hB4 hO4 hs4)
  have K1 := Lib.hid hB4
  have K2 := Lib.hid (H2.out.only hO4 hDG.symm)
  have hbD : w.heap.size ≠ D := by omega
  have KB := Lib.hid (HB.out.only hO4 hbD)
  have HO4 := Lib.hid (HO.out.trans (hO4.mono fun k _ e => .inl e))
  clear hB4 hO4 hs4 c2
  have c0 : w4.cell? ⟨D, 0, none⟩ = some (.slice (some ⟨G, 0, none⟩) n n) := K1.out.cell 0
  have c1 : w4.cell? ⟨D, 1, none⟩ = some (.int .i64 top) := K1.out.cell 1
  have c2 : w4.cell? ⟨D, 2, none⟩ = some (.int .i64 m) := K1.out.cell 2
  have g0 : w4.cell? ⟨G, r * 3, none⟩ = some (.int .i64 x) := (K2.out.cell _).trans HC.out.1
  have g1 : w4.cell? ⟨G, r * 3 + 1, none⟩ = some (.int .i64 y) := (K2.out.cell _).trans HC.out.2.1
  have g2 : w4.cell? ⟨G, r * 3 + 2, none⟩ = some (.int .i64 z) := (K2.out.cell _).trans HC.out.2.2
  have ea : IntKind.i64.wrap ((top : Int) + (m : Int)) = (top : Int) + (m : Int) := wrap64_in (by omega) (by omega)
  have em : ((top : Int) + (m : Int)).tmod (n : Int) = (r : Int) := by rw [← Int.natCast_add]; exact tmod_mod _ _ _ HR.out
  have hn0 : ¬ n = 0 := by omega
  go_still_tail 21, (by kernel_rfl)
  repeat still_step
  change wpList _ _ _ _ _ w4.drew
  clear em ea hn0 c0 c1 c2 g0 g1 g2
  refine wl_storeBlk 56 3 (by kernel_rfl) _ rfl (.tmp 2) (.tmp 37) rfl w.heap.size 0 56 _ #[.int .i64 x, .int .i64 y, .int .i64 z] rfl rfl KB.out.drew rfl (by simp) (tk_one x y z) ?_
  intro w5 hB5 hO5 hs5
  go_wp2
  have K5 := Lib.hid (K1.out.drew.only hO5 (by omega))
  have G5 := Lib.hid (K2.out.drew.only hO5 (by omega))
  have O5 := Lib.hid (HO4.out.drew.trans2 hO5 (fun k h1 h2 => absurd h2 (by omega)))
  have c0 : w5.cell? ⟨w.heap.size, 0, none⟩ = some (.int .i64 x) := hB5.cell 0
  have c1 : w5.cell? ⟨w.heap.size, 1, none⟩ = some (.int .i64 y) := hB5.cell 1
  have c2 : w5.cell? ⟨w.heap.size, 2, none⟩ = some (.int .i64 z) := hB5.cell 2
  refine bodyPost_ret (v := .tuple #[.agg #[.int .i64 x, .int .i64 y, .int .i64 z], .bool true]) (by simp [results, Tryd.results58, go_sem, c0, c1, c2]) rfl ⟨rfl, ⟨top, cs, ?_, G5.out, HS.out, htop, by rw [HLT.out]; omega, hn, hRI.out⟩, O5.out⟩
  rw [HLT.out]
  exact K5.out
theorem dsteal_none (D G n : Nat) (w : World) (h : DqAt w D G n []) :
    Calls Tryd.prog 59 #[.pointer (some ⟨D, 0, none⟩)] w fun e w' => e = .returned (.tuple #[tk (0, 0, 0), .bool false]) ∧ Below w.heap.size w w' := by
  have hb1 := Lib.hid ((Below.refl w.heap.size w).alloc (Nat.le_refl _) (.cells #[.int .i64 0, .int .i64 0, .int .i64 0] 56))
  obtain ⟨top, cs, h1, h2, h3⟩ := h
  have c2 : (w.alloc (.cells #[.int .i64 0, .int .i64 0, .int .i64 0] 56)).cell? ⟨D, 2, none⟩ = some (.int .i64 0) := (h1.alloc _).cell 2
  clear h1 h2 h3
  unfold tk
  go_enter Tryd.func59, Tryd.ntmps59
  go_wp2
  exact bodyPost_ret (v := .tuple #[.agg #[.int .i64 0, .int .i64 0, .int .i64 0], .bool false]) (by simp [results, Tryd.results59, go_sem]) rfl ⟨rfl, hb1.out⟩
set_option maxHeartbeats 2000000 in
set_option maxRecDepth 100000 in
theorem dsteal_any (D G n : Nat) (l : List T3) (w : World) (h : DqAt w D G n l) (hl : 0 < l.length) :
    Calls Tryd.prog 59 #[.pointer (some ⟨D, 0, none⟩)] w fun e w' => e = .returned (.tuple #[tk (tg l 0), .bool true]) ∧ DqAt w' D G n l.tail ∧ Only (fun k => k = D ∨ k = G) w w' := by
  have HO := Lib.hid ((Only.refl (fun k => k = D ∨ k = G) w).alloc (.cells #[.int .i64 0, .int .i64 0, .int .i64 0] 56))
  have hb := Blk.new w 56 #[.int .i64 0, .int .i64 0, .int .i64 0]
  obtain ⟨top, cs, h1, h2, hs, htop, hln, hn, hc⟩ := h
  have hDW := h1.lt
  have hGW := h2.lt
  have h1 := h1.alloc (.cells #[.int .i64 0, .int .i64 0, .int .i64 0] 56)
  have h2 := h2.alloc (.cells #[.int .i64 0, .int .i64 0, .int .i64 0] 56)
  obtain ⟨m, hm⟩ : ∃ m, l.length = m + 1 := ⟨l.length - 1, by omega⟩
  obtain ⟨r, hr⟩ : ∃ r, r = (top + 1) % n := ⟨_, rfl⟩
  have hrn : r < n := by rw [hr]; exact Nat.mod_lt _ (by omega)
  have hcm := hc 0 (by omega)
  rw [Nat.add_zero, Nat.mod_eq_of_lt htop] at hcm
  have hDG := h1.ne_ h2 (by decide)
  have hbD : w.heap.size ≠ D := by omega
  have hmn : m + 1 ≤ n := by omega
  rw [hm] at h1
  have hrt := ring_tail hc
  rw [← hr, List.drop_one] at hrt
  have hRI := Lib.hid hrt
  have HLT := Lib.hid (show l.tail.length = m by rw [List.length_tail]; omega)
  have H1 := Lib.hid h1
  have H2 := Lib.hid h2
  have HB := Lib.hid hb
  have HS := Lib.hid hs
  have HR := Lib.hid hr
  have HC := Lib.hid hcm
  clear h1 h2 hs hc hr hcm hb hm hl hln hrt
  generalize tg l 0 = t at *
  obtain ⟨x, y, z⟩ := t
  have c2 : (w.alloc (.cells #[.int .i64 0, .int .i64 0, .int .i64 0] 56)).cell? ⟨D, 2, none⟩ = some (.int .i64 ((m : Int) + 1)) := H1.out.cell 2
  unfold tk
  go_enter Tryd.func59, Tryd.ntmps59
  go_wp2
  clear c2
  generalize hw1 : w.alloc (.cells #[.int .i64 0, .int .i64 0, .int .i64 0] 56) = w1 at *
  have hsz1 : w1.heap.size = w.heap.size + 1 := by rw [← hw1]; simp
  have HZ := Lib.hid hsz1
  have hle1 : w.heap.size + 1 ≤ w1.heap.size := by omega
  clear hw1 hsz1
  have c0 : w1.cell? ⟨D, 0, none⟩ = some (.slice (some ⟨G, 0, none⟩) n n) := H1.out.cell 0
  have c1 : w1.cell? ⟨D, 1, none⟩ = some (.int .i64 top) := H1.out.cell 1
  have g0 : w1.cell? ⟨G, top * 3, none⟩ = some (.int .i64 x) := (H2.out.cell _).trans HC.out.1
  have g1 : w1.cell? ⟨G, top * 3 + 1, none⟩ = some (.int .i64 y) := (H2.out.cell _).trans HC.out.2.1
  have g2 : w1.cell? ⟨G, top * 3 + 2, none⟩ = some (.int .i64 z) := (H2.out.cell _).trans HC.out.2.2
  go_region_held3 (fun w' => w'.cell? ⟨D, 0, none⟩ = some (.slice (some ⟨G, 0, none⟩) n n) ∧ w'.cell? ⟨D, 1, none⟩ = some (.int .i64 top) ∧ w'.cell? ⟨G, top * 3, none⟩ = some (.int .i64 x) ∧ w'.cell? ⟨G, top * 3 + 1, none⟩ = some (.int .i64 y) ∧ w'.cell? ⟨G, top * 3 + 2, none⟩ = some (.int .i64 z)) (first | go_keep) (fail)
  rename_i hheld
  clear hheld c0 c1 g0 g1 g2
  have K1 := Lib.hid ((H1.out.alloc (.cells #[.int .i64 x, .int .i64 y, .int .i64 z] 56)).drew)
  have K2 := Lib.hid ((H2.out.alloc (.cells #[.int .i64 x, .int .i64 y, .int .i64 z] 56)).drew)
  have KB := Lib.hid ((HB.out.alloc (.cells #[.int .i64 x, .int .i64 y, .int .i64 z] 56)).drew)
  have KC := Lib.hid ((Blk.new w1 56 #[.int .i64 x, .int .i64 y, .int .i64 z]).drew)
  have HO1 := Lib.hid ((HO.out.alloc (.cells #[.int .i64 x, .int .i64 y, .int .i64 z] 56)).drew)
  clear H1 H2 HB HO
  generalize (w1.alloc (.cells #[.int .i64 x, .int .i64 y, .int .i64 z] 56)).drew = w2 at *
  have c0 : w2.cell? ⟨D, 0, none⟩ = some (.slice (some ⟨G, 0, none⟩) n n) := K1.out.cell 0
  have c1 : w2.cell? ⟨D, 1, none⟩ = some (.int .i64 top) := K1.out.cell 1
  have ea : IntKind.i64.wrap ((top : Int) + 1) = (top : Int) + 1 := wrap64_in (by omega) (by omega)
  have em : ((top : Int) + 1).tmod (n : Int) = (r : Int) := by rw [show (top : Int) + 1 = ((top + 1 : Nat) : Int) from rfl]; exact tmod_mod _ _ _ HR.out
  have hn0 : ¬ n = 0 := by omega
  go_wp2
  go_still_tail 14, (by kernel_rfl)
  repeat still_step
  change wpList _ _ _ _ _ w2.drew
  clear em ea hn0 c0 c1
  refine wl_storeBlk1 3 (fun _ => rfl) _ rfl (.tmp 34) (.tmp 32) rfl D 1 124 _ .i64 (r : Int) rfl rfl K1.out.drew (by simp) ?_
  intro w3 hB3 hO3 hs3
  have L1 := Lib.hid hB3
  have L2 := Lib.hid (K2.out.drew.only hO3 hDG.symm)
  have LB := Lib.hid (KB.out.drew.only hO3 (by omega))
  have LC := Lib.hid (KC.out.drew.only hO3 (by omega))
  have HO3 := Lib.hid (HO1.out.drew.trans (hO3.mono fun k _ e => .inl e))
  clear hB3 hO3 hs3 K1 K2 KB KC HO1
  have c2 : w3.cell? ⟨D, 2, none⟩ = some (.int .i64 ((m : Int) + 1)) := L1.out.cell 2
  have hne1 : w1.heap.size ≠ D := by omega
  have hz3 : 0 + 3 ≤ (#[Value.int .i64 0, Value.int .i64 0, Value.int .i64 0] : Array Value).size := by simp
  go_wp2_with (first | (refine wl_storeBlk1 3 (fun _ => rfl) _ rfl (.tmp 41) (.tmp 39) rfl D 2 124 _ .i64 (m : Int) rfl rfl L1.out (by simp) ?_; intro w4 hB4 hO4 hs4; have M1 := Lib.hid hB4; have M2 := Lib.hid (L2.out.only hO4 hDG.symm); have MB := Lib.hid (LB.out.only hO4 hbD); have MC := LC.out.only hO4 hne1; have k0 : w4.cell? ⟨w1.heap.size, 0, none⟩ = some (.int .i64 x) := MC.cell 0; have k1 : w4.cell? ⟨w1.heap.size, 1, none⟩ = some (.int .i64 y) := MC.cell 1; have k2 : w4.cell? ⟨w1.heap.size, 2, none⟩ = some (.int .i64 z) := MC.cell 2; have HO4 := Lib.hid (HO3.out.trans (hO4.mono fun k _ e => .inl e)); clear hB4 hO4 hs4 MC) | (refine wl_storeBlk 56 3 (by kernel_rfl) _ rfl (.tmp 2) (.tmp 42) rfl w.heap.size 0 56 _ #[.int .i64 x, .int .i64 y, .int .i64 z] rfl rfl MB.out rfl hz3 (tk_one x y z) ?_; intro w5 hB5 hO5 hs5))
  have K5 := Lib.hid (M1.out.only hO5 (by omega))
  have G5 := Lib.hid (M2.out.only hO5 (by omega))
  have O5 := Lib.hid (HO4.out.trans2 hO5 (fun k h1 h2 => absurd h2 (by omega)))
  have c0 : w5.cell? ⟨w.heap.size, 0, none⟩ = some (.int .i64 x) := hB5.cell 0
  have c1 : w5.cell? ⟨w.heap.size, 1, none⟩ = some (.int .i64 y) := hB5.cell 1
  have c2 : w5.cell? ⟨w.heap.size, 2, none⟩ = some (.int .i64 z) := hB5.cell 2
  refine bodyPost_ret (v := .tuple #[.agg #[.int .i64 x, .int .i64 y, .int .i64 z], .bool true]) (by simp [results, Tryd.results59, go_sem, c0, c1, c2]) rfl ⟨rfl, ⟨r, cs, ?_, G5.out, HS.out, hrn, by rw [HLT.out]; omega, hn, hRI.out⟩, O5.out⟩
  rw [HLT.out]
  exact K5.out
set_option maxHeartbeats 2000000 in
theorem dnew_any (n : Nat) (z : Int) (w : World) (h1 : 1 ≤ n) (h2 : n ≤ 64) (hz : z = n) :
    Calls Tryd.prog 55 #[.int .i64 z] w fun e w' => ∃ D G : Nat, e = .returned (.tuple #[.pointer (some ⟨D, 0, none⟩), .int .i64 0]) ∧ w.heap.size ≤ D ∧ w.heap.size ≤ G ∧ DqAt w' D G n [] ∧ Below w.heap.size w w' := by
  subst hz
  obtain ⟨i0, hi, hz0, hz1, hz2⟩ := info_parts (show (Tryd.prog.info? 56).map (fun i => (i.zero, i.size, i.bytes)) = some (some (.agg #[.int .i64 0, .int .i64 0, .int .i64 0]), 3, 24) by kernel_rfl)
  have hmk : ∀ W : World, (Instr.makeSlice 48 (.int .i64 (n : Int)) (.int .i64 (n : Int))).run Tryd.prog W = .ok (.slice (some ⟨W.heap.size, 0, none⟩) n n) (W.alloc (.cells (madeCells #[.int .i64 0, .int .i64 0, .int .i64 0] (n * 3)) 56)) := by
    intro W
    have hr := run_make (P := Tryd.prog) W 48 56 i0 _ Tryd.underlying48 hi hz0 .i64 .i64 n n (by omega) (Int.le_refl _) (by rw [hz2]; omega) (by omega)
    simp only [Int.toNat_natCast] at hr
    rw [hz1] at hr
    exact hr
  have HS := Lib.hid (size_madeCells #[Value.int .i64 0, .int .i64 0, .int .i64 0] (n * 3))
  clear hi hz0 hz1 hz2
  go_enter Tryd.func55, Tryd.ntmps55
  go_wp2
  go_ret2
  have hsz : (w.alloc (.cells (madeCells #[Value.int .i64 0, .int .i64 0, .int .i64 0] (n * 3)) 56)).heap.size = w.heap.size + 1 := by simp
  have hB := Blk.new (w.alloc (.cells (madeCells #[Value.int .i64 0, .int .i64 0, .int .i64 0] (n * 3)) 56)) 124 #[.slice (some ⟨w.heap.size, 0, none⟩) n n, .int .i64 0, .int .i64 0]
  rw [hsz] at hB
  exact ⟨w.heap.size + 1, w.heap.size, rfl, by omega, by omega, ⟨0, _, hB, (Blk.new w 56 _).alloc _, HS.out, by omega, by simp, h2, fun i hi => absurd hi (by simp)⟩, ((Below.refl _ _).alloc (Nat.le_refl _) _).alloc (by simp) _⟩
end Go.Proofs.YtcakeenfkdhedaaDoor.Gm
