/- Laid together by wip/merge.py: Lit Rest Shd Sz Lnb Vt Cu Tu Hc Hm Al Fm An Pd Pwa. -/
import Derived.Test.YtdhmmllpldjkbaaGreatDoorGa
import Derived.Test.YtdhmmllpldjkbaaGreatDoorGb
import Derived.Test.YtdhmmllpldjkbaaGreatDoorPla
import Derived.Test.YtdhmmllpldjkbaaGreatDoorGc
import Derived.Lib.SliceRun
import Derived.Laws.OwnMore
/- (Lit) -/
namespace Go.Proofs.YtdhmmllpldjkbaaGreatDoor.Gm
open Go.RowKit
/-- a list of literals, just laid -/
theorem Rd.lit (k : IntKind) (w : World) (zs : List Int) (t : TypeId) (n : Nat) (hn : n = zs.length) (hl : zs.length ≤ 1000000) :
    Rd k (w.alloc (.cells (zs.map (Value.int k)).toArray t)) (.slice (some ⟨w.heap.size, 0, none⟩) n n) zs := by
  subst hn
  refine ⟨_, _, w.heap.size, 0, rfl, Nat.le_refl _, by omega, .inr rfl, fun i hi => ?_⟩
  rw [World.cell?_alloc_at _ _ _ _ rfl, Nat.zero_add, gd_eq]
  simp [List.getElem?_eq_getElem hi]
end Go.Proofs.YtdhmmllpldjkbaaGreatDoor.Gm
/- (Rest) -/
namespace Go.Proofs.YtdhmmllpldjkbaaGreatDoor.Gm
open Go.RowKit
end Go.Proofs.YtdhmmllpldjkbaaGreatDoor.Gm
/- (Shd) -/
namespace Go.Proofs.YtdhmmllpldjkbaaGreatDoor.Gm
open Go.RowKit
set_option linter.unusedVariables false
/-- copy into a list of the call's own -/
theorem wl_copyG (k : IntKind) (te ts : TypeId) (hu : Tryz.prog.underlying ts = some (.slice te)) (hsz : (Tryz.prog.info? te).map (·.size) = some 1)
    {ops : Array Oper} {rest : List Oper} {o : Oper} {a : Act} {Q : Exit → Act → World → Prop} (w : World) (hgd : o.guard = none) (d s : Operand)
    (ho : o.op = .call { callee := .builtin .copy, args := #[d, s], argTypes := #[ts, ts] })
    (B g n cap : Nat) (l zs : List Int) (v : Value) (W : World) (hd : a.eval d = .slice (some ⟨g, 0, none⟩) n cap) (hs : a.eval s = v)
    (hown : Oz k te B w (.slice (some ⟨g, 0, none⟩) n cap) l) (hn : l.length = n) (hrd : Rd k w v zs) (hbel : Below B W w)
    (h : ∀ z w', Oz k te B w' (.slice (some ⟨g, 0, none⟩) n cap) (zs.take n ++ l.drop (zs.take n).length) → Below B W w' → wpList Tryz.prog ops Q rest (a.put o.dst z) w') :
    wpList Tryz.prog ops Q (o :: rest) a w := by
  subst hn
  obtain ⟨sp, scap, b, off, rfl, h1, h2, h3, h4⟩ := hrd
  rcases hown.2 with ⟨e0, _⟩ | ⟨g', cap', cur, e, hb, hg, hnc, hm, hsc, ht⟩
  · injection e0 with e1; cases e1
  · injection e with e1 e2 e3
    injection e1 with e4
    injection e4 with e5
    subst e5; subst e3
    have hcl : cur.toList.length = cap := by rw [Array.length_toList]; omega
    have hlen2 := hown.1
    obtain ⟨ys, hys⟩ : ∃ ys, ys = zs.take l.length := ⟨_, rfl⟩
    have hyl : ys.length = min l.length zs.length := by rw [hys, List.length_take]
    rw [← hys] at h
    have hcs : (ys.map (Value.int k)).length = ys.length := List.length_map _
    refine wpList_copy_splice hgd d s ts ts ho te hu hsz (some ⟨g, 0, none⟩) sp l.length cap zs.length scap hd hs g 0 cur.toList te (by simpa using hg) (ys.map (Value.int k)) (by rw [hcs, hyl]; exact Nat.min_comm _ _) ?_ (by rw [hcs, hcl]; omega) ?_ B W hbel hb ?_
    · intro hp
      rcases h3 with h3 | h3
      · subst h3; simp at hyl; rw [hcs, hyl] at hp; exact absurd hp (Nat.lt_irrefl 0)
      · refine ⟨rfl, _, h3, fun j u hj => ?_⟩
        have hjl : j < ys.length := by
          have := (List.getElem?_eq_some_iff.1 hj).1
          omega
        have e : ((⟨b, off, none⟩ : Addr).add j) = ⟨b, off + j, none⟩ := by unfold Addr.add; by_cases h0 : j = 0 <;> simp [h0]
        rw [e, h4 j (by omega), gd_eq]
        rw [hys, List.getElem?_map, List.getElem?_take_of_lt (by omega), List.getElem?_eq_getElem (by omega)] at hj
        rw [List.getElem?_eq_getElem (by omega)]
        exact hj
    · intro u hu'
      obtain ⟨x, _, rfl⟩ := List.mem_map.1 hu'
      rfl
    · intro w' hw' hbel'
      refine h _ w' ?_ hbel'
      have hl : (ys ++ l.drop ys.length).length = l.length := by rw [List.length_append, List.length_drop]; omega
      unfold Oz
      rw [hl]
      refine ⟨by simp; omega, .inr ⟨g, cap, _, rfl, hb, hw'.out, hnc, hm, ?_, ?_⟩⟩
      · rw [List.size_toArray, length_splice _ _ _ (by rw [hcs, hcl]; omega), hcl, Nat.mul_one]
      · rw [List.toList_toArray, Nat.mul_one]
        rw [Nat.mul_one] at ht
        unfold splice
        rw [List.take_zero, List.nil_append, Nat.zero_add, hcs, List.map_append, List.map_drop, ← ht]
        rw [List.take_append, hcs, List.take_of_length_le (by rw [hcs]; omega)]
        rw [List.drop_take]
/-- a list brought to so many numbers -/
def siz (zs : List Int) (n : Nat) : List Int := zs.take n ++ List.replicate (n - min n zs.length) 0
theorem siz_len (zs : List Int) (n : Nat) : (siz zs n).length = n := by
  unfold siz
  rw [List.length_append, List.length_replicate, List.length_take]; omega
theorem siz_64 {zs : List Int} (h : B64 zs) (n : Nat) : B64 (siz zs n) := by
  intro z hz
  rcases List.mem_append.1 hz with hz | hz
  · exact h z (List.mem_of_mem_take hz)
  · have := List.eq_of_mem_replicate hz
    omega
/-- a call's end: a list of integers of its own, a bool -/
def RetZB (w : World) (l : List Int) (b : Bool) (e : Ending) (w' : World) : Prop := ∃ v, e = .returned (.tuple #[v, .bool b]) ∧ Oz .u64 51 w.heap.size w' v l ∧ Below w.heap.size w w'
def NoShape (zs : List Int) : Prop := Bad zs ∨ Big zs ∨ ∃ ds, zs = zi ds ∧ Shp ds ∧ 64 < pr ds
theorem shape_split (zs : List Int) : NoShape zs ∨ ∃ ds, zs = zi ds ∧ Shp ds ∧ pr ds ≤ 64 := by
  rcases shape_cases zs with h | h | ⟨ds, rfl, hs⟩
  · exact .inl (.inl h)
  · exact .inl (.inr (.inl h))
  · by_cases h : 64 < pr ds
    · exact .inl (.inr (.inr ⟨ds, rfl, hs, h⟩))
    · exact .inr ⟨ds, rfl, hs, by omega⟩
end Go.Proofs.YtdhmmllpldjkbaaGreatDoor.Gm
/- (Sz) -/
namespace Go.Proofs.YtdhmmllpldjkbaaGreatDoor.Gm
open Go.RowKit
set_option linter.unusedVariables false
def kk (k : Int) : Nat := (k % 7).toNat
theorem kk_le (k : Int) : kk k ≤ 6 := by unfold kk; omega
theorem four_list : (trL false 2 ([1, 0, 0, 0].map toF)).map vl = [1, 1, 1, 1] := by
  have e : ∀ j, tr false 2 (cf ([1, 0, 0, 0].map toF)) j = 1 := fun j => by
    rw [tr_ker]
    show S (0 + 1 + 1 + 1 + 1) _ = _
    rw [S_succ, S_succ, S_succ, S_succ, S_zero, ker_f, ker_f, ker_f, ker_f, Nat.mul_zero, pow_zero]
    show 0 + toF 1 * 1 + toF 0 * _ + toF 0 * _ + toF 0 * _ = _
    rw [toF_one, toF_zero]
    grind
  unfold trL
  rw [List.map_congr_left (g := fun _ => (1 : F)) (fun j _ => e j)]
  show [vl 1, vl 1, vl 1, vl 1] = _
  rw [vl_one]
end Go.Proofs.YtdhmmllpldjkbaaGreatDoor.Gm
/- (Lnb) -/
namespace Go.Proofs.YtdhmmllpldjkbaaGreatDoor.Gm
open Go.RowKit
set_option linter.unusedVariables false
theorem nfwd_F {k : Nat} {l : List F} {B : Nat} {v : Value} {w : World} (h : Ow B w v l) (hk : k ≤ 10) (hl : l.length = 2 ^ k) (hT : Tb w) : Calls Tryz.prog 60 #[v] w (RetLE w (trL false k l) 0) := by
  have := nfwd_ok k (l.map vl) v w h.rd (B64.vl l) hk (by rw [List.length_map]; exact hl) hT
  rwa [map_toF_vl] at this
theorem ninv_F {k : Nat} {l : List F} {B : Nat} {v : Value} {w : World} (h : Ow B w v l) (hk : k ≤ 10) (hl : l.length = 2 ^ k) (hT : Tb w) : Calls Tryz.prog 61 #[v] w (RetLE w (trL true k l) 0) := by
  have := ninv_ok k (l.map vl) v w h.rd (B64.vl l) hk (by rw [List.length_map]; exact hl) hT
  rwa [map_toF_vl] at this
theorem trL_back {k : Nat} (hk : k ≤ 10) {l : List F} (hl : l.length = 2 ^ k) (b : Bool) : trL (!b) k (trL b k l) = l := by
  refine ext_cf (by rw [trL_len, hl]) (fun i hi => ?_)
  rw [trL_len] at hi
  rw [cf_trL _ _ _ hi, tr_congr (b := tr b k (cf l)) (fun j hj => cf_trL _ _ _ hj), tr_back (by omega) _ hi]
/-- c times the one, and the other, up to m -/
@[irreducible] def smL (c : F) (l l2 : List F) (n m : Nat) : List F := (List.range n).map fun p => if p < m then c * cf l p + cf l2 p else 0
theorem smL_len (c : F) (l l2 : List F) (n m : Nat) : (smL c l l2 n m).length = n := by unfold smL; simp
theorem cf_smL (c : F) (l l2 : List F) (n m : Nat) {p : Nat} (hp : p < n) : cf (smL c l l2 n m) p = if p < m then c * cf l p + cf l2 p else 0 := by unfold smL; exact cf_ofFn _ hp
theorem smL_zero (c : F) (l l2 : List F) (n : Nat) : smL c l l2 n 0 = List.replicate n 0 := by
  refine ext_cf (by rw [smL_len]; simp) (fun i hi => ?_)
  rw [smL_len] at hi
  rw [cf_smL _ _ _ _ _ hi, if_neg (by omega), cf_replicate]
theorem smL_step (c : F) (l l2 : List F) (n : Nat) {m : Nat} (hm : m < n) : (smL c l l2 n m).set m (c * cf l m + cf l2 m) = smL c l l2 n (m + 1) := by
  refine ext_cf (by rw [List.length_set, smL_len, smL_len]) (fun p hp => ?_)
  rw [List.length_set, smL_len] at hp
  rw [cf_set _ _ _ _ (by rw [smL_len]; exact hm), cf_smL _ _ _ _ _ hp, cf_smL _ _ _ _ _ hp]
  by_cases h : m = p
  · subst h; rw [if_pos rfl, if_pos (by omega)]
  · rw [if_neg h]
    by_cases h2 : p < m
    · rw [if_pos h2, if_pos (by omega)]
    · rw [if_neg h2, if_neg (by omega)]
theorem trL_sm {k : Nat} (c : F) (l l2 : List F) {p : Nat} (hp : p < 2 ^ k) : cf (trL false k (smL c l l2 (2 ^ k) (2 ^ k))) p = c * cf (trL false k l) p + cf (trL false k l2) p := by
  rw [cf_trL _ _ _ hp, cf_trL _ _ _ hp, cf_trL _ _ _ hp, tr_congr (b := fun i => c * cf l i + cf l2 i) (fun i hi => by rw [cf_smL _ _ _ _ _ hi, if_pos hi]), tr_fwd, tr_fwd, tr_fwd, dft_add, dft_smul]
def NbA (ws : World) (c : F) (l l2 : List F) (n g : Nat) (i : Value) (wr : World) : Prop :=
  ∃ m : Nat, m ≤ n ∧ i = .int .i64 m ∧ Ow ws.heap.size wr (.slice (some ⟨g, 0, none⟩) n n) (smL c l l2 n m) ∧ Below ws.heap.size ws wr
def NbB (ws : World) (n : Nat) (i : Value) (wr : World) : Prop := ∃ m : Nat, m ≤ n ∧ i = .int .i64 m ∧ Below ws.heap.size ws wr
end Go.Proofs.YtdhmmllpldjkbaaGreatDoor.Gm
/- (Vt) -/
namespace Go.Proofs.YtdhmmllpldjkbaaGreatDoor.Gm
open Go.RowKit
set_option linter.unusedVariables false
/-- number by number, up to m -/
@[irreducible] def prL (l l2 : List F) (m : Nat) : List F := (List.range l.length).map fun p => if p < m then cf l p * cf l2 p else cf l p
theorem prL_len (l l2 : List F) (m : Nat) : (prL l l2 m).length = l.length := by unfold prL; simp
theorem cf_prL (l l2 : List F) (m : Nat) {p : Nat} (hp : p < l.length) : cf (prL l l2 m) p = if p < m then cf l p * cf l2 p else cf l p := by unfold prL; exact cf_ofFn _ hp
theorem prL_zero (l l2 : List F) : prL l l2 0 = l := by
  refine ext_cf (prL_len _ _ _) (fun i hi => ?_)
  rw [prL_len] at hi
  rw [cf_prL _ _ _ hi, if_neg (by omega)]
theorem prL_at (l l2 : List F) {m : Nat} (hm : m < l.length) : cf (prL l l2 m) m = cf l m := by rw [cf_prL _ _ _ hm, if_neg (by omega)]
theorem prL_step (l l2 : List F) {m : Nat} (hm : m < l.length) : (prL l l2 m).set m (cf l m * cf l2 m) = prL l l2 (m + 1) := by
  refine ext_cf (by rw [List.length_set, prL_len, prL_len]) (fun p hp => ?_)
  rw [List.length_set, prL_len] at hp
  rw [cf_set _ _ _ _ (by rw [prL_len]; exact hm), cf_prL _ _ _ hp, cf_prL _ _ _ hp]
  by_cases h : m = p
  · subst h; rw [if_pos rfl, if_pos (by omega)]
  · rw [if_neg h]
    by_cases h2 : p < m
    · rw [if_pos h2, if_pos (by omega)]
    · rw [if_neg h2, if_neg (by omega)]
/-- the cyclic product of lists -/
@[irreducible] def cycL (k : Nat) (l m : List F) : List F := (List.range (2 ^ k)).map (cyc (2 ^ k) (cf l) (cf m))
theorem cycL_len (k : Nat) (l m : List F) : (cycL k l m).length = 2 ^ k := by unfold cycL; simp
theorem cf_cycL (k : Nat) (l m : List F) {p : Nat} (hp : p < 2 ^ k) : cf (cycL k l m) p = cyc (2 ^ k) (cf l) (cf m) p := by unfold cycL; exact cf_ofFn _ hp
theorem times_list {k : Nat} (hk : k ≤ 20) (l m : List F) : trL true k (prL (trL false k l) (trL false k m) (2 ^ k)) = cycL k l m := by
  refine ext_cf (by rw [trL_len, cycL_len]) (fun i hi => ?_)
  rw [trL_len] at hi
  rw [cf_trL _ _ _ hi, cf_cycL _ _ _ hi, ← tr_cyc hk _ _ hi]
  refine tr_congr (fun j hj => ?_) i
  rw [cf_prL _ _ _ (by rw [trL_len]; exact hj), if_pos hj, cf_trL _ _ _ hj, cf_trL _ _ _ hj]
def TmRel (w : World) (n g cp : Nat) (l l2 : List F) (v2 : Value) (i : Value) (wr : World) : Prop :=
  ∃ m : Nat, m ≤ n ∧ i = .int .i64 m ∧ Ow w.heap.size wr (.slice (some ⟨g, 0, none⟩) n cp) (prL l l2 m) ∧ Ow w.heap.size wr v2 l2 ∧ Below w.heap.size w wr
set_option maxHeartbeats 2000000 in
set_option maxRecDepth 100000 in
theorem times_ok (k : Nat) (zs ys : List Int) (v v2 : Value) (w : World) (h : Rd .u64 w v zs) (h2 : Rd .u64 w v2 ys) (hz : B64 zs) (hy : B64 ys) (hk : k ≤ 10) (hl : zs.length = 2 ^ k) (hl2 : ys.length = 2 ^ k) (hT : Tb w) :
    Calls Tryz.prog 92 #[v, v2] w (RetLE w (cycL k (zs.map toF) (ys.map toF)) 0) := by
  rw [← times_list (by omega)]
  have HR := Lib.hid h
  have HR2 := Lib.hid h2
  have HT := Lib.hid hT
  obtain ⟨f, hf⟩ : ∃ l, l = trL false k (zs.map toF) := ⟨_, rfl⟩
  obtain ⟨g, hg⟩ : ∃ l, l = trL false k (ys.map toF) := ⟨_, rfl⟩
  obtain ⟨n, hn⟩ : ∃ n, n = 2 ^ k := ⟨_, rfl⟩
  have hn1 : 1 ≤ n := by rw [hn]; exact Nat.two_pow_pos _
  have hk2 : 2 ^ k ≤ 2 ^ 10 := Nat.pow_le_pow_right (by omega) hk
  have hn2 : n ≤ 1024 := by omega
  obtain ⟨a, cap, rfl, hcap, hm⟩ := h.shape
  obtain ⟨a2, cap2, rfl, hcap2, hm2⟩ := h2.shape
  have C1 := Lib.hid (fun w v h hT => by have := nfwd_ok k zs v w h hz hk hl hT; rwa [← hf] at this)
  have C2 := Lib.hid (fun w v h hT => by have := nfwd_ok k ys v w h hy hk hl2 hT; rwa [← hg] at this)
  have LF := Lib.hid (show f.length = n by rw [hf, trL_len, hn])
  have LG := Lib.hid (show g.length = n by rw [hg, trL_len, hn])
  have C3 := Lib.hid (fun w B v h hT => @ninv_F k (prL f g n) B v w h hk (by rw [prL_len, LF.out, hn]) hT)
  have PZ := Lib.hid (prL_zero f g)
  have PL := Lib.hid (fun m => (prL_len f g m).trans LF.out)
  have PS := Lib.hid (fun m (hm : m < n) => prL_step f g (m := m) (by rw [LF.out]; exact hm))
  have PA := Lib.hid (fun m (hm : m < n) => prL_at f g (m := m) (by rw [LF.out]; exact hm))
  rw [← hf, ← hg, ← hn]
  clear h h2 hT hf hg hn hl hl2 hk2
  go_enter Tryz.func92, Tryz.ntmps92
  go_wp2_with fail
  refine (C1.out _ _ HR.out HT.out).mono ?_
  rintro e w1 ⟨v1, rfl, ho, hb⟩
  have O1 := Lib.hid ho
  have B1 := Lib.hid hb
  have hs1 := hb.size
  have T1 := Lib.hid (HT.out.below hb)
  have R1 := Lib.hid (HR2.out.below hb)
  clear ho hb
  go_wp2_with fail
  refine (C2.out _ _ R1.out T1.out).mono ?_
  rintro e w2 ⟨v2, rfl, ho, hb⟩
  obtain ⟨gx, cpx, rfl, hcx, hmx⟩ := O1.out.opened (by rw [LF.out]; exact hn1)
  obtain ⟨gy, cpy, rfl, hcy, hmy⟩ := Ow.opened ho (by rw [LG.out]; exact hn1)
  have O2 := O1.out.below hb
  have O3 := Ow.mono (l := g) ho hs1
  rw [← PZ.out] at O2
  rw [LF.out] at hcx
  rw [PL.out] at O2
  rw [LG.out] at hcy O3
  have O2 := Lib.hid O2
  have O3 := Lib.hid O3
  have B2 := Lib.hid (B1.out.trans (hb.mono hs1))
  have T2 := Lib.hid (T1.out.below hb)
  have hw1 := O1.out.base.2
  have hgy := (Ow.base ho).1
  have hne : gx ≠ gy := by omega
  clear ho hb O1 B1 T1 R1
  rw [LF.out, LG.out]
  go_wp2
  go_loopw [9, 28] (fun _ i wr => TmRel w n gx cpx f g (.slice (some ⟨gy, 0, none⟩) n cpy) i wr) (fun _ i _ => n - (intOf i).toNat)
  case atStart => exact ⟨0, by omega, rfl, O2.out, O3.out, B2.out⟩
  case round =>
    obtain ⟨m, hm1, rfl, ho1, ho2, hbel⟩ := hrel
    have OO := Lib.hid ho1
    have OP := Lib.hid ho2
    have HB := Lib.hid hbel
    have hwsz := hbel.size
    clear ho1 ho2 hbel O2 O3 B2
    by_cases hml : m < n
    · have LM := Lib.hid (PL.out m)
      have c1 : wr.cell? ⟨gx, m, none⟩ = some (.int .u64 (vl (cf f m))) := by
        rw [← PA.out m hml]; exact Ow.cell (l := prL f g m) (cap := cpx) (by rw [LM.out]; exact OO.out) (by rw [LM.out]; exact hml)
      have c2 : wr.cell? ⟨gy, m, none⟩ = some (.int .u64 (vl (cf g m))) := Ow.cell (l := g) (cap := cpy) (by rw [LG.out]; exact OP.out) (by rw [LG.out]; exact hml)
      have SM := Lib.hid (PS.out m hml)
      generalize cf f m = x at *
      generalize cf g m = y at *
      go_wp2
      go_still_tail 12, (by kernel_rfl)
      still_call (s_same (mul_F x y _))
      repeat still_step
      try refine wpStill_nil ?_
      change wpList _ _ _ _ _ wr.drew
      go_wp2_with (refine wl_storeF _ rfl (.tmp 42) (.tmp 41) rfl w.heap.size gx m n cpx (prL f g m) (x * y) rfl rfl (Ow.drewN OO.out 1) LM.out hml ?_)
      intro w3 hown3 ho3 hs3
      rw [SM.out] at hown3
      have hgB := OO.out.base.1
      have O4 := Lib.hid hown3
      have O5 := Ow.only (OP.out.drewN 1) ho3 (fun gg e eg => by
        have e1 : gy = gg := by simpa [Value.ownBlock] using e
        omega)
      have B3 := Lib.hid ((below_drewN HB.out 1).trans (ho3.below hwsz (fun gg e => by omega)))
      clear hown3 ho3 hs3 c1 c2
      go_wp2
      go_roundw
      case rel => exact ⟨m + 1, by omega, by go_num, O4.out, O5, B3.out⟩
      case measure => simp [intOf] <;> omega
    · obtain rfl : n = m := by omega
      have T3 := Lib.hid (HT.out.below HB.out)
      go_wp2_with fail
      refine (C3.out _ _ _ OO.out T3.out).mono ?_
      rintro e w4 ⟨v4, rfl, ho, hb⟩
      have O6 := Lib.hid (Ow.mono (l := trL true k (prL f g n)) ho hwsz)
      have B4 := Lib.hid (HB.out.trans (hb.mono hwsz))
      clear ho hb
      go_wp2
      go_ret2
      exact ⟨_, rfl, O6.out, B4.out⟩
theorem times_bad (zs : List Int) (v v2 : Value) (w : World) (h : Rd .u64 w v zs) (hl : ∀ k : Nat, k ≤ 10 → zs.length ≠ 2 ^ k) (hT : Tb w) :
    Calls Tryz.prog 92 #[v, v2] w (RetLE w [] 5) := by
  have CB := Lib.hid (nfwd_bad zs v w h hl hT)
  clear h hl hT
  go_enter Tryz.func92, Tryz.ntmps92
  go_wp2_with fail
  refine CB.out.mono ?_
  rintro e w1 ⟨v1, rfl, ho, hb⟩
  have B1 := Lib.hid hb
  clear ho hb
  go_wp2
  go_ret2
  exact ⟨_, rfl, Ow.nil _ _, B1.out⟩
/-- twisted -/
@[irreducible] def twL (l : List F) (y : F) (m : Nat) : List F := (List.range l.length).map fun p => if p < m then cf l p * y ^ p else 0
theorem twL_len (l : List F) (y : F) (m : Nat) : (twL l y m).length = l.length := by unfold twL; simp
theorem cf_twL (l : List F) (y : F) (m : Nat) {p : Nat} (hp : p < l.length) : cf (twL l y m) p = if p < m then cf l p * y ^ p else 0 := by unfold twL; exact cf_ofFn _ hp
theorem twL_zero (l : List F) (y : F) : twL l y 0 = List.replicate l.length 0 := by
  refine ext_cf (by rw [twL_len]; simp) (fun i hi => ?_)
  rw [twL_len] at hi
  rw [cf_twL _ _ _ hi, if_neg (by omega), cf_replicate]
theorem twL_step (l : List F) (y : F) {m : Nat} (hm : m < l.length) : (twL l y m).set m (cf l m * y ^ m) = twL l y (m + 1) := by
  refine ext_cf (by rw [List.length_set, twL_len, twL_len]) (fun p hp => ?_)
  rw [List.length_set, twL_len] at hp
  rw [cf_set _ _ _ _ (by rw [twL_len]; exact hm), cf_twL _ _ _ hp, cf_twL _ _ _ hp]
  by_cases h : m = p
  · subst h; rw [if_pos rfl, if_pos (by omega)]
  · rw [if_neg h]
    by_cases h2 : p < m
    · rw [if_pos h2, if_pos (by omega)]
    · rw [if_neg h2, if_neg (by omega)]
def TwRel (w : World) (n g : Nat) (l : List F) (y : F) (t i : Value) (wr : World) : Prop :=
  ∃ m : Nat, m ≤ n ∧ i = .int .i64 m ∧ t = .int .u64 (vl (y ^ m)) ∧ Ow w.heap.size wr (.slice (some ⟨g, 0, none⟩) n n) (twL l y m) ∧ Below w.heap.size w wr
end Go.Proofs.YtdhmmllpldjkbaaGreatDoor.Gm
/- (Cu) -/
namespace Go.Proofs.YtdhmmllpldjkbaaGreatDoor.Gm
open Go.RowKit
end Go.Proofs.YtdhmmllpldjkbaaGreatDoor.Gm
/- (Tu) -/
namespace Go.Proofs.YtdhmmllpldjkbaaGreatDoor.Gm
open Go.RowKit
set_option linter.unusedVariables false
/-- numbers at places -/
@[irreducible] def atL (zs : List Int) (ln : List Nat) (m : Nat) : List Int := (List.range m).map fun j => gd zs (nd ln j)
theorem atL_zero (zs : List Int) (ln : List Nat) : atL zs ln 0 = [] := by unfold atL; rfl
theorem atL_succ (zs : List Int) (ln : List Nat) (m : Nat) : atL zs ln (m + 1) = atL zs ln m ++ [gd zs (nd ln m)] := by unfold atL; rw [List.range_succ, List.map_append]; rfl
theorem atL_len (zs : List Int) (ln : List Nat) (m : Nat) : (atL zs ln m).length = m := by unfold atL; simp
theorem gd_atL (zs : List Int) (ln : List Nat) {m i : Nat} (h : i < m) : gd (atL zs ln m) i = gd zs (nd ln i) := by unfold atL; exact gd_range h
theorem atL_64 {zs : List Int} (h : B64 zs) (ln : List Nat) (m : Nat) : B64 (atL zs ln m) := by
  intro z hz
  unfold atL at hz
  obtain ⟨p, _, rfl⟩ := List.mem_map.1 hz
  exact h.get _
/-- numbers put at places -/
def puR (zs : List Int) (ln : List Nat) (f : Nat → F) : Nat → List Int
  | 0 => zs
  | m + 1 => (puR zs ln f m).set (nd ln m) (vl (f m))
@[irreducible] def puL (zs : List Int) (ln : List Nat) (f : Nat → F) (m : Nat) : List Int := puR zs ln f m
theorem puL_zero (zs : List Int) (ln : List Nat) (f : Nat → F) : puL zs ln f 0 = zs := by unfold puL; rfl
theorem puL_succ (zs : List Int) (ln : List Nat) (f : Nat → F) (m : Nat) : puL zs ln f (m + 1) = (puL zs ln f m).set (nd ln m) (vl (f m)) := by unfold puL; rfl
theorem puL_len (zs : List Int) (ln : List Nat) (f : Nat → F) (m : Nat) : (puL zs ln f m).length = zs.length := by
  induction m with
  | zero => rw [puL_zero]
  | succ m ih => rw [puL_succ, List.length_set, ih]
def TuA (w : World) (N : Nat) (zs : List Int) (ln : List Nat) (x i : Value) (wr : World) : Prop :=
  ∃ m : Nat, m ≤ N ∧ i = .int .i64 m ∧ Oz .u64 51 w.heap.size wr x (atL zs ln m) ∧ Below w.heap.size w wr
def TuB (w : World) (B B2 N g n cap : Nat) (zs : List Int) (ln : List Nat) (f : Nat → F) (lv xv : Value) (xl : List F) (i : Value) (wr : World) : Prop :=
  ∃ m : Nat, m ≤ N ∧ i = .int .i64 m ∧ Oz .u64 51 B wr (.slice (some ⟨g, 0, none⟩) n cap) (puL zs ln f m) ∧ Ow w.heap.size wr xv xl ∧ Oz .i64 3 B2 wr lv (zi ln) ∧ Only (fun k => k = g) w wr
/-- a call's end that changes one block alone -/
def RetTu (B g n cap : Nat) (L : List Int) (w : World) (e : Ending) (w' : World) : Prop := e = .returned (.tuple #[]) ∧ Oz .u64 51 B w' (.slice (some ⟨g, 0, none⟩) n cap) L ∧ Only (fun k => k = g) w w'
end Go.Proofs.YtdhmmllpldjkbaaGreatDoor.Gm
/- (Hc) -/
namespace Go.Proofs.YtdhmmllpldjkbaaGreatDoor.Gm
open Go.RowKit
theorem i64_and_nat (a b : Nat) (ha : a < 9223372036854775808) (hb : b < 9223372036854775808) : bits .and .i64 (a : Int) (b : Int) = ((a &&& b : Nat) : Int) := by
  have hx : a &&& b < 2 ^ 63 := Nat.and_lt_two_pow _ (by omega)
  have o : ∀ c : Nat, c < 9223372036854775808 → (BitVec.ofInt 64 (c : Int)).toNat = c := fun c hc => by
    rw [BitVec.ofInt_natCast, BitVec.toNat_ofNat]; exact Nat.mod_eq_of_lt (by omega)
  show IntKind.i64.wrap ((BitVec.ofInt 64 (a : Int) &&& BitVec.ofInt 64 (b : Int)).toNat : Int) = _
  rw [BitVec.toNat_and, o a ha, o b hb, IntKind.wrap_i64]
  omega
theorem odd_any (d : Int) (w : World) (h0 : -9223372036854775808 ≤ d) (h1 : d ≤ 9223372036854775807) :
    Calls Tryz.prog 134 #[.int .i64 d] w fun e w' => ((pw d ∧ e = .returned (.bool false)) ∨ (¬ pw d ∧ e = .returned (.bool true))) ∧ w = w' := by
  by_cases hd : d < 1
  · have NP := Lib.hid (show ¬ pw d from fun h => by have := pw_pos h; omega)
    go_enter Tryz.func134, Tryz.ntmps134
    go_wp2
    go_ret
    exact ⟨.inr ⟨NP.out, rfl⟩, rfl⟩
  · obtain ⟨n, rfl⟩ : ∃ n : Nat, d = (n : Int) := ⟨d.toNat, by omega⟩
    have hn : 1 ≤ n := by omega
    have hb := i64_and_nat n (n - 1) (by omega) (by omega)
    rw [show ((n - 1 : Nat) : Int) = (n : Int) - 1 by omega] at hb
    have AP := Lib.hid (and_pred n hn)
    by_cases hz : n &&& (n - 1) = 0
    · have PP := Lib.hid (AP.out.1 hz)
      rw [hz] at hb
      clear hz
      go_enter Tryz.func134, Tryz.ntmps134
      go_wp2
      go_ret
      exact ⟨.inl ⟨PP.out, by first | rfl | (simp; done) | (simp; omega)⟩, rfl⟩
    · have PP := Lib.hid (show ¬ pw (n : Int) from fun h => hz (AP.out.2 h))
      have hne : (((n &&& (n - 1) : Nat) : Int) != 0) = true := by simpa using hz
      generalize n &&& (n - 1) = q at *
      clear hz AP
      go_enter Tryz.func134, Tryz.ntmps134
      go_wp2
      go_ret
      exact ⟨.inr ⟨PP.out, by simp⟩, rfl⟩
set_option maxHeartbeats 2000000 in
theorem indexf_any (zs : List Int) (v : Value) (w : World) (h : Rd .i64 w v zs) (hw : W64 zs) :
    Calls Tryz.prog 148 #[v, .func (Fn.func 134) #[] #[]] w fun e w' => (((∀ d ∈ zs, pw d) ∧ e = .returned (.int .i64 (-1))) ∨ ((∃ d ∈ zs, ¬ pw d) ∧ ∃ k : Nat, e = .returned (.int .i64 k))) ∧ w = w' := by
  obtain ⟨a, cap, b, off, rfl, hcap, hm, hx, hc⟩ := h.opened
  have HC := Lib.hid hc
  clear hc h
  rcases hx with hx | rfl
  all_goals
    go_enter Tryz.func148, Tryz.ntmps148
    go_wp2
    go_loop [8] (fun i => ∃ k : Nat, k ≤ zs.length ∧ i = .int .i64 k ∧ ∀ d ∈ zs.take k, pw d) (fun i => zs.length - (intOf i).toNat)
    case atStart => exact ⟨0, by omega, rfl, by simp⟩
    case round =>
      obtain ⟨k, hk, rfl, hp⟩ := hrel
      have HP := Lib.hid hp
      clear hp
      by_cases hkl : k < zs.length
      · first
        | (exfalso; omega)
        | (have hcell := HC.out k hkl
           have hb := hw.get hkl
           have TP := Lib.hid (take_pw hkl HP.out)
           have MM := Lib.hid (gd_memZ hkl)
           generalize gd zs k = d at *
           go_wp2_with fail
           refine (odd_any d _ hb.1 hb.2).mono ?_
           rintro e w' ⟨hr, rfl⟩
           rcases hr with ⟨hpd, rfl⟩ | ⟨hpd, rfl⟩
           · have PP := Lib.hid (TP.out hpd)
             clear hpd
             go_wp2
             go_round
             case rel => exact ⟨k + 1, by omega, by go_num, PP.out⟩
             case measure => simp [intOf]; omega
           · have PP := Lib.hid hpd
             clear hpd
             go_wp2
             go_ret
             exact ⟨.inr ⟨⟨d, MM.out, PP.out⟩, k, rfl⟩, rfl⟩)
      · obtain rfl : k = zs.length := by omega
        rw [List.take_length] at HP
        go_wp2
        go_ret
        exact ⟨.inl ⟨HP.out, rfl⟩, rfl⟩
theorem containsf_any (zs : List Int) (v : Value) (w : World) (h : Rd .i64 w v zs) (hw : W64 zs) :
    Calls Tryz.prog 133 #[v, .func (Fn.func 134) #[] #[]] w fun e w' => (((∀ d ∈ zs, pw d) ∧ e = .returned (.bool false)) ∨ ((∃ d ∈ zs, ¬ pw d) ∧ e = .returned (.bool true))) ∧ w = w' := by
  go_enter Tryz.func133, Tryz.ntmps133
  go_wp2_with fail
  refine (indexf_any zs v _ h hw).mono ?_
  rintro e w' ⟨hr, rfl⟩
  rcases hr with ⟨hp, rfl⟩ | ⟨hp, k, rfl⟩
  · have PP := Lib.hid hp
    clear hp
    go_wp2
    go_ret
    exact ⟨.inl ⟨PP.out, rfl⟩, rfl⟩
  · have PP := Lib.hid hp
    clear hp
    go_wp2
    go_ret
    exact ⟨.inr ⟨PP.out, by simp⟩, rfl⟩
theorem div_lt_mul {p d : Nat} (hp : 1 ≤ p) : 1024 / p < d ↔ 1024 < p * d := by
  rw [Nat.div_lt_iff_lt_mul hp, Nat.mul_comm]
set_option maxHeartbeats 2000000 in
theorem mcheck_any (zs : List Int) (v : Value) (w : World) (h : Rd .i64 w v zs) (hw : W64 zs) :
    Calls Tryz.prog 117 #[v] w fun e w' => ShAns zs e ∧ w = w' := by
  have HR := Lib.hid h
  obtain ⟨a, cap, b, off, rfl, hcap, hm, hx, hc⟩ := h.opened
  have HC := Lib.hid hc
  clear hc h
  by_cases hlen : 1 ≤ zs.length ∧ zs.length ≤ 3
  · obtain ⟨hl1, hl3⟩ := hlen
    rcases hx with hx | rfl
    · exfalso; omega
    go_enter Tryz.func117, Tryz.ntmps117
    go_wp2_with fail
    refine (containsf_any zs _ _ HR.out hw).mono ?_
    rintro e w' ⟨hr, rfl⟩
    rcases hr with ⟨hp, rfl⟩ | ⟨hp, rfl⟩
    · obtain ⟨ds, hds, hpd⟩ := to_nat hp
      subst hds
      have hpos : ∀ d ∈ ds, 1 ≤ d := fun d hd => by obtain ⟨k, rfl⟩ := hpd d hd; exact Nat.two_pow_pos k
      have HPD := Lib.hid hpd
      have HPS := Lib.hid hpos
      rw [zi_len] at hl1 hl3
      have LZ := Lib.hid (zi_len ds)
      clear hpd hpos hp HR
      rw [LZ.out]
      go_wp2
      go_loop [4, 19] (fun n i => ∃ k : Nat, k ≤ ds.length ∧ i = .int .i64 k ∧ n = .int .i64 (pr (ds.take k)) ∧ pr (ds.take k) ≤ 1024) (fun _ i => ds.length - (intOf i).toNat)
      case atStart => exact ⟨0, by omega, rfl, rfl, by simp [pr]⟩
      case round =>
        obtain ⟨k, hk, rfl, rfl, hle⟩ := hrel
        by_cases hkl : k < ds.length
        · have hcell := HC.out k (by rw [LZ.out]; exact hkl)
          rw [gd_zi] at hcell
          have PT := Lib.hid (pr_take_succ ds k hkl)
          have hd1 := HPS.out _ (nd_mem hkl)
          have TN := Lib.hid (pr_pos (l := ds.take k) (fun d hd => HPS.out d (List.mem_of_mem_take hd)))
          have hn1 := TN.out
          have SPL := Lib.hid (pr_take_le HPS.out (k + 1))
          have hbw : ((nd ds k : Nat) : Int) ≤ 9223372036854775807 := by
            have := hw.get (i := k) (by rw [LZ.out]; exact hkl)
            rw [gd_zi] at this
            exact this.2
          generalize pr (ds.take k) = p at *
          generalize nd ds k = d at *
          have DL := Lib.hid (div_lt_mul (p := p) (d := d) hn1)
          have hq : ((1024 : Int)).tdiv (p : Int) = ((1024 / p : Nat) : Int) := rfl
          have hqw : IntKind.i64.wrap ((1024 : Int).tdiv (p : Int)) = ((1024 / p : Nat) : Int) := by
            rw [hq]; have h := Nat.div_le_self 1024 p; generalize 1024 / p = q at *; exact IntWalk.i64_in _ (by omega)
          have hp0 : ¬ p = 0 := by omega
          clear hq
          by_cases hbig : 1024 / p < d
          · have BB := Lib.hid (show 1024 < pr ds by have h1 := SPL.out; rw [PT.out] at h1; have := DL.out.1 hbig; omega)
            generalize 1024 / p = q at *
            go_wp2
            go_ret2
            exact ⟨.inr (.inl ⟨⟨ds, rfl, hl1, hl3, HPD.out, BB.out⟩, rfl⟩), rfl⟩
          · have HLE := Lib.hid (show p * d ≤ 1024 by have : ¬ 1024 < p * d := fun h => hbig (DL.out.2 h); omega)
            have hm0 : (0 : Int) ≤ (p : Int) * (d : Int) := by rw [← Int.natCast_mul]; exact Int.natCast_nonneg _
            have hm1 : (p : Int) * (d : Int) ≤ 1024 := by have := HLE.out; rw [← Int.natCast_mul]; omega
            generalize 1024 / p = q at *
            clear DL
            go_wp2
            go_round
            case rel => exact ⟨k + 1, by omega, by go_num, by rw [PT.out, Int.natCast_mul], by rw [PT.out]; exact HLE.out⟩
            case measure => simp [intOf]; omega
        · obtain rfl : k = ds.length := by omega
          rw [List.take_length] at hle ⊢
          go_wp2
          go_ret2
          exact ⟨.inr (.inr ⟨ds, rfl, ⟨hl1, hl3, HPD.out, hle⟩, rfl⟩), rfl⟩
    · have PP := Lib.hid hp
      clear hp
      go_wp2
      go_ret2
      exact ⟨.inl ⟨.inr PP.out, rfl⟩, rfl⟩
  · have HL := Lib.hid hlen
    rcases (show zs.length < 1 ∨ (1 ≤ zs.length ∧ 3 < zs.length) by omega) with h1 | ⟨h1, h2⟩
    all_goals
      clear hlen
      go_enter Tryz.func117, Tryz.ntmps117
      go_wp2
      go_ret2
      exact ⟨.inl ⟨.inl HL.out, rfl⟩, rfl⟩
end Go.Proofs.YtdhmmllpldjkbaaGreatDoor.Gm
/- (Hm) -/
namespace Go.Proofs.YtdhmmllpldjkbaaGreatDoor.Gm
open Go.RowKit
def MiRel (w2 : World) (ds : List Nat) (a k : Nat) (l i : Value) (wi : World) : Prop :=
  ∃ m : Nat, m ≤ nd ds a ∧ i = .int .i64 m ∧ Oz .i64 3 w2.heap.size wi l (zi (lin ds a k m)) ∧ Below w2.heap.size w2 wi
/-- a call's end: a list of lists of its own, an error's number -/
def RetLLE (w : World) (ll : List (List Int)) (n : Int) (e : Ending) (w' : World) : Prop := ∃ v, e = .returned (.tuple #[v, .int .i64 n]) ∧ OL w.heap.size w' v ll ∧ Below w.heap.size w w'
end Go.Proofs.YtdhmmllpldjkbaaGreatDoor.Gm
/- (Al) -/
namespace Go.Proofs.YtdhmmllpldjkbaaGreatDoor.Gm
open Go.RowKit
set_option linter.unusedVariables false
theorem puL_tz (back : Bool) (s k n L : Nat) (zs : List Int) (ln : List Nat) (hs : 0 < s) (hln : ∀ i, i < 2 ^ k → nd ln i = lineAt s (2 ^ k) L + i * s) (hin : ∀ i, i < 2 ^ k → lineAt s (2 ^ k) L + i * s < n) :
    ∀ m, m ≤ 2 ^ k → puL (tz back s k n 0 L zs) ln (tr back k (fun i => toF (gd (tz back s k n 0 L zs) (nd ln i)))) m = tzPart back s k n 0 L m zs := by
  have hf : ∀ j, tr back k (fun i => toF (gd (tz back s k n 0 L zs) (nd ln i))) j = tr back k (fun i => toF (gd zs (lineAt s (2 ^ k) L + i * s))) j := fun j => tr_congr (fun i hi => by
    rw [hln i hi, gd_tz _ _ _ _ _ _ _ (hin i hi), tzAt, lineNo_of _ _ _ _ hs hi, if_neg (by omega)]) j
  intro m
  induction m with
  | zero => intro _; rw [puL_zero, tzPart_zero]
  | succ m ih =>
    intro hm
    rw [puL_succ, ih (by omega), hf, hln m (by omega)]
    exact tzPart_step back s k n 0 L m zs hs (by omega)
def AlRel (w : World) (B1 : Nat) (back : Bool) (s k n g c : Nat) (zs : List Int) (lv : Value) (ll : List (List Int)) (M : Nat) (i : Value) (wr : World) : Prop :=
  ∃ m : Nat, m ≤ M ∧ i = .int .i64 m ∧ Oz .u64 51 w.heap.size wr (.slice (some ⟨g, 0, none⟩) n c) (tz back s k n 0 m zs) ∧ OL B1 wr lv ll ∧ Below w.heap.size w wr
end Go.Proofs.YtdhmmllpldjkbaaGreatDoor.Gm
/- (Fm) -/
namespace Go.Proofs.YtdhmmllpldjkbaaGreatDoor.Gm
open Go.RowKit
set_option linter.unusedVariables false
/-- a call's end: an error's number alone -/
def RetE (w : World) (n : Int) (e : Ending) (w' : World) : Prop := e = .returned (.int .i64 n) ∧ Below w.heap.size w w'
end Go.Proofs.YtdhmmllpldjkbaaGreatDoor.Gm
/- (An) -/
namespace Go.Proofs.YtdhmmllpldjkbaaGreatDoor.Gm
open Go.RowKit
set_option linter.unusedVariables false
/-- a call's end: a list of integers of its own, an error's number -/
def RetZE (w : World) (l : List Int) (n : Int) (e : Ending) (w' : World) : Prop := ∃ v, e = .returned (.tuple #[v, .int .i64 n]) ∧ Oz .u64 51 w.heap.size w' v l ∧ Below w.heap.size w w'
end Go.Proofs.YtdhmmllpldjkbaaGreatDoor.Gm
/- (Pd) -/
namespace Go.Proofs.YtdhmmllpldjkbaaGreatDoor.Gm
open Go.RowKit
set_option linter.unusedVariables false
theorem puL_tzf (back : Bool) (s k n f L : Nat) (zs : List Int) (ln : List Nat) (hs : 0 < s) (hln : ∀ i, i < 2 ^ k → nd ln i = lineAt s (2 ^ k) L + i * s) (hin : ∀ i, i < 2 ^ k → lineAt s (2 ^ k) L + i * s < n) :
    ∀ m, m ≤ 2 ^ k → puL (tz back s k n f L zs) ln (tr back k (fun i => toF (gd (tz back s k n f L zs) (nd ln i)))) m = tzPart back s k n f L m zs := by
  have hf : ∀ j, tr back k (fun i => toF (gd (tz back s k n f L zs) (nd ln i))) j = tr back k (fun i => toF (gd zs (lineAt s (2 ^ k) L + i * s))) j := fun j => tr_congr (fun i hi => by
    rw [hln i hi, gd_tz _ _ _ _ _ _ _ (hin i hi), tzAt, lineNo_of _ _ _ _ hs hi, if_neg (by omega)]) j
  intro m
  induction m with
  | zero => intro _; rw [puL_zero, tzPart_zero]
  | succ m ih =>
    intro hm
    rw [puL_succ, ih (by omega), hf, hln m (by omega)]
    exact tzPart_step back s k n f L m zs hs (by omega)
theorem Blk.bel {b : Nat} {t : TypeId} {cs : Array Value} {w w' : World} (h : Blk w b t cs) (hb : Below w.heap.size w w') : Blk w' b t cs := h.below hb h.lt
theorem Blk.cells3 {b : Nat} {t : TypeId} {x y z : Int} {w : World} (h : Blk w b t #[.int .i64 x, .int .i64 y, .int .i64 z]) : w.cell? ⟨b, 0, none⟩ = some (.int .i64 x) ∧ w.cell? ⟨b, 1, none⟩ = some (.int .i64 y) ∧ w.cell? ⟨b, 2, none⟩ = some (.int .i64 z) := ⟨h.cell 0, h.cell 1, h.cell 2⟩
def PdRel (w : World) (B1 : Nat) (back : Bool) (s k n f t g c : Nat) (zs : List Int) (lv : Value) (ll : List (List Int)) (i : Value) (wr : World) : Prop :=
  ∃ m : Nat, m ≤ t - f ∧ i = .int .i64 m ∧ Oz .u64 51 w.heap.size wr (.slice (some ⟨g, 0, none⟩) n c) (tz back s k n f (f + m) zs) ∧ OL B1 wr lv ll ∧ Below w.heap.size w wr
/-- what is wrong with a task's numbers: its axis, its first line, its last line -/
def TaskBad (ds : List Nat) (t : T3) : Prop := t.1 < 0 ∨ (ds.length : Int) ≤ t.1 ∨ t.2.1 < 0 ∨ t.2.2 ≤ t.2.1 ∨ ∃ x : Nat, t.1 = x ∧ x < ds.length ∧ ((pr ds / nd ds x : Nat) : Int) < t.2.2
theorem TaskBad.cases {ds : List Nat} {x y z : Int} (h : TaskBad ds (x, y, z)) : x < 0 ∨ (0 ≤ x ∧ (ds.length : Int) ≤ x) ∨ (∃ a : Nat, x = a ∧ a < ds.length ∧ (y < 0 ∨ (0 ≤ y ∧ z ≤ y) ∨ (0 ≤ y ∧ y < z ∧ ((pr ds / nd ds a : Nat) : Int) < z))) := by
  unfold TaskBad at h
  by_cases h0 : x < 0
  · exact .inl h0
  by_cases h1 : (ds.length : Int) ≤ x
  · exact .inr (.inl ⟨by omega, h1⟩)
  refine .inr (.inr ⟨x.toNat, by omega, by omega, ?_⟩)
  rcases h with h | h | h | h | ⟨a, h, h2, h3⟩
  · exact absurd h h0
  · exact absurd h h1
  · exact .inl h
  · by_cases hy : y < 0
    · exact .inl hy
    · exact .inr (.inl ⟨by omega, h⟩)
  · by_cases hy : y < 0
    · exact .inl hy
    by_cases hz : z ≤ y
    · exact .inr (.inl ⟨by omega, hz⟩)
    · have e : x.toNat = a := by have h : x = (a : Int) := h; omega
      rw [e]
      exact .inr (.inr ⟨by omega, by omega, h3⟩)
end Go.Proofs.YtdhmmllpldjkbaaGreatDoor.Gm
/- (Pwa) -/
namespace Go.Proofs.YtdhmmllpldjkbaaGreatDoor.Gm
open Go.RowKit
set_option linter.unusedVariables false
/-- the array in the middle of phase x, some tasks left -/
@[irreducible] def pws (back : Bool) (ks : List Nat) (zs : List Int) (x : Nat) (left : List T3) : List Int := tzS back (under (szs ks) x) (nd ks x) (pk ks) (dnT left) (alT back ks zs x)
theorem pws_len (back : Bool) (ks : List Nat) (zs : List Int) (x : Nat) (left : List T3) : (pws back ks zs x left).length = pk ks := by unfold pws; rw [tzS_len]
theorem pws_64 {back : Bool} {ks : List Nat} {zs : List Int} (hl : zs.length = pk ks) (hz : B64 zs) (x : Nat) (left : List T3) : B64 (pws back ks zs x left) := by
  unfold pws; exact B64.tzS (alT_64 hl hz x) (alT_len hl x)
theorem lnX_szs {ks : List Nat} (hs : Shp (szs ks)) {x : Nat} (hx : x < ks.length) : lnX (szs ks) x = pr ((szs ks).take x) * under (szs ks) x := lnX_eq hs (by rw [szs_len]; exact hx)
theorem pws_start {back : Bool} {ks : List Nat} {zs : List Int} (hs : Shp (szs ks)) {x : Nat} (hx : x < ks.length) {l : List T3} (h : RP x (lnX (szs ks) x) l) (hl : zs.length = pk ks) : pws back ks zs x l = alT back ks zs x := by
  have hu : 0 < under (szs ks) x := under_pos szs_pos x
  have hsp : pk ks = pr ((szs ks).take x) * (2 ^ nd ks x * under (szs ks) x) := shp_split (by rw [szs_len]; exact hx) (nd_szs ks hx)
  refine ext_gd (by rw [pws_len, alT_len hl]) (fun p hp => ?_)
  rw [pws_len] at hp
  unfold pws
  rw [gd_tzS _ _ _ _ _ _ hp, tzSAt, dnT_start h (by rw [lnX_szs hs hx]; exact lineNo_lt _ _ _ _ hu (by rw [← hsp]; exact hp)), if_neg (by simp)]
theorem pws_done {back : Bool} {ks : List Nat} {zs : List Int} {x : Nat} (hx : x < ks.length) : pws back ks zs x [] = alT back ks zs (x + 1) := by
  have hu : 0 < under (szs ks) x := under_pos szs_pos x
  have hsp : pk ks = pr ((szs ks).take x) * (2 ^ nd ks x * under (szs ks) x) := shp_split (by rw [szs_len]; exact hx) (nd_szs ks hx)
  rw [alT_succ]
  unfold pws
  rw [hsp, tzS_all hu (fun L _ => dnT_nil L)]
theorem pws_step {back : Bool} {ks : List Nat} {zs : List Int} {x : Nat} (hx : x < ks.length) {left : List T3} {i f t : Nat} {y : Int} (hi : i < left.length) (ht : tg left i = (y, (f : Int), (t : Int))) (h1 : ∀ k : Int, cntL left k ≤ 1) :
    tz back (under (szs ks) x) (nd ks x) (pk ks) f t (pws back ks zs x left) = pws back ks zs x (left.take i ++ left.drop (i + 1)) ∧ ∀ k : Int, cntL (left.take i ++ left.drop (i + 1)) k ≤ 1 := by
  have hu : 0 < under (szs ks) x := under_pos szs_pos x
  have hsp : pk ks = pr ((szs ks).take x) * (2 ^ nd ks x * under (szs ks) x) := shp_split (by rw [szs_len]; exact hx) (nd_szs ks hx)
  obtain ⟨e1, e2, e3⟩ := dnT_step hi ht h1
  refine ⟨?_, e3⟩
  unfold pws
  rw [hsp, tzS_step hu e1, e2]
/-- the tasks that are left are right -/
def LeftOk (x lines : Nat) (left : List T3) : Prop := (∀ t ∈ left, okT x lines t) ∧ ∀ k : Int, cntL left k ≤ 1
theorem LeftOk.at {x lines : Nat} {left : List T3} (h : LeftOk x lines left) {i : Nat} (hi : i < left.length) : ∃ f t : Nat, tg left i = ((x : Int), (f : Int), (t : Int)) ∧ f < t ∧ t ≤ lines := by
  have hm : tg left i ∈ left := by rw [tg_lt hi]; exact List.getElem_mem hi
  obtain ⟨h1, h2, h3, h4⟩ := h.1 _ hm
  generalize tg left i = u at *
  obtain ⟨a, b, c⟩ := u
  simp only at h1 h2 h3 h4
  refine ⟨b.toNat, c.toNat, ?_, by omega, by omega⟩
  rw [h1, Int.toNat_of_nonneg h2, Int.toNat_of_nonneg (by omega)]
theorem LeftOk.out {x lines : Nat} {left : List T3} (h : LeftOk x lines left) {i : Nat} (hi : i < left.length) : LeftOk x lines (left.take i ++ left.drop (i + 1)) := by
  obtain ⟨f, t, ht, _, _⟩ := h.at hi
  refine ⟨fun u hu => h.1 u ?_, (dnT_step hi ht h.2).2.2⟩
  rcases List.mem_append.1 hu with hu | hu
  · exact List.mem_of_mem_take hu
  · exact List.mem_of_mem_drop hu
theorem LeftOk.start {x lines : Nat} {l : List T3} (h : RP x lines l) : LeftOk x lines l := ⟨h.1, fun k => cnt_le_one h k⟩
theorem out_len {l : List T3} {i : Nat} (hi : i < l.length) : (l.take i ++ l.drop (i + 1)).length = l.length - 1 := by
  rw [List.length_append, List.length_take, List.length_drop]; omega
end Go.Proofs.YtdhmmllpldjkbaaGreatDoor.Gm
