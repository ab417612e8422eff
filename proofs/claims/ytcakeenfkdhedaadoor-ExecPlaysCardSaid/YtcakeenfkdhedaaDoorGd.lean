/- Laid together by wip/merge.py: Lit Rest Shd Sz Lnb Vt Cu Tu Hc Hm Al Fm An Pd Pwa. -/
import Derived.Test.YtcakeenfkdhedaaDoorGa
import Derived.Test.YtcakeenfkdhedaaDoorGb
import Derived.Test.YtcakeenfkdhedaaDoorPla
import Derived.Test.YtcakeenfkdhedaaDoorGc
import Derived.Lib.SliceRun
import Derived.Laws.OwnMore
/- (Lit) -/
namespace Go.Proofs.YtcakeenfkdhedaaDoor.Gm
open Go.RowKit
/-- a list of literals, just laid -/
theorem Rd.lit (k : IntKind) (w : World) (zs : List Int) (t : TypeId) (n : Nat) (hn : n = zs.length) (hl : zs.length ≤ 1000000) :
    Rd k (w.alloc (.cells (zs.map (Value.int k)).toArray t)) (.slice (some ⟨w.heap.size, 0, none⟩) n n) zs := by
  subst hn
  refine ⟨_, _, w.heap.size, 0, rfl, Nat.le_refl _, by omega, .inr rfl, fun i hi => ?_⟩
  rw [World.cell?_alloc_at _ _ _ _ rfl, Nat.zero_add, gd_eq]
  simp [List.getElem?_eq_getElem hi]
end Go.Proofs.YtcakeenfkdhedaaDoor.Gm
/- (Rest) -/
namespace Go.Proofs.YtcakeenfkdhedaaDoor.Gm
open Go.RowKit
theorem rest_any (n m : Int) (w : World) (h0 : -9223372036854775808 ≤ n) (h1 : n ≤ 9223372036854775807) (m0 : 0 < m) (m1 : m ≤ 9223372036854775807) :
    Calls Tryd.prog 38 #[.int .i64 n, .int .i64 m] w fun e w' => e = .returned (.int .i64 (n % m)) ∧ w = w' := by
  by_cases hn : 0 ≤ n
  · have hd : decide (n % m < 0) = false := by simp; exact Int.emod_nonneg _ (by omega)
    go_enter Tryd.func38, Tryd.ntmps38
    go_wp2
    go_ret
    exact ⟨rfl, rfl⟩
  · have hm1 := Int.emod_lt_of_pos n m0
    have hm2 := Int.emod_nonneg n (show m ≠ 0 by omega)
    have ht := @Int.tmod_eq_emod n m
    by_cases hd : m ∣ n
    · have hz : n.tmod m = 0 := by rw [ht, if_pos (.inr hd)]; have := Int.emod_eq_zero_of_dvd hd; omega
      have h2 : n % m = 0 := Int.emod_eq_zero_of_dvd hd
      have H2 := Lib.hid h2
      clear h2 hd ht hm1 hm2
      go_enter Tryd.func38, Tryd.ntmps38
      go_wp2
      go_ret
      exact ⟨by rw [H2.out]; rfl, rfl⟩
    · have hz : n.tmod m = n % m - m := by rw [ht, if_neg (by simp; exact ⟨by omega, hd⟩)]; omega
      have hlt : n % m - m < 0 := by omega
      have he : n % m - m + m = n % m := by omega
      generalize n % m = q at *
      clear ht hd
      go_enter Tryd.func38, Tryd.ntmps38
      go_wp2
      go_ret
      exact ⟨rfl, rfl⟩
end Go.Proofs.YtcakeenfkdhedaaDoor.Gm
/- (Shd) -/
namespace Go.Proofs.YtcakeenfkdhedaaDoor.Gm
open Go.RowKit
set_option linter.unusedVariables false
/-- copy into a list of the call's own -/
theorem wl_copyG (k : IntKind) (te ts : TypeId) (hu : Tryd.prog.underlying ts = some (.slice te)) (hsz : (Tryd.prog.info? te).map (·.size) = some 1)
    {ops : Array Oper} {rest : List Oper} {o : Oper} {a : Act} {Q : Exit → Act → World → Prop} (w : World) (hgd : o.guard = none) (d s : Operand)
    (ho : o.op = .call { callee := .builtin .copy, args := #[d, s], argTypes := #[ts, ts] })
    (B g n cap : Nat) (l zs : List Int) (v : Value) (W : World) (hd : a.eval d = .slice (some ⟨g, 0, none⟩) n cap) (hs : a.eval s = v)
    (hown : Oz k te B w (.slice (some ⟨g, 0, none⟩) n cap) l) (hn : l.length = n) (hrd : Rd k w v zs) (hbel : Below B W w)
    (h : ∀ z w', Oz k te B w' (.slice (some ⟨g, 0, none⟩) n cap) (zs.take n ++ l.drop (zs.take n).length) → Below B W w' → wpList Tryd.prog ops Q rest (a.put o.dst z) w') :
    wpList Tryd.prog ops Q (o :: rest) a w := by
  subst hn
  obtain ⟨sp, scap, b, off, rfl, h1, h2, h3, h4⟩ := hrd
  rcases hown.2 with ⟨e0, _⟩ | ⟨g', cap', cur, e, hb, hg, hnc, hm, hsc, ht⟩
  · injection e0 with e1; cases e1
  · injection e with e1 e2 e3
    injection e1 with e4
    injection e4 with e5
    subst e5; subst e3
    have hcl : cur.toList.length = cap := by rw [Array.length_toList]; omega
    have hlen2 := hown.1
    obtain ⟨ys, hys⟩ : ∃ ys, ys = zs.take l.length := ⟨_, rfl⟩
    have hyl : ys.length = min l.length zs.length := by rw [hys, List.length_take]
    rw [← hys] at h
    have hcs : (ys.map (Value.int k)).length = ys.length := List.length_map _
    refine wpList_copy_splice hgd d s ts ts ho te hu hsz (some ⟨g, 0, none⟩) sp l.length cap zs.length scap hd hs g 0 cur.toList te (by simpa using hg) (ys.map (Value.int k)) (by rw [hcs, hyl]; exact Nat.min_comm _ _) ?_ (by rw [hcs, hcl]; omega) ?_ B W hbel hb ?_
    · intro hp
      rcases h3 with h3 | h3
      · subst h3; simp at hyl; rw [hcs, hyl] at hp; exact absurd hp (Nat.lt_irrefl 0)
      · refine ⟨rfl, _, h3, fun j u hj => ?_⟩
        have hjl : j < ys.length := by
          have := (List.getElem?_eq_some_iff.1 hj).1
          omega
        have e : ((⟨b, off, none⟩ : Addr).add j) = ⟨b, off + j, none⟩ := by unfold Addr.add; by_cases h0 : j = 0 <;> simp [h0]
        rw [e, h4 j (by omega), gd_eq]
        rw [hys, List.getElem?_map, List.getElem?_take_of_lt (by omega), List.getElem?_eq_getElem (by omega)] at hj
        rw [List.getElem?_eq_getElem (by omega)]
        exact hj
    · intro u hu'
      obtain ⟨x, _, rfl⟩ := List.mem_map.1 hu'
      rfl
    · intro w' hw' hbel'
      refine h _ w' ?_ hbel'
      have hl : (ys ++ l.drop ys.length).length = l.length := by rw [List.length_append, List.length_drop]; omega
      unfold Oz
      rw [hl]
      refine ⟨by simp; omega, .inr ⟨g, cap, _, rfl, hb, hw'.out, hnc, hm, ?_, ?_⟩⟩
      · rw [List.size_toArray, length_splice _ _ _ (by rw [hcs, hcl]; omega), hcl, Nat.mul_one]
      · rw [List.toList_toArray, Nat.mul_one]
        rw [Nat.mul_one] at ht
        unfold splice
        rw [List.take_zero, List.nil_append, Nat.zero_add, hcs, List.map_append, List.map_drop, ← ht]
        rw [List.take_append, hcs, List.take_of_length_le (by rw [hcs]; omega)]
        rw [List.drop_take]
/-- a list brought to so many numbers -/
def siz (zs : List Int) (n : Nat) : List Int := zs.take n ++ List.replicate (n - min n zs.length) 0
theorem siz_len (zs : List Int) (n : Nat) : (siz zs n).length = n := by
  unfold siz
  rw [List.length_append, List.length_replicate, List.length_take]; omega
theorem siz_64 {zs : List Int} (h : B64 zs) (n : Nat) : B64 (siz zs n) := by
  intro z hz
  rcases List.mem_append.1 hz with hz | hz
  · exact h z (List.mem_of_mem_take hz)
  · have := List.eq_of_mem_replicate hz
    omega
/-- a call's end: a list of integers of its own, a bool -/
def RetZB (w : World) (l : List Int) (b : Bool) (e : Ending) (w' : World) : Prop := ∃ v, e = .returned (.tuple #[v, .bool b]) ∧ Oz .u64 52 w.heap.size w' v l ∧ Below w.heap.size w w'
def NoShape (zs : List Int) : Prop := Bad zs ∨ Big zs ∨ ∃ ds, zs = zi ds ∧ Shp ds ∧ 64 < pr ds
theorem shaped_no (zs ys : List Int) (v v2 : Value) (w : World) (h : Rd .i64 w v zs) (hw : W64 zs) (hn : NoShape zs) :
    Calls Tryd.prog 29 #[v, v2] w (RetZB w [] false) := by
  have CS := Lib.hid (rshape_any zs v w h hw)
  clear h hw
  rcases hn with hb | hb | ⟨ds, rfl, hs, h64⟩
  · have HB := Lib.hid (CS.out.mono (R' := fun e w' => e = _ ∧ w = w') (fun e w' he => ⟨he.1.bad hb, he.2⟩))
    clear CS hb
    go_enter Tryd.func29, Tryd.ntmps29
    go_wp2_with fail
    refine HB.out.mono ?_
    rintro e w' ⟨rfl, rfl⟩
    go_wp2
    go_ret2
    exact ⟨_, rfl, Oz.nil _ _ _ _, Below.refl _ _⟩
  · have HB := Lib.hid (CS.out.mono (R' := fun e w' => e = _ ∧ w = w') (fun e w' he => ⟨he.1.big hb, he.2⟩))
    clear CS hb
    go_enter Tryd.func29, Tryd.ntmps29
    go_wp2_with fail
    refine HB.out.mono ?_
    rintro e w' ⟨rfl, rfl⟩
    go_wp2
    go_ret2
    exact ⟨_, rfl, Oz.nil _ _ _ _, Below.refl _ _⟩
  · have HB := Lib.hid (CS.out.mono (R' := fun e w' => e = _ ∧ w = w') (fun e w' he => ⟨he.1.ok hs, he.2⟩))
    have h64i : (64 : Int) < (pr ds : Int) := by omega
    generalize pr ds = n at *
    clear CS
    go_enter Tryd.func29, Tryd.ntmps29
    go_wp2_with fail
    refine HB.out.mono ?_
    rintro e w' ⟨rfl, rfl⟩
    go_wp2
    go_ret2
    exact ⟨_, rfl, Oz.nil _ _ _ _, Below.refl _ _⟩
theorem shaped_yes (ds : List Nat) (zs : List Int) (v v2 : Value) (w : World) (h : Rd .i64 w v (zi ds)) (h2 : Rd .u64 w v2 zs) (hw : W64 (zi ds)) (hs : Shp ds) (h64 : pr ds ≤ 64) :
    Calls Tryd.prog 29 #[v, v2] w (RetZB w (siz zs (pr ds)) true) := by
  have CS := Lib.hid ((rshape_any (zi ds) v w h hw).mono (R' := fun e w' => e = _ ∧ w = w') (fun e w' he => ⟨he.1.ok hs, he.2⟩))
  have HR := Lib.hid h2
  obtain ⟨a, cap, rfl, hcap, hm⟩ := h2.shape
  clear h hw h2
  have h64i : decide ((64 : Int) < (pr ds : Int)) = false := by rw [decide_eq_false_iff_not]; omega
  have h64n : decide (64 < pr ds) = false := by rw [decide_eq_false_iff_not]; omega
  have hnm : pr ds ≤ 1000000 := by omega
  generalize pr ds = n at *
  go_enter Tryd.func29, Tryd.ntmps29
  go_wp2_with fail
  refine CS.out.mono ?_
  rintro e w' ⟨rfl, rfl⟩
  go_wp2_with (refine wl_make _ rfl (.tmp 20) (.tmp 20) rfl w.heap.size _ _ n w rfl rfl rfl rfl hnm (Below.refl _ _) (Nat.le_refl _) ?_)
  intro g w1 _ hown1 hbel1
  have O1 := hown1.oz
  rw [List.map_replicate, vl_zero] at O1
  have O1 := Lib.hid O1
  have B1 := Lib.hid hbel1
  have R1 := Lib.hid (HR.out.below hbel1)
  have hsz := hbel1.size
  clear hown1 hbel1
  go_wp2_with (refine wl_copyG .u64 52 31 Tryd.underlying31 (by kernel_rfl) _ rfl (.tmp 22) (.tmp 23) rfl w.heap.size g n n (List.replicate n 0) zs _ w rfl rfl O1.out (by simp) R1.out B1.out ?_)
  intro z w2 hown2 hbel2
  have O2 := Lib.hid hown2
  have B2 := Lib.hid hbel2
  clear hown2 hbel2
  go_wp2
  go_ret2
  exact ⟨_, rfl, O2.out, B2.out⟩
theorem shape_split (zs : List Int) : NoShape zs ∨ ∃ ds, zs = zi ds ∧ Shp ds ∧ pr ds ≤ 64 := by
  rcases shape_cases zs with h | h | ⟨ds, rfl, hs⟩
  · exact .inl (.inl h)
  · exact .inl (.inr (.inl h))
  · by_cases h : 64 < pr ds
    · exact .inl (.inr (.inr ⟨ds, rfl, hs, h⟩))
    · exact .inr ⟨ds, rfl, hs, by omega⟩
end Go.Proofs.YtcakeenfkdhedaaDoor.Gm
/- (Sz) -/
namespace Go.Proofs.YtcakeenfkdhedaaDoor.Gm
open Go.RowKit
set_option linter.unusedVariables false
def kk (k : Int) : Nat := (k % 7).toNat
theorem kk_le (k : Int) : kk k ≤ 6 := by unfold kk; omega
theorem four_list : (trL false 2 ([1, 0, 0, 0].map toF)).map vl = [1, 1, 1, 1] := by
  have e : ∀ j, tr false 2 (cf ([1, 0, 0, 0].map toF)) j = 1 := fun j => by
    rw [tr_ker]
    show S (0 + 1 + 1 + 1 + 1) _ = _
    rw [S_succ, S_succ, S_succ, S_succ, S_zero, ker_f, ker_f, ker_f, ker_f, Nat.mul_zero, pow_zero]
    show 0 + toF 1 * 1 + toF 0 * _ + toF 0 * _ + toF 0 * _ = _
    rw [toF_one, toF_zero]
    grind
  unfold trL
  rw [List.map_congr_left (g := fun _ => (1 : F)) (fun j _ => e j)]
  show [vl 1, vl 1, vl 1, vl 1] = _
  rw [vl_one]
end Go.Proofs.YtcakeenfkdhedaaDoor.Gm
/- (Lnb) -/
namespace Go.Proofs.YtcakeenfkdhedaaDoor.Gm
open Go.RowKit
set_option linter.unusedVariables false
theorem nfwd_F {k : Nat} {l : List F} {B : Nat} {v : Value} {w : World} (h : Ow B w v l) (hk : k ≤ 10) (hl : l.length = 2 ^ k) (hT : Tb w) : Calls Tryd.prog 84 #[v] w (RetLE w (trL false k l) 0) := by
  have := nfwd_ok k (l.map vl) v w h.rd (B64.vl l) hk (by rw [List.length_map]; exact hl) hT
  rwa [map_toF_vl] at this
theorem ninv_F {k : Nat} {l : List F} {B : Nat} {v : Value} {w : World} (h : Ow B w v l) (hk : k ≤ 10) (hl : l.length = 2 ^ k) (hT : Tb w) : Calls Tryd.prog 85 #[v] w (RetLE w (trL true k l) 0) := by
  have := ninv_ok k (l.map vl) v w h.rd (B64.vl l) hk (by rw [List.length_map]; exact hl) hT
  rwa [map_toF_vl] at this
theorem trL_back {k : Nat} (hk : k ≤ 10) {l : List F} (hl : l.length = 2 ^ k) (b : Bool) : trL (!b) k (trL b k l) = l := by
  refine ext_cf (by rw [trL_len, hl]) (fun i hi => ?_)
  rw [trL_len] at hi
  rw [cf_trL _ _ _ hi, tr_congr (b := tr b k (cf l)) (fun j hj => cf_trL _ _ _ hj), tr_back (by omega) _ hi]
/-- c times the one, and the other, up to m -/
@[irreducible] def smL (c : F) (l l2 : List F) (n m : Nat) : List F := (List.range n).map fun p => if p < m then c * cf l p + cf l2 p else 0
theorem smL_len (c : F) (l l2 : List F) (n m : Nat) : (smL c l l2 n m).length = n := by unfold smL; simp
theorem cf_smL (c : F) (l l2 : List F) (n m : Nat) {p : Nat} (hp : p < n) : cf (smL c l l2 n m) p = if p < m then c * cf l p + cf l2 p else 0 := by unfold smL; exact cf_ofFn _ hp
theorem smL_zero (c : F) (l l2 : List F) (n : Nat) : smL c l l2 n 0 = List.replicate n 0 := by
  refine ext_cf (by rw [smL_len]; simp) (fun i hi => ?_)
  rw [smL_len] at hi
  rw [cf_smL _ _ _ _ _ hi, if_neg (by omega), cf_replicate]
theorem smL_step (c : F) (l l2 : List F) (n : Nat) {m : Nat} (hm : m < n) : (smL c l l2 n m).set m (c * cf l m + cf l2 m) = smL c l l2 n (m + 1) := by
  refine ext_cf (by rw [List.length_set, smL_len, smL_len]) (fun p hp => ?_)
  rw [List.length_set, smL_len] at hp
  rw [cf_set _ _ _ _ (by rw [smL_len]; exact hm), cf_smL _ _ _ _ _ hp, cf_smL _ _ _ _ _ hp]
  by_cases h : m = p
  · subst h; rw [if_pos rfl, if_pos (by omega)]
  · rw [if_neg h]
    by_cases h2 : p < m
    · rw [if_pos h2, if_pos (by omega)]
    · rw [if_neg h2, if_neg (by omega)]
theorem trL_sm {k : Nat} (c : F) (l l2 : List F) {p : Nat} (hp : p < 2 ^ k) : cf (trL false k (smL c l l2 (2 ^ k) (2 ^ k))) p = c * cf (trL false k l) p + cf (trL false k l2) p := by
  rw [cf_trL _ _ _ hp, cf_trL _ _ _ hp, cf_trL _ _ _ hp, tr_congr (b := fun i => c * cf l i + cf l2 i) (fun i hi => by rw [cf_smL _ _ _ _ _ hi, if_pos hi]), tr_fwd, tr_fwd, tr_fwd, dft_add, dft_smul]
def NbA (ws : World) (c : F) (l l2 : List F) (n g : Nat) (i : Value) (wr : World) : Prop :=
  ∃ m : Nat, m ≤ n ∧ i = .int .i64 m ∧ Ow ws.heap.size wr (.slice (some ⟨g, 0, none⟩) n n) (smL c l l2 n m) ∧ Below ws.heap.size ws wr
def NbB (ws : World) (n : Nat) (i : Value) (wr : World) : Prop := ∃ m : Nat, m ≤ n ∧ i = .int .i64 m ∧ Below ws.heap.size ws wr
end Go.Proofs.YtcakeenfkdhedaaDoor.Gm
/- (Vt) -/
namespace Go.Proofs.YtcakeenfkdhedaaDoor.Gm
open Go.RowKit
set_option linter.unusedVariables false
/-- number by number, up to m -/
@[irreducible] def prL (l l2 : List F) (m : Nat) : List F := (List.range l.length).map fun p => if p < m then cf l p * cf l2 p else cf l p
theorem prL_len (l l2 : List F) (m : Nat) : (prL l l2 m).length = l.length := by unfold prL; simp
theorem cf_prL (l l2 : List F) (m : Nat) {p : Nat} (hp : p < l.length) : cf (prL l l2 m) p = if p < m then cf l p * cf l2 p else cf l p := by unfold prL; exact cf_ofFn _ hp
theorem prL_zero (l l2 : List F) : prL l l2 0 = l := by
  refine ext_cf (prL_len _ _ _) (fun i hi => ?_)
  rw [prL_len] at hi
  rw [cf_prL _ _ _ hi, if_neg (by omega)]
theorem prL_at (l l2 : List F) {m : Nat} (hm : m < l.length) : cf (prL l l2 m) m = cf l m := by rw [cf_prL _ _ _ hm, if_neg (by omega)]
theorem prL_step (l l2 : List F) {m : Nat} (hm : m < l.length) : (prL l l2 m).set m (cf l m * cf l2 m) = prL l l2 (m + 1) := by
  refine ext_cf (by rw [List.length_set, prL_len, prL_len]) (fun p hp => ?_)
  rw [List.length_set, prL_len] at hp
  rw [cf_set _ _ _ _ (by rw [prL_len]; exact hm), cf_prL _ _ _ hp, cf_prL _ _ _ hp]
  by_cases h : m = p
  · subst h; rw [if_pos rfl, if_pos (by omega)]
  · rw [if_neg h]
    by_cases h2 : p < m
    · rw [if_pos h2, if_pos (by omega)]
    · rw [if_neg h2, if_neg (by omega)]
/-- the cyclic product of lists -/
@[irreducible] def cycL (k : Nat) (l m : List F) : List F := (List.range (2 ^ k)).map (cyc (2 ^ k) (cf l) (cf m))
theorem cycL_len (k : Nat) (l m : List F) : (cycL k l m).length = 2 ^ k := by unfold cycL; simp
theorem cf_cycL (k : Nat) (l m : List F) {p : Nat} (hp : p < 2 ^ k) : cf (cycL k l m) p = cyc (2 ^ k) (cf l) (cf m) p := by unfold cycL; exact cf_ofFn _ hp
theorem times_list {k : Nat} (hk : k ≤ 20) (l m : List F) : trL true k (prL (trL false k l) (trL false k m) (2 ^ k)) = cycL k l m := by
  refine ext_cf (by rw [trL_len, cycL_len]) (fun i hi => ?_)
  rw [trL_len] at hi
  rw [cf_trL _ _ _ hi, cf_cycL _ _ _ hi, ← tr_cyc hk _ _ hi]
  refine tr_congr (fun j hj => ?_) i
  rw [cf_prL _ _ _ (by rw [trL_len]; exact hj), if_pos hj, cf_trL _ _ _ hj, cf_trL _ _ _ hj]
def TmRel (w : World) (n g cp : Nat) (l l2 : List F) (v2 : Value) (i : Value) (wr : World) : Prop :=
  ∃ m : Nat, m ≤ n ∧ i = .int .i64 m ∧ Ow w.heap.size wr (.slice (some ⟨g, 0, none⟩) n cp) (prL l l2 m) ∧ Ow w.heap.size wr v2 l2 ∧ Below w.heap.size w wr
/-- twisted -/
@[irreducible] def twL (l : List F) (y : F) (m : Nat) : List F := (List.range l.length).map fun p => if p < m then cf l p * y ^ p else 0
theorem twL_len (l : List F) (y : F) (m : Nat) : (twL l y m).length = l.length := by unfold twL; simp
theorem cf_twL (l : List F) (y : F) (m : Nat) {p : Nat} (hp : p < l.length) : cf (twL l y m) p = if p < m then cf l p * y ^ p else 0 := by unfold twL; exact cf_ofFn _ hp
theorem twL_zero (l : List F) (y : F) : twL l y 0 = List.replicate l.length 0 := by
  refine ext_cf (by rw [twL_len]; simp) (fun i hi => ?_)
  rw [twL_len] at hi
  rw [cf_twL _ _ _ hi, if_neg (by omega), cf_replicate]
theorem twL_step (l : List F) (y : F) {m : Nat} (hm : m < l.length) : (twL l y m).set m (cf l m * y ^ m) = twL l y (m + 1) := by
  refine ext_cf (by rw [List.length_set, twL_len, twL_len]) (fun p hp => ?_)
  rw [List.length_set, twL_len] at hp
  rw [cf_set _ _ _ _ (by rw [twL_len]; exact hm), cf_twL _ _ _ hp, cf_twL _ _ _ hp]
  by_cases h : m = p
  · subst h; rw [if_pos rfl, if_pos (by omega)]
  · rw [if_neg h]
    by_cases h2 : p < m
    · rw [if_pos h2, if_pos (by omega)]
    · rw [if_neg h2, if_neg (by omega)]
def TwRel (w : World) (n g : Nat) (l : List F) (y : F) (t i : Value) (wr : World) : Prop :=
  ∃ m : Nat, m ≤ n ∧ i = .int .i64 m ∧ t = .int .u64 (vl (y ^ m)) ∧ Ow w.heap.size wr (.slice (some ⟨g, 0, none⟩) n n) (twL l y m) ∧ Below w.heap.size w wr
end Go.Proofs.YtcakeenfkdhedaaDoor.Gm
/- (Cu) -/
namespace Go.Proofs.YtcakeenfkdhedaaDoor.Gm
open Go.RowKit
theorem cloneU_raw (a : Option Addr) (n cap : Nat) (xs : List Value) (w : World) (hl : xs.length = n * 1) (h1 : ∀ u ∈ xs, u.oneCell' = true) (hc : ∀ ad, a = some ad → ∀ j u, xs[j]? = some u → w.cell? (ad.add j) = some u) (hnil : a = none → n = 0) (hn : n ≤ 1000000) :
    Calls Tryd.prog 30 #[.slice a n cap] w fun e w' => ∃ v', e = .returned v' ∧ w'.ownsRow w.heap.size 52 1 v' n xs ∧ Below w.heap.size w w' := by
  have hq := fun W : World => Lib.run_eql_slice_nil (P := Tryd.prog) W 31 52 a n cap 0 0 Tryd.underlying31
  rcases a with _ | ad
  · obtain rfl := hnil rfl
    have hx : xs = [] := List.eq_nil_of_length_eq_zero (by omega)
    subst hx
    simp only [Option.isNone] at hq
    go_enter Tryd.func30, Tryd.ntmps30
    go_wp2
    go_ret
    exact ⟨_, rfl, World.ownsRow_nil _ _ _ _, Below.refl _ _⟩
  · simp only [Option.isNone] at hq
    obtain ⟨i0, hi, hz0, hz1, hz2⟩ := info_parts (show (Tryd.prog.info? 52).map (fun i => (i.zero, i.size, i.bytes)) = some (some (.int .u64 0), 1, 8) by kernel_rfl)
    have HC := Lib.hid (hc ad rfl)
    have HL := Lib.hid hl
    have H1 := Lib.hid h1
    clear hc hl h1 hnil
    have hzs : (.int .u64 0 : Value).cells.size = 1 := rfl
    have hsz : 0 < 1 := by decide
    have hown := World.ownsRow_lit (e := 52) (size := 1) (base := w.heap.size) w #[] 0 (Nat.le_refl _) (by unfold maxLen; omega) (by simp)
    have hnews : ∀ j u, xs[j]? = some u → (w.alloc (.cells #[] 52)).cell? (ad.add j) = some u := by
      intro j u hu
      have h2 := HC.out j u hu
      have h3 := (Below.refl w.heap.size w).alloc (Nat.le_refl _) (.cells #[] 52)
      exact (h3.cell (World.block_lt_of_cell? w _ h2)).trans h2
    have hm0 : 0 + n ≤ maxLen := by unfold maxLen; omega
    have hby : (0 + n) * 8 ≤ 140737488355328 := by omega
    have hbase : w.heap.size ≤ (w.alloc (.cells #[] 52)).heap.size := by simp
    have HO := Lib.hid hown
    have HN := Lib.hid hnews
    clear hown hnews
    go_enter Tryd.func30, Tryd.ntmps30
    go_wp2_with (refine wpList_append_own _ rfl (.tmp 5) (.tmp 6) 31 rfl w.heap.size 52 i0 (.int .u64 0) 1 8 Tryd.underlying31 hi hz0 hz1 hz2 hzs hsz (.slice (some ⟨w.heap.size, 0, none⟩) 0 0) 0 [] rfl HO.out ad n cap xs rfl HL.out HN.out H1.out hm0 hby hbase ?_; intro v1 w1 hown1 hg1 _)
    go_ret
    refine ⟨_, rfl, ?_, ?_⟩
    · have := hown1
      rwa [Nat.zero_add, List.nil_append] at this
    · exact ((Below.refl _ _).alloc (Nat.le_refl _) _).grown hg1 hbase (fun k hk => Nat.le_of_eq (by simpa [Value.ownBlock] using hk))
theorem cloneU_any (zs : List Int) (v : Value) (w : World) (h : Rd .u64 w v zs) (hn : zs.length ≤ 1000000) :
    Calls Tryd.prog 30 #[v] w fun e w' => ∃ v', e = .returned v' ∧ Oz .u64 52 w.heap.size w' v' zs ∧ Below w.heap.size w w' := by
  obtain ⟨a, cap, b, off, rfl, hcap, hm, hx, hc⟩ := h
  refine (cloneU_raw a zs.length cap (zs.map (Value.int .u64)) w (by simp) ?_ ?_ ?_ hn)
  · intro u hu
    obtain ⟨x, _, rfl⟩ := List.mem_map.1 hu
    rfl
  · intro ad he j u hu
    have hj : j < zs.length := by have := (List.getElem?_eq_some_iff.1 hu).1; simpa using this
    rcases hx with hx | hx
    · subst hx; exact absurd hj (by simp)
    · rw [he] at hx
      injection hx with hx
      subst hx
      have e : ((⟨b, off, none⟩ : Addr).add j) = ⟨b, off + j, none⟩ := by unfold Addr.add; by_cases h0 : j = 0 <;> simp [h0]
      rw [e, hc j hj, gd_eq]
      rw [List.getElem?_map, List.getElem?_eq_getElem hj] at hu
      rw [List.getElem?_eq_getElem hj]
      exact hu
  · intro e
    rcases hx with hx | hx
    · rw [hx]; rfl
    · rw [e] at hx; cases hx
end Go.Proofs.YtcakeenfkdhedaaDoor.Gm
/- (Tu) -/
namespace Go.Proofs.YtcakeenfkdhedaaDoor.Gm
open Go.RowKit
set_option linter.unusedVariables false
/-- numbers at places -/
@[irreducible] def atL (zs : List Int) (ln : List Nat) (m : Nat) : List Int := (List.range m).map fun j => gd zs (nd ln j)
theorem atL_zero (zs : List Int) (ln : List Nat) : atL zs ln 0 = [] := by unfold atL; rfl
theorem atL_succ (zs : List Int) (ln : List Nat) (m : Nat) : atL zs ln (m + 1) = atL zs ln m ++ [gd zs (nd ln m)] := by unfold atL; rw [List.range_succ, List.map_append]; rfl
theorem atL_len (zs : List Int) (ln : List Nat) (m : Nat) : (atL zs ln m).length = m := by unfold atL; simp
theorem gd_atL (zs : List Int) (ln : List Nat) {m i : Nat} (h : i < m) : gd (atL zs ln m) i = gd zs (nd ln i) := by unfold atL; exact gd_range h
theorem atL_64 {zs : List Int} (h : B64 zs) (ln : List Nat) (m : Nat) : B64 (atL zs ln m) := by
  intro z hz
  unfold atL at hz
  obtain ⟨p, _, rfl⟩ := List.mem_map.1 hz
  exact h.get _
/-- numbers put at places -/
def puR (zs : List Int) (ln : List Nat) (f : Nat → F) : Nat → List Int
  | 0 => zs
  | m + 1 => (puR zs ln f m).set (nd ln m) (vl (f m))
@[irreducible] def puL (zs : List Int) (ln : List Nat) (f : Nat → F) (m : Nat) : List Int := puR zs ln f m
theorem puL_zero (zs : List Int) (ln : List Nat) (f : Nat → F) : puL zs ln f 0 = zs := by unfold puL; rfl
theorem puL_succ (zs : List Int) (ln : List Nat) (f : Nat → F) (m : Nat) : puL zs ln f (m + 1) = (puL zs ln f m).set (nd ln m) (vl (f m)) := by unfold puL; rfl
theorem puL_len (zs : List Int) (ln : List Nat) (f : Nat → F) (m : Nat) : (puL zs ln f m).length = zs.length := by
  induction m with
  | zero => rw [puL_zero]
  | succ m ih => rw [puL_succ, List.length_set, ih]
def TuA (w : World) (N : Nat) (zs : List Int) (ln : List Nat) (x i : Value) (wr : World) : Prop :=
  ∃ m : Nat, m ≤ N ∧ i = .int .i64 m ∧ Oz .u64 52 w.heap.size wr x (atL zs ln m) ∧ Below w.heap.size w wr
def TuB (w : World) (B B2 N g n cap : Nat) (zs : List Int) (ln : List Nat) (f : Nat → F) (lv xv : Value) (xl : List F) (i : Value) (wr : World) : Prop :=
  ∃ m : Nat, m ≤ N ∧ i = .int .i64 m ∧ Oz .u64 52 B wr (.slice (some ⟨g, 0, none⟩) n cap) (puL zs ln f m) ∧ Ow w.heap.size wr xv xl ∧ Oz .i64 3 B2 wr lv (zi ln) ∧ Only (fun k => k = g) w wr
/-- a call's end that changes one block alone -/
def RetTu (B g n cap : Nat) (L : List Int) (w : World) (e : Ending) (w' : World) : Prop := e = .returned (.tuple #[]) ∧ Oz .u64 52 B w' (.slice (some ⟨g, 0, none⟩) n cap) L ∧ Only (fun k => k = g) w w'
set_option maxHeartbeats 4000000 in
set_option maxRecDepth 100000 in
theorem turnl_any (back : Bool) (k g n cap B B2 : Nat) (zs : List Int) (ln : List Nat) (lv : Value) (w : World) (h : Oz .u64 52 B w (.slice (some ⟨g, 0, none⟩) n cap) zs) (hz : B64 zs) (hn : zs.length = n) (hnm : n ≤ 1024)
    (hl : Oz .i64 3 B2 w lv (zi ln)) (hk : k ≤ 10) (hlk : ln.length = 2 ^ k) (hin : ∀ i, i < 2 ^ k → nd ln i < n) (hT : Tb w) :
    Calls Tryd.prog 66 #[.slice (some ⟨g, 0, none⟩) n cap, lv, .bool back] w (RetTu B g n cap (puL zs ln (tr back k (fun i => toF (gd zs (nd ln i)))) (2 ^ k)) w) := by
  obtain ⟨N, hN⟩ : ∃ N, N = 2 ^ k := ⟨_, rfl⟩
  have hk2 : 2 ^ k ≤ 2 ^ 10 := Nat.pow_le_pow_right (by omega) hk
  have hN1 : N ≤ 1024 := by omega
  have hN0 : 1 ≤ N := by rw [hN]; exact Nat.two_pow_pos k
  have O := Lib.hid h
  have OL := Lib.hid hl
  have T := Lib.hid hT
  obtain ⟨la, lc, lb, lo, rfl, hlc, hlm, hlx, hle⟩ := hl.rd.opened
  have hzl : (zi ln).length = N := by rw [zi_len, hlk, hN]
  rw [hzl] at hlc hlx hle OL ⊢
  obtain rfl := hlx.resolve_left (by omega)
  have hg : g < w.heap.size := h.base.2
  have hgb : lb ≠ g := by
    have := own_ne (v := .slice (some ⟨lb, lo, none⟩) (zi ln).length lc) hl h (by decide)
    rcases this with h1 | h1
    · simp [Value.ownBlock] at h1
    · intro e
      subst e
      exact h1 (by simp [Value.ownBlock])
  have IN := Lib.hid hin
  have HLE := Lib.hid (show ∀ i, i < N → w.cell? ⟨lb, lo + i, none⟩ = some (.int .i64 (nd ln i : Int)) from fun i hi => by have := hle i hi; rw [gd_zi] at this; exact this)
  have AL := Lib.hid (fun m => atL_len zs ln m)
  have AS := Lib.hid (fun m => atL_succ zs ln m)
  have AZ := Lib.hid (atL_zero zs ln)
  have CF := Lib.hid (fun w v h hT => nfwd_ok k (atL zs ln N) v w h (atL_64 hz ln N) hk ((atL_len zs ln N).trans hN) hT)
  have CB := Lib.hid (fun w v h hT => ninv_ok k (atL zs ln N) v w h (atL_64 hz ln N) hk ((atL_len zs ln N).trans hN) hT)
  obtain ⟨f, hf⟩ : ∃ f, f = tr back k (fun i => toF (gd zs (nd ln i))) := ⟨_, rfl⟩
  obtain ⟨xl, hxl⟩ : ∃ xl, xl = trL back k ((atL zs ln N).map toF) := ⟨_, rfl⟩
  have XC := Lib.hid (show ∀ j, j < N → cf xl j = f j from fun j hj => by
    rw [hxl, cf_trL _ _ _ (by omega), hf]
    refine tr_congr (fun i hi => ?_) j
    rw [cf_map, gd_atL _ _ (by omega)])
  have XL := Lib.hid (show xl.length = N by rw [hxl, trL_len, hN])
  have HXL := Lib.hid hxl
  have PS := Lib.hid (fun m => puL_succ zs ln f m)
  have PL := Lib.hid (fun m => (puL_len zs ln f m).trans hn)
  have PZ := Lib.hid (puL_zero zs ln f)
  rw [← hf, ← hN]
  have HN := Lib.hid hN
  clear h hl hT hin hle hlk hf hxl hk2 hzl
  rw [← hN] at IN
  clear hN
  go_enter Tryd.func66, Tryd.ntmps66
  cases back
  all_goals
    go_wp2
    go_loopw [7, 9, 15] (fun x _ i wr => TuA w N zs ln x i wr) (fun _ _ i _ => N - (intOf i).toNat)
    case atStart => exact ⟨0, by omega, rfl, by rw [AZ.out]; exact Oz.nil _ _ _ _, Below.refl _ _⟩
    case round =>
      obtain ⟨m, hm, rfl, hown, hbel⟩ := hrel
      have OX := Lib.hid hown
      have HB := Lib.hid hbel
      have hwsz := hbel.size
      clear hown hbel
      by_cases hml : m < N
      · have hcl := (HLE.out m hml)
        have hcw : wr.cell? ⟨lb, lo + m, none⟩ = some (.int .i64 (nd ln m : Int)) := (HB.out.cell (p := ⟨lb, lo + m, none⟩) (World.block_lt_of_cell? _ _ hcl)).trans hcl
        have hlt := IN.out m hml
        have hca : wr.cell? ⟨g, nd ln m, none⟩ = some (.int .u64 (gd zs (nd ln m))) := (O.out.below HB.out).cell (by rw [hn]; exact hlt)
        have ASm := Lib.hid (AS.out m)
        have hll : (atL zs ln m).length ≤ 1000000 := by rw [AL.out]; omega
        generalize gd zs (nd ln m) = y at *
        generalize nd ln m = p at *
        clear hcl
        go_wp2_with (at_builtin; refine wl_app_u64 _ rfl (.tmp 19) (.tmp 24) rfl w.heap.size _ (atL zs ln m) y w rfl rfl OX.out HB.out hwsz hll ?_)
        intro v3 w3 hown3 hbel3
        rw [← ASm.out] at hown3
        have O3 := Lib.hid hown3
        have B3 := Lib.hid hbel3
        clear hown3 hbel3
        go_wp2
        go_roundw
        case rel => exact ⟨m + 1, by omega, by go_num, O3.out, B3.out⟩
        case measure => simp [intOf] <;> omega
      · obtain rfl : N = m := by omega
        have T1 := Lib.hid (T.out.below HB.out)
        have OG := Lib.hid (O.out.below HB.out)
        have OLL := Lib.hid (OL.out.below HB.out)
        have OB := Lib.hid (Only.of_below (S := fun k => k = g) HB.out (fun k hk hk2 => by omega))
        go_wp2_with fail
        first
          | refine (CF.out _ _ OX.out.rd T1.out).mono ?_
          | refine (CB.out _ _ OX.out.rd T1.out).mono ?_
        rintro e w4 ⟨v4, rfl, ho, hb⟩
        rw [← HXL.out] at ho
        obtain ⟨gx, cx, rfl, hcx, hmx⟩ := Ow.opened ho (by rw [XL.out]; exact hN0)
        have OX4 := Ow.mono (l := xl) ho hwsz
        rw [XL.out] at OX4 hcx
        have OX4 := Lib.hid OX4
        have hgx : gx ≠ g := by have := OX4.out.base.1; omega
        have OG4 := OG.out.below hb
        rw [← PZ.out] at OG4
        have OG4 := Lib.hid OG4
        have OL4 := Lib.hid (OLL.out.below hb)
        have OB4 := Lib.hid (OB.out.then hb hwsz)
        clear ho hb OX OG OLL OB T1 HB
        rw [XL.out]
        go_wp2
        go_loopw [10, 11, 35] (fun _ _ i wr => TuB w B B2 N g n cap zs ln f (.slice (some ⟨lb, lo, none⟩) N lc) (.slice (some ⟨gx, 0, none⟩) N cx) xl i wr) (fun _ _ i _ => N - (intOf i).toNat)
        case atStart => exact ⟨0, by omega, rfl, OG4.out, OX4.out, OL4.out, OB4.out⟩
        case round =>
          obtain ⟨m, hm, rfl, h1, h2, h3, h4⟩ := hrel
          have P1 := Lib.hid h1
          have P2 := Lib.hid h2
          have P3 := Lib.hid h3
          have P4 := Lib.hid h4
          clear h1 h2 h3 h4 OG4 OX4 OL4 OB4
          by_cases hml : m < N
          · have hcl := P3.out.cell_at (i := m) (by rw [zi_len]; have := P3.out.rd.opened; obtain ⟨_, _, _, _, e, _⟩ := this; injection e with _ e2; rw [zi_len] at e2; omega)
            rw [gd_zi] at hcl
            have hcx' : wr.cell? ⟨gx, m, none⟩ = some (.int .u64 (vl (f m))) := by
              rw [← XC.out m hml]; exact Ow.cell (l := xl) (cap := cx) (by rw [XL.out]; exact P2.out) (by rw [XL.out]; exact hml)
            have hlt := IN.out m hml
            have LM := Lib.hid (PL.out m)
            have PSm := Lib.hid (PS.out m)
            generalize nd ln m = p at *
            generalize f m = y at *
            go_wp2_with (refine wl_storeI .u64 52 _ rfl (.tmp 46) (.tmp 45) (fun _ => rfl) rfl B g p n cap (puL zs ln f m) (vl y) rfl rfl P1.out LM.out hlt ?_)
            intro w5 hown5 ho5 hs5
            rw [← PSm.out] at hown5
            have Q1 := Lib.hid hown5
            have Q2 := Ow.only P2.out ho5 (fun gg e eg => by
              have e1 : gx = gg := by simpa [Value.ownBlock] using e
              omega)
            have Q3 := P3.out.only ho5 (fun gg e eg => by
              have e1 : lb = gg := by simpa [Value.ownBlock] using e
              omega)
            have Q4 := P4.out.trans ho5
            have Q2 := Lib.hid Q2
            have Q3 := Lib.hid Q3
            have Q4 := Lib.hid Q4
            clear hown5 ho5 hs5 hcl hcx'
            go_wp2
            go_roundw
            case rel => exact ⟨m + 1, by omega, by go_num, Q1.out, Q2.out, Q3.out, Q4.out⟩
            case measure => simp [intOf] <;> omega
          · obtain rfl : N = m := by omega
            go_wp2
            go_end0
            exact ⟨rfl, P1.out, P4.out⟩
end Go.Proofs.YtcakeenfkdhedaaDoor.Gm
/- (Hc) -/
namespace Go.Proofs.YtcakeenfkdhedaaDoor.Gm
open Go.RowKit
theorem i64_and_nat (a b : Nat) (ha : a < 9223372036854775808) (hb : b < 9223372036854775808) : bits .and .i64 (a : Int) (b : Int) = ((a &&& b : Nat) : Int) := by
  have hx : a &&& b < 2 ^ 63 := Nat.and_lt_two_pow _ (by omega)
  have o : ∀ c : Nat, c < 9223372036854775808 → (BitVec.ofInt 64 (c : Int)).toNat = c := fun c hc => by
    rw [BitVec.ofInt_natCast, BitVec.toNat_ofNat]; exact Nat.mod_eq_of_lt (by omega)
  show IntKind.i64.wrap ((BitVec.ofInt 64 (a : Int) &&& BitVec.ofInt 64 (b : Int)).toNat : Int) = _
  rw [BitVec.toNat_and, o a ha, o b hb, IntKind.wrap_i64]
  omega
theorem odd_any (d : Int) (w : World) (h0 : -9223372036854775808 ≤ d) (h1 : d ≤ 9223372036854775807) :
    Calls Tryd.prog 68 #[.int .i64 d] w fun e w' => ((pw d ∧ e = .returned (.bool false)) ∨ (¬ pw d ∧ e = .returned (.bool true))) ∧ w = w' := by
  by_cases hd : d < 1
  · have NP := Lib.hid (show ¬ pw d from fun h => by have := pw_pos h; omega)
    go_enter Tryd.func68, Tryd.ntmps68
    go_wp2
    go_ret
    exact ⟨.inr ⟨NP.out, rfl⟩, rfl⟩
  · obtain ⟨n, rfl⟩ : ∃ n : Nat, d = (n : Int) := ⟨d.toNat, by omega⟩
    have hn : 1 ≤ n := by omega
    have hb := i64_and_nat n (n - 1) (by omega) (by omega)
    rw [show ((n - 1 : Nat) : Int) = (n : Int) - 1 by omega] at hb
    have AP := Lib.hid (and_pred n hn)
    by_cases hz : n &&& (n - 1) = 0
    · have PP := Lib.hid (AP.out.1 hz)
      rw [hz] at hb
      clear hz
      go_enter Tryd.func68, Tryd.ntmps68
      go_wp2
      go_ret
      exact ⟨.inl ⟨PP.out, by first | rfl | (simp; done) | (simp; omega)⟩, rfl⟩
    · have PP := Lib.hid (show ¬ pw (n : Int) from fun h => hz (AP.out.2 h))
      have hne : (((n &&& (n - 1) : Nat) : Int) != 0) = true := by simpa using hz
      generalize n &&& (n - 1) = q at *
      clear hz AP
      go_enter Tryd.func68, Tryd.ntmps68
      go_wp2
      go_ret
      exact ⟨.inr ⟨PP.out, by simp⟩, rfl⟩
set_option maxHeartbeats 2000000 in
theorem indexf_any (zs : List Int) (v : Value) (w : World) (h : Rd .i64 w v zs) (hw : W64 zs) :
    Calls Tryd.prog 86 #[v, .func (Fn.func 68) #[] #[]] w fun e w' => (((∀ d ∈ zs, pw d) ∧ e = .returned (.int .i64 (-1))) ∨ ((∃ d ∈ zs, ¬ pw d) ∧ ∃ k : Nat, e = .returned (.int .i64 k))) ∧ w = w' := by
  obtain ⟨a, cap, b, off, rfl, hcap, hm, hx, hc⟩ := h.opened
  have HC := Lib.hid hc
  clear hc h
  rcases hx with hx | rfl
  all_goals
    go_enter Tryd.func86, Tryd.ntmps86
    go_wp2
    go_loop [8] (fun i => ∃ k : Nat, k ≤ zs.length ∧ i = .int .i64 k ∧ ∀ d ∈ zs.take k, pw d) (fun i => zs.length - (intOf i).toNat)
    case atStart => exact ⟨0, by omega, rfl, by simp⟩
    case round =>
      obtain ⟨k, hk, rfl, hp⟩ := hrel
      have HP := Lib.hid hp
      clear hp
      by_cases hkl : k < zs.length
      · first
        | (exfalso; omega)
        | (have hcell := HC.out k hkl
           have hb := hw.get hkl
           have TP := Lib.hid (take_pw hkl HP.out)
           have MM := Lib.hid (gd_memZ hkl)
           generalize gd zs k = d at *
           go_wp2_with fail
           refine (odd_any d _ hb.1 hb.2).mono ?_
           rintro e w' ⟨hr, rfl⟩
           rcases hr with ⟨hpd, rfl⟩ | ⟨hpd, rfl⟩
           · have PP := Lib.hid (TP.out hpd)
             clear hpd
             go_wp2
             go_round
             case rel => exact ⟨k + 1, by omega, by go_num, PP.out⟩
             case measure => simp [intOf]; omega
           · have PP := Lib.hid hpd
             clear hpd
             go_wp2
             go_ret
             exact ⟨.inr ⟨⟨d, MM.out, PP.out⟩, k, rfl⟩, rfl⟩)
      · obtain rfl : k = zs.length := by omega
        rw [List.take_length] at HP
        go_wp2
        go_ret
        exact ⟨.inl ⟨HP.out, rfl⟩, rfl⟩
theorem containsf_any (zs : List Int) (v : Value) (w : World) (h : Rd .i64 w v zs) (hw : W64 zs) :
    Calls Tryd.prog 67 #[v, .func (Fn.func 68) #[] #[]] w fun e w' => (((∀ d ∈ zs, pw d) ∧ e = .returned (.bool false)) ∨ ((∃ d ∈ zs, ¬ pw d) ∧ e = .returned (.bool true))) ∧ w = w' := by
  go_enter Tryd.func67, Tryd.ntmps67
  go_wp2_with fail
  refine (indexf_any zs v _ h hw).mono ?_
  rintro e w' ⟨hr, rfl⟩
  rcases hr with ⟨hp, rfl⟩ | ⟨hp, k, rfl⟩
  · have PP := Lib.hid hp
    clear hp
    go_wp2
    go_ret
    exact ⟨.inl ⟨PP.out, rfl⟩, rfl⟩
  · have PP := Lib.hid hp
    clear hp
    go_wp2
    go_ret
    exact ⟨.inr ⟨PP.out, by simp⟩, rfl⟩
theorem div_lt_mul {p d : Nat} (hp : 1 ≤ p) : 1024 / p < d ↔ 1024 < p * d := by
  rw [Nat.div_lt_iff_lt_mul hp, Nat.mul_comm]
set_option maxHeartbeats 2000000 in
theorem mcheck_any (zs : List Int) (v : Value) (w : World) (h : Rd .i64 w v zs) (hw : W64 zs) :
    Calls Tryd.prog 45 #[v] w fun e w' => ShAns zs e ∧ w = w' := by
  have HR := Lib.hid h
  obtain ⟨a, cap, b, off, rfl, hcap, hm, hx, hc⟩ := h.opened
  have HC := Lib.hid hc
  clear hc h
  by_cases hlen : 1 ≤ zs.length ∧ zs.length ≤ 3
  · obtain ⟨hl1, hl3⟩ := hlen
    rcases hx with hx | rfl
    · exfalso; omega
    go_enter Tryd.func45, Tryd.ntmps45
    go_wp2_with fail
    refine (containsf_any zs _ _ HR.out hw).mono ?_
    rintro e w' ⟨hr, rfl⟩
    rcases hr with ⟨hp, rfl⟩ | ⟨hp, rfl⟩
    · obtain ⟨ds, hds, hpd⟩ := to_nat hp
      subst hds
      have hpos : ∀ d ∈ ds, 1 ≤ d := fun d hd => by obtain ⟨k, rfl⟩ := hpd d hd; exact Nat.two_pow_pos k
      have HPD := Lib.hid hpd
      have HPS := Lib.hid hpos
      rw [zi_len] at hl1 hl3
      have LZ := Lib.hid (zi_len ds)
      clear hpd hpos hp HR
      rw [LZ.out]
      go_wp2
      go_loop [4, 19] (fun n i => ∃ k : Nat, k ≤ ds.length ∧ i = .int .i64 k ∧ n = .int .i64 (pr (ds.take k)) ∧ pr (ds.take k) ≤ 1024) (fun _ i => ds.length - (intOf i).toNat)
      case atStart => exact ⟨0, by omega, rfl, rfl, by simp [pr]⟩
      case round =>
        obtain ⟨k, hk, rfl, rfl, hle⟩ := hrel
        by_cases hkl : k < ds.length
        · have hcell := HC.out k (by rw [LZ.out]; exact hkl)
          rw [gd_zi] at hcell
          have PT := Lib.hid (pr_take_succ ds k hkl)
          have hd1 := HPS.out _ (nd_mem hkl)
          have TN := Lib.hid (pr_pos (l := ds.take k) (fun d hd => HPS.out d (List.mem_of_mem_take hd)))
          have hn1 := TN.out
          have SPL := Lib.hid (pr_take_le HPS.out (k + 1))
          have hbw : ((nd ds k : Nat) : Int) ≤ 9223372036854775807 := by
            have := hw.get (i := k) (by rw [LZ.out]; exact hkl)
            rw [gd_zi] at this
            exact this.2
          generalize pr (ds.take k) = p at *
          generalize nd ds k = d at *
          have DL := Lib.hid (div_lt_mul (p := p) (d := d) hn1)
          have hq : ((1024 : Int)).tdiv (p : Int) = ((1024 / p : Nat) : Int) := rfl
          have hqw : IntKind.i64.wrap ((1024 : Int).tdiv (p : Int)) = ((1024 / p : Nat) : Int) := by
            rw [hq]; have h := Nat.div_le_self 1024 p; generalize 1024 / p = q at *; exact IntWalk.i64_in _ (by omega)
          have hp0 : ¬ p = 0 := by omega
          clear hq
          by_cases hbig : 1024 / p < d
          · have BB := Lib.hid (show 1024 < pr ds by have h1 := SPL.out; rw [PT.out] at h1; have := DL.out.1 hbig; omega)
            generalize 1024 / p = q at *
            go_wp2
            go_ret2
            exact ⟨.inr (.inl ⟨⟨ds, rfl, hl1, hl3, HPD.out, BB.out⟩, rfl⟩), rfl⟩
          · have HLE := Lib.hid (show p * d ≤ 1024 by have : ¬ 1024 < p * d := fun h => hbig (DL.out.2 h); omega)
            have hm0 : (0 : Int) ≤ (p : Int) * (d : Int) := by rw [← Int.natCast_mul]; exact Int.natCast_nonneg _
            have hm1 : (p : Int) * (d : Int) ≤ 1024 := by have := HLE.out; rw [← Int.natCast_mul]; omega
            generalize 1024 / p = q at *
            clear DL
            go_wp2
            go_round
            case rel => exact ⟨k + 1, by omega, by go_num, by rw [PT.out, Int.natCast_mul], by rw [PT.out]; exact HLE.out⟩
            case measure => simp [intOf]; omega
        · obtain rfl : k = ds.length := by omega
          rw [List.take_length] at hle ⊢
          go_wp2
          go_ret2
          exact ⟨.inr (.inr ⟨ds, rfl, ⟨hl1, hl3, HPD.out, hle⟩, rfl⟩), rfl⟩
    · have PP := Lib.hid hp
      clear hp
      go_wp2
      go_ret2
      exact ⟨.inl ⟨.inr PP.out, rfl⟩, rfl⟩
  · have HL := Lib.hid hlen
    rcases (show zs.length < 1 ∨ (1 ≤ zs.length ∧ 3 < zs.length) by omega) with h1 | ⟨h1, h2⟩
    all_goals
      clear hlen
      go_enter Tryd.func45, Tryd.ntmps45
      go_wp2
      go_ret2
      exact ⟨.inl ⟨.inl HL.out, rfl⟩, rfl⟩
end Go.Proofs.YtcakeenfkdhedaaDoor.Gm
/- (Hm) -/
namespace Go.Proofs.YtcakeenfkdhedaaDoor.Gm
open Go.RowKit
def MiRel (w2 : World) (ds : List Nat) (a k : Nat) (l i : Value) (wi : World) : Prop :=
  ∃ m : Nat, m ≤ nd ds a ∧ i = .int .i64 m ∧ Oz .i64 3 w2.heap.size wi l (zi (lin ds a k m)) ∧ Below w2.heap.size w2 wi
set_option maxHeartbeats 4000000 in
set_option maxRecDepth 100000 in
theorem mlines_any (ds : List Nat) (x : Nat) (z : Int) (v : Value) (w : World) (h : Rd .i64 w v (zi ds)) (hs : Shp ds) (hxl : x < ds.length) (hz : z = x) :
    Calls Tryd.prog 83 #[v, .int .i64 z] w (RetLL w (lnz (lns ds x))) := by
  subst hz
  obtain ⟨a, cap, b, off, rfl, hcap, hm, hx, hc⟩ := h.opened
  have HC := Lib.hid hc
  have HS := Lib.hid hs
  have hl3 := hs.len3
  have hpr := hs.le
  have hpr1 := hs.pr1
  have N1 := hs.nd1 hxl
  have NL := hs.ndle hxl
  have U1 := hs.under1 x
  have UL := hs.underle x
  rw [zi_len] at hcap hx
  have LZ := Lib.hid (zi_len ds)
  clear hc h hs
  rcases hx with hx | rfl
  · exfalso; omega
  obtain ⟨r, hr⟩ : ∃ r, ds.length = x + 1 + r := ⟨ds.length - (x + 1), by omega⟩
  have HR := Lib.hid hr
  have hcx := HC.out x (by rw [LZ.out]; exact hxl)
  rw [gd_zi] at hcx
  rw [LZ.out, hr]
  rw [hr] at hcap hl3
  have EU := Lib.hid (show pr ((ds.drop (x + 1)).take r) = under ds x by unfold under; rw [List.take_of_length_le (by rw [List.length_drop]; omega)])
  have EP := Lib.hid (show nd ds x * under ds x * pr (ds.take x) = pr ds by rw [← pr_split ds x, pr_drop ds x hxl, Nat.mul_comm]; rfl)
  have DL := Lib.hid (fun t => Nat.le_trans (pr_take_le (fun d hd => HS.out.pos d (List.mem_of_mem_drop hd)) t) (Nat.le_trans (pr_drop_le HS.out.pos (x + 1)) HS.out.le))
  have TL := Lib.hid (fun t => Nat.le_trans (pr_take_le HS.out.pos t) HS.out.le)
  clear hr hxl
  by_cases hcap1 : cap = x + 1
  · have hr0 : r = 0 := by omega
    subst hr0
    subst hcap1
    go_enter Tryd.func83, Tryd.ntmps83
    go_wp2
    go_loop [5, 20] (fun u j => ∃ t : Nat, t ≤ 0 ∧ j = .int .i64 t ∧ u = .int .i64 (pr ((ds.drop (x + 1)).take t))) (fun _ j => 0 - (intOf j).toNat)
    case atStart => exact ⟨0, by omega, rfl, rfl⟩
    case round =>
      obtain ⟨t, ht, rfl, rfl⟩ := hrel
      have hpl := DL.out t
      by_cases htl : t < 0
      · exfalso; omega
      · obtain rfl : t = 0 := by omega
        rw [EU.out] at hpl ⊢
        have hmul := Nat.mul_le_mul UL NL
        have hm0 : (0 : Int) ≤ (under ds x : Int) * (nd ds x : Int) := by rw [← Int.natCast_mul]; exact Int.natCast_nonneg _
        have hm1 : (under ds x : Int) * (nd ds x : Int) ≤ 1048576 := by rw [← Int.natCast_mul]; omega
        have E0 := Lib.hid (show ((nd ds x * under ds x * pr (ds.take 0) : Nat) : Int) = (under ds x : Int) * (nd ds x : Int) by rw [← Int.natCast_mul]; simp [pr, Nat.mul_comm])
        clear hmul
        go_wp2
        clear hm0 hm1
        go_loop [8, 38] (fun n j => ∃ t : Nat, t ≤ x ∧ j = .int .i64 t ∧ n = .int .i64 ((nd ds x * under ds x * pr (ds.take t) : Nat) : Int)) (fun _ j => x - (intOf j).toNat)
        case atStart => exact ⟨0, by omega, rfl, by rw [E0.out]⟩
        case round =>
          obtain ⟨s, hst, rfl, rfl⟩ := hrel
          by_cases hsl : s < x
          · have htd : s < ds.length := by have := HR.out; omega
            have hct := HC.out s (by rw [LZ.out]; exact htd)
            rw [gd_zi] at hct
            have PS := Lib.hid (show nd ds x * under ds x * pr (ds.take (s + 1)) = nd ds x * under ds x * pr (ds.take s) * nd ds s by rw [pr_take_succ ds s htd, ← Nat.mul_assoc])
            have hle := Lib.hid (show nd ds x * under ds x * pr (ds.take (s + 1)) ≤ 1024 by
              have h1 := EP.out
              have h2 : ds.take x = ds.take (s + 1) ++ (ds.take x).drop (s + 1) := by
                have h3 := List.take_append_drop (s + 1) (ds.take x)
                rw [List.take_take, Nat.min_eq_left (by omega)] at h3
                exact h3.symm
              rw [h2, pr_append, ← Nat.mul_assoc] at h1
              have h3 := pr_pos (l := (ds.take x).drop (s + 1)) (fun d hd => HS.out.pos d (List.mem_of_mem_take (List.mem_of_mem_drop hd)))
              have := Nat.le_mul_of_pos_right (nd ds x * under ds x * pr (ds.take (s + 1))) h3
              omega)
            have hl2 := hle.out
            rw [PS.out] at hl2
            have hl3 : nd ds x * under ds x * pr (ds.take s) ≤ 1024 := by
              have := Nat.le_mul_of_pos_right (nd ds x * under ds x * pr (ds.take s)) (HS.out.nd1 htd); omega
            generalize nd ds s = d at *
            generalize nd ds x * under ds x * pr (ds.take s) = p at *
            have hm0 : (0 : Int) ≤ (p : Int) * (d : Int) := by rw [← Int.natCast_mul]; exact Int.natCast_nonneg _
            have hm1 : (p : Int) * (d : Int) ≤ 1024 := by rw [← Int.natCast_mul]; omega
            clear hl2
            go_wp2
            go_round
            case rel => exact ⟨s + 1, by omega, by go_num, by rw [PS.out, Int.natCast_mul]⟩
            case measure => simp [intOf]; omega
          · obtain rfl : s = x := by omega
            rw [EP.out]
            go_wp2
            go_loopw [11, 12] (fun out k wr => LnRel w ds s out k wr) (fun _ k _ => pr ds - (intOf k).toNat)
            case atStart => exact ⟨0, by omega, rfl, OL.nil _ _, Below.refl _ _⟩
            case round =>
              obtain ⟨k, hk, rfl, hout, hbel⟩ := hrel
              have OO := Lib.hid hout
              have HB := Lib.hid hbel
              have hwsz := hbel.size
              clear hout hbel
              by_cases hkl : k < pr ds
              · have hcw : wr.cell? ⟨b, off + s, none⟩ = some (.int .i64 (nd ds s : Int)) := (HB.out.cell (p := ⟨b, off + s, none⟩) (World.block_lt_of_cell? _ _ hcx)).trans hcx
                have hbo := World.block_lt_of_cell? _ _ hcx
                simp only at hbo
                have LL := Lib.hid (lnsTo_len ds s k)
                have LYN := Lib.hid (show (k / under ds s % nd ds s = 0 → lnsTo ds s (k + 1) = lnsTo ds s k ++ [lin ds s k (nd ds s)]) ∧ (k / under ds s % nd ds s ≠ 0 → lnsTo ds s (k + 1) = lnsTo ds s k) from ⟨fun h => lnsTo_yes h, fun h => lnsTo_no h⟩)
                have LSU := Lib.hid (fun m => lin_succ ds s k m)
                have e1 := nat_quo k (under ds s)
                have hqle := Nat.div_le_self k (under ds s)
                have e2 : IntKind.i64.wrap ((k / under ds s : Nat) : Int) = ((k / under ds s : Nat) : Int) := wrap_nat (by omega)
                have e3 := nat_rem (k / under ds s) (nd ds s)
                have hu0 : ¬ under ds s = 0 := by omega
                have hd0 : ¬ nd ds s = 0 := by omega
                generalize hq : k / under ds s = q at *
                generalize hrr : q % nd ds s = rr at *
                clear hq hrr
                by_cases hz : rr = 0
                · have LY := Lib.hid (LYN.out.1 hz)
                  subst hz
                  go_wp2
                  go_quiet (fail)
                  have hcw2 : (wr.drewN nq).cell? ⟨b, off + s, none⟩ = some (.int .i64 (nd ds s : Int)) := hcw
                  have OO2 := Lib.hid (show OL w.heap.size (wr.drewN nq) u11 (lnz (lnsTo ds s k)) from OO.out.only ((Only.refl (fun _ => False) wr).drewN nq) (fun _ _ _ e => e))
                  have HB2 := Lib.hid (below_drewN HB.out nq)
                  have hwsz2 : w.heap.size ≤ (wr.drewN nq).heap.size := hwsz
                  clear OO HB hcw e1 e2 e3 LYN
                  generalize wr.drewN nq = w2 at *
                  go_wp2
                  go_loopw [13, 64] (fun l i wi => MiRel w2 ds s k l i wi) (fun _ i _ => nd ds s - (intOf i).toNat)
                  case atStart => exact ⟨0, by omega, rfl, Oz.nil _ _ _ _, Below.refl _ _⟩
                  case round =>
                    obtain ⟨m, hm1, rfl, hl, hbel⟩ := hrel
                    have OLI := Lib.hid hl
                    have BI := Lib.hid hbel
                    have hbs := hbel.size
                    clear hl hbel
                    by_cases hml : m < nd ds s
                    · have LN := Lib.hid (show (zi (lin ds s k m)).length ≤ 1000000 by rw [zi_len, lin_len]; omega)
                      have hmul := Nat.mul_le_mul (show m ≤ 1024 by omega) UL
                      have hm0 : (0 : Int) ≤ (m : Int) * (under ds s : Int) := by rw [← Int.natCast_mul]; exact Int.natCast_nonneg _
                      have hm1 : (m : Int) * (under ds s : Int) ≤ 1048576 := by rw [← Int.natCast_mul]; omega
                      have ES := Lib.hid (show ((k + m * under ds s : Nat) : Int) = (k : Int) + (m : Int) * (under ds s : Int) by rw [Int.natCast_add, Int.natCast_mul])
                      clear hmul
                      go_wp2_with (refine wl_appI _ rfl (.tmp 67) (.tmp 73) rfl w2.heap.size u13 (zi (lin ds s k m)) ((k : Int) + (m : Int) * (under ds s : Int)) rfl rfl OLI.out hbs LN.out ?_; intro v7 w7 hO7 ho7 hat7)
                      have B7 := Lib.hid (BI.out.trans (ho7.below hbs (fun gg e => (OLI.out.lt gg e).1)))
                      have OL7 := Lib.hid hO7
                      clear hO7 ho7 hat7
                      go_roundw
                      case rel => exact ⟨m + 1, by omega, by go_num, by rw [LSU.out, zi_snoc, ES.out]; exact OL7.out, B7.out⟩
                      case measure => simp [intOf] <;> omega
                    · obtain rfl : m = nd ds s := by omega
                      obtain ⟨a10, c10, rfl, _, _, _⟩ := OLI.out.shape
                      have hll : (lnz (lnsTo ds s k)).length ≤ 1000000 := by rw [lnz_len]; have := LL.out; omega
                      have OO3 := Lib.hid (OO2.out.below BI.out)
                      have OI3 := Lib.hid (OLI.out.mono hwsz2)
                      have BB := Lib.hid (HB2.out.trans (BI.out.mono hwsz2))
                      have hbs2 := BB.out.size
                      clear OLI BI
                      go_wp2_with (refine wl_appL _ rfl (.tmp 76) (.tmp 78) rfl w.heap.size _ (lnz (lnsTo ds s k)) (.slice a10 (zi (lin ds s k (nd ds s))).length c10) (zi (lin ds s k (nd ds s))) w rfl rfl OO3.out OI3.out BB.out hbs2 hll ?_; intro v8 w8 hO8 hB8)
                      go_roundw
                      case rel => exact ⟨k + 1, by omega, by go_num, by rw [LY.out, lnz_snoc]; exact hO8, hB8⟩
                      case measure => simp [intOf] <;> omega
                · have LN := Lib.hid (LYN.out.2 hz)
                  go_wp2
                  go_quiet (fail)
                  have OO2 := Lib.hid (show OL w.heap.size (wr.drewN nq) u11 (lnz (lnsTo ds s k)) from OO.out.only ((Only.refl (fun _ => False) wr).drewN nq) (fun _ _ _ e => e))
                  have HB2 := Lib.hid (below_drewN HB.out nq)
                  clear OO HB LYN
                  go_wp2
                  go_roundw
                  case rel => exact ⟨k + 1, by omega, by go_num, by rw [LN.out]; exact OO2.out, HB2.out⟩
                  case measure => simp [intOf] <;> omega
              · obtain rfl : k = pr ds := by omega
                go_wp2
                go_ret
                exact ⟨_, rfl, OO.out, HB.out⟩
  · go_enter Tryd.func83, Tryd.ntmps83
    go_wp2
    go_loop [5, 20] (fun u j => ∃ t : Nat, t ≤ r ∧ j = .int .i64 t ∧ u = .int .i64 (pr ((ds.drop (x + 1)).take t))) (fun _ j => r - (intOf j).toNat)
    case atStart => exact ⟨0, by omega, rfl, rfl⟩
    case round =>
      obtain ⟨t, ht, rfl, rfl⟩ := hrel
      have hpl := DL.out t
      by_cases htl : t < r
      · have htd : x + 1 + t < ds.length := by have := HR.out; omega
        have hct := HC.out (x + 1 + t) (by rw [LZ.out]; exact htd)
        rw [gd_zi, ← Nat.add_assoc] at hct
        have hdl := HS.out.ndle htd
        have PS := Lib.hid (show pr ((ds.drop (x + 1)).take (t + 1)) = pr ((ds.drop (x + 1)).take t) * nd ds (x + 1 + t) by
          rw [pr_take_succ _ _ (by rw [List.length_drop]; omega)]
          congr 1
          rw [nd_eq, nd_eq, List.getElem?_drop])
        generalize nd ds (x + 1 + t) = d at *
        generalize pr ((ds.drop (x + 1)).take t) = p at *
        have hmul := Nat.mul_le_mul hpl hdl
        have hm0 : (0 : Int) ≤ (p : Int) * (d : Int) := by rw [← Int.natCast_mul]; exact Int.natCast_nonneg _
        have hm1 : (p : Int) * (d : Int) ≤ 1048576 := by rw [← Int.natCast_mul]; omega
        clear hmul
        go_wp2
        go_round
        case rel => exact ⟨t + 1, by omega, by go_num, by rw [PS.out, Int.natCast_mul]⟩
        case measure => simp [intOf]; omega
      · obtain rfl : t = r := by omega
        rw [EU.out] at hpl ⊢
        have hmul := Nat.mul_le_mul UL NL
        have hm0 : (0 : Int) ≤ (under ds x : Int) * (nd ds x : Int) := by rw [← Int.natCast_mul]; exact Int.natCast_nonneg _
        have hm1 : (under ds x : Int) * (nd ds x : Int) ≤ 1048576 := by rw [← Int.natCast_mul]; omega
        have E0 := Lib.hid (show ((nd ds x * under ds x * pr (ds.take 0) : Nat) : Int) = (under ds x : Int) * (nd ds x : Int) by rw [← Int.natCast_mul]; simp [pr, Nat.mul_comm])
        clear hmul
        go_wp2
        clear hm0 hm1
        go_loop [8, 38] (fun n j => ∃ t : Nat, t ≤ x ∧ j = .int .i64 t ∧ n = .int .i64 ((nd ds x * under ds x * pr (ds.take t) : Nat) : Int)) (fun _ j => x - (intOf j).toNat)
        case atStart => exact ⟨0, by omega, rfl, by rw [E0.out]⟩
        case round =>
          obtain ⟨s, hst, rfl, rfl⟩ := hrel
          by_cases hsl : s < x
          · have htd : s < ds.length := by have := HR.out; omega
            have hct := HC.out s (by rw [LZ.out]; exact htd)
            rw [gd_zi] at hct
            have PS := Lib.hid (show nd ds x * under ds x * pr (ds.take (s + 1)) = nd ds x * under ds x * pr (ds.take s) * nd ds s by rw [pr_take_succ ds s htd, ← Nat.mul_assoc])
            have hle := Lib.hid (show nd ds x * under ds x * pr (ds.take (s + 1)) ≤ 1024 by
              have h1 := EP.out
              have h2 : ds.take x = ds.take (s + 1) ++ (ds.take x).drop (s + 1) := by
                have h3 := List.take_append_drop (s + 1) (ds.take x)
                rw [List.take_take, Nat.min_eq_left (by omega)] at h3
                exact h3.symm
              rw [h2, pr_append, ← Nat.mul_assoc] at h1
              have h3 := pr_pos (l := (ds.take x).drop (s + 1)) (fun d hd => HS.out.pos d (List.mem_of_mem_take (List.mem_of_mem_drop hd)))
              have := Nat.le_mul_of_pos_right (nd ds x * under ds x * pr (ds.take (s + 1))) h3
              omega)
            have hl2 := hle.out
            rw [PS.out] at hl2
            have hl3 : nd ds x * under ds x * pr (ds.take s) ≤ 1024 := by
              have := Nat.le_mul_of_pos_right (nd ds x * under ds x * pr (ds.take s)) (HS.out.nd1 htd); omega
            generalize nd ds s = d at *
            generalize nd ds x * under ds x * pr (ds.take s) = p at *
            have hm0 : (0 : Int) ≤ (p : Int) * (d : Int) := by rw [← Int.natCast_mul]; exact Int.natCast_nonneg _
            have hm1 : (p : Int) * (d : Int) ≤ 1024 := by rw [← Int.natCast_mul]; omega
            clear hl2
            go_wp2
            go_round
            case rel => exact ⟨s + 1, by omega, by go_num, by rw [PS.out, Int.natCast_mul]⟩
            case measure => simp [intOf]; omega
          · obtain rfl : s = x := by omega
            rw [EP.out]
            go_wp2
            go_loopw [11, 12] (fun out k wr => LnRel w ds s out k wr) (fun _ k _ => pr ds - (intOf k).toNat)
            case atStart => exact ⟨0, by omega, rfl, OL.nil _ _, Below.refl _ _⟩
            case round =>
              obtain ⟨k, hk, rfl, hout, hbel⟩ := hrel
              have OO := Lib.hid hout
              have HB := Lib.hid hbel
              have hwsz := hbel.size
              clear hout hbel
              by_cases hkl : k < pr ds
              · have hcw : wr.cell? ⟨b, off + s, none⟩ = some (.int .i64 (nd ds s : Int)) := (HB.out.cell (p := ⟨b, off + s, none⟩) (World.block_lt_of_cell? _ _ hcx)).trans hcx
                have hbo := World.block_lt_of_cell? _ _ hcx
                simp only at hbo
                have LL := Lib.hid (lnsTo_len ds s k)
                have LYN := Lib.hid (show (k / under ds s % nd ds s = 0 → lnsTo ds s (k + 1) = lnsTo ds s k ++ [lin ds s k (nd ds s)]) ∧ (k / under ds s % nd ds s ≠ 0 → lnsTo ds s (k + 1) = lnsTo ds s k) from ⟨fun h => lnsTo_yes h, fun h => lnsTo_no h⟩)
                have LSU := Lib.hid (fun m => lin_succ ds s k m)
                have e1 := nat_quo k (under ds s)
                have hqle := Nat.div_le_self k (under ds s)
                have e2 : IntKind.i64.wrap ((k / under ds s : Nat) : Int) = ((k / under ds s : Nat) : Int) := wrap_nat (by omega)
                have e3 := nat_rem (k / under ds s) (nd ds s)
                have hu0 : ¬ under ds s = 0 := by omega
                have hd0 : ¬ nd ds s = 0 := by omega
                generalize hq : k / under ds s = q at *
                generalize hrr : q % nd ds s = rr at *
                clear hq hrr
                by_cases hz : rr = 0
                · have LY := Lib.hid (LYN.out.1 hz)
                  subst hz
                  go_wp2
                  go_quiet (fail)
                  have hcw2 : (wr.drewN nq).cell? ⟨b, off + s, none⟩ = some (.int .i64 (nd ds s : Int)) := hcw
                  have OO2 := Lib.hid (show OL w.heap.size (wr.drewN nq) u11 (lnz (lnsTo ds s k)) from OO.out.only ((Only.refl (fun _ => False) wr).drewN nq) (fun _ _ _ e => e))
                  have HB2 := Lib.hid (below_drewN HB.out nq)
                  have hwsz2 : w.heap.size ≤ (wr.drewN nq).heap.size := hwsz
                  clear OO HB hcw e1 e2 e3 LYN
                  generalize wr.drewN nq = w2 at *
                  go_wp2
                  go_loopw [13, 64] (fun l i wi => MiRel w2 ds s k l i wi) (fun _ i _ => nd ds s - (intOf i).toNat)
                  case atStart => exact ⟨0, by omega, rfl, Oz.nil _ _ _ _, Below.refl _ _⟩
                  case round =>
                    obtain ⟨m, hm1, rfl, hl, hbel⟩ := hrel
                    have OLI := Lib.hid hl
                    have BI := Lib.hid hbel
                    have hbs := hbel.size
                    clear hl hbel
                    by_cases hml : m < nd ds s
                    · have LN := Lib.hid (show (zi (lin ds s k m)).length ≤ 1000000 by rw [zi_len, lin_len]; omega)
                      have hmul := Nat.mul_le_mul (show m ≤ 1024 by omega) UL
                      have hm0 : (0 : Int) ≤ (m : Int) * (under ds s : Int) := by rw [← Int.natCast_mul]; exact Int.natCast_nonneg _
                      have hm1 : (m : Int) * (under ds s : Int) ≤ 1048576 := by rw [← Int.natCast_mul]; omega
                      have ES := Lib.hid (show ((k + m * under ds s : Nat) : Int) = (k : Int) + (m : Int) * (under ds s : Int) by rw [Int.natCast_add, Int.natCast_mul])
                      clear hmul
                      go_wp2_with (refine wl_appI _ rfl (.tmp 67) (.tmp 73) rfl w2.heap.size u13 (zi (lin ds s k m)) ((k : Int) + (m : Int) * (under ds s : Int)) rfl rfl OLI.out hbs LN.out ?_; intro v7 w7 hO7 ho7 hat7)
                      have B7 := Lib.hid (BI.out.trans (ho7.below hbs (fun gg e => (OLI.out.lt gg e).1)))
                      have OL7 := Lib.hid hO7
                      clear hO7 ho7 hat7
                      go_roundw
                      case rel => exact ⟨m + 1, by omega, by go_num, by rw [LSU.out, zi_snoc, ES.out]; exact OL7.out, B7.out⟩
                      case measure => simp [intOf] <;> omega
                    · obtain rfl : m = nd ds s := by omega
                      obtain ⟨a10, c10, rfl, _, _, _⟩ := OLI.out.shape
                      have hll : (lnz (lnsTo ds s k)).length ≤ 1000000 := by rw [lnz_len]; have := LL.out; omega
                      have OO3 := Lib.hid (OO2.out.below BI.out)
                      have OI3 := Lib.hid (OLI.out.mono hwsz2)
                      have BB := Lib.hid (HB2.out.trans (BI.out.mono hwsz2))
                      have hbs2 := BB.out.size
                      clear OLI BI
                      go_wp2_with (refine wl_appL _ rfl (.tmp 76) (.tmp 78) rfl w.heap.size _ (lnz (lnsTo ds s k)) (.slice a10 (zi (lin ds s k (nd ds s))).length c10) (zi (lin ds s k (nd ds s))) w rfl rfl OO3.out OI3.out BB.out hbs2 hll ?_; intro v8 w8 hO8 hB8)
                      go_roundw
                      case rel => exact ⟨k + 1, by omega, by go_num, by rw [LY.out, lnz_snoc]; exact hO8, hB8⟩
                      case measure => simp [intOf] <;> omega
                · have LN := Lib.hid (LYN.out.2 hz)
                  go_wp2
                  go_quiet (fail)
                  have OO2 := Lib.hid (show OL w.heap.size (wr.drewN nq) u11 (lnz (lnsTo ds s k)) from OO.out.only ((Only.refl (fun _ => False) wr).drewN nq) (fun _ _ _ e => e))
                  have HB2 := Lib.hid (below_drewN HB.out nq)
                  clear OO HB LYN
                  go_wp2
                  go_roundw
                  case rel => exact ⟨k + 1, by omega, by go_num, by rw [LN.out]; exact OO2.out, HB2.out⟩
                  case measure => simp [intOf] <;> omega
              · obtain rfl : k = pr ds := by omega
                go_wp2
                go_ret
                exact ⟨_, rfl, OO.out, HB.out⟩
/-- a call's end: a list of lists of its own, an error's number -/
def RetLLE (w : World) (ll : List (List Int)) (n : Int) (e : Ending) (w' : World) : Prop := ∃ v, e = .returned (.tuple #[v, .int .i64 n]) ∧ OL w.heap.size w' v ll ∧ Below w.heap.size w w'
theorem mLines_ok (ds : List Nat) (x : Nat) (z : Int) (v : Value) (w : World) (h : Rd .i64 w v (zi ds)) (hw : W64 (zi ds)) (hs : Shp ds) (hxl : x < ds.length) (hz : z = x) :
    Calls Tryd.prog 65 #[v, .int .i64 z] w (RetLLE w (lnz (lns ds x)) 0) := by
  subst hz
  have HR := Lib.hid h
  obtain ⟨a, cap, rfl, hcap, hm⟩ := h.shape
  have LZ := Lib.hid (zi_len ds)
  have HS := Lib.hid hs
  rw [zi_len] at hcap
  have hl3 := hs.len3
  clear h hs
  rw [LZ.out] at HR ⊢
  go_enter Tryd.func65, Tryd.ntmps65
  go_wp2_with fail
  refine (mcheck_any (zi ds) _ _ HR.out hw).mono ?_
  rintro e w' ⟨he, rfl⟩
  obtain rfl := he.ok HS.out
  go_wp2_with fail
  refine (mlines_any ds x _ _ _ HR.out HS.out hxl rfl).mono ?_
  rintro e w1 ⟨v1, rfl, ho, hb⟩
  have O1 := Lib.hid ho
  have B1 := Lib.hid hb
  clear ho hb
  go_wp2
  go_ret2
  exact ⟨_, rfl, O1.out, B1.out⟩
theorem mLines_axis (ds : List Nat) (z : Int) (v : Value) (w : World) (h : Rd .i64 w v (zi ds)) (hw : W64 (zi ds)) (hs : Shp ds) (hz : z < 0 ∨ (ds.length : Int) ≤ z) :
    Calls Tryd.prog 65 #[v, .int .i64 z] w (RetLLE w [] 1) := by
  have HR := Lib.hid h
  obtain ⟨a, cap, rfl, hcap, hm⟩ := h.shape
  have LZ := Lib.hid (zi_len ds)
  have HS := Lib.hid hs
  rw [zi_len] at hcap
  have hl3 := hs.len3
  clear h hs
  rw [LZ.out] at HR ⊢
  rcases (show z < 0 ∨ (0 ≤ z ∧ (ds.length : Int) ≤ z) by omega) with h1 | ⟨h1, h2⟩
  all_goals
    clear hz
    go_enter Tryd.func65, Tryd.ntmps65
    go_wp2_with fail
    refine (mcheck_any (zi ds) _ _ HR.out hw).mono ?_
    rintro e w' ⟨he, rfl⟩
    obtain rfl := he.ok HS.out
    go_wp2
    go_ret2
    exact ⟨_, rfl, OL.nil _ _, Below.refl _ _⟩
theorem mLines_bad (zs : List Int) (z n : Int) (v : Value) (w : World) (h : Rd .i64 w v zs) (hw : W64 zs) (hn : n = 1 ∧ Bad zs ∨ n = 2 ∧ Big zs) :
    Calls Tryd.prog 65 #[v, .int .i64 z] w (RetLLE w [] n) := by
  have HR := Lib.hid h
  obtain ⟨a, cap, rfl, hcap, hm⟩ := h.shape
  clear h
  rcases hn with ⟨rfl, hb⟩ | ⟨rfl, hb⟩
  · have HB := Lib.hid hb
    clear hb
    go_enter Tryd.func65, Tryd.ntmps65
    go_wp2_with fail
    refine (mcheck_any zs _ _ HR.out hw).mono ?_
    rintro e w' ⟨he, rfl⟩
    obtain rfl := he.bad HB.out
    go_wp2
    go_ret2
    exact ⟨_, rfl, OL.nil _ _, Below.refl _ _⟩
  · have HB := Lib.hid hb
    clear hb
    go_enter Tryd.func65, Tryd.ntmps65
    go_wp2_with fail
    refine (mcheck_any zs _ _ HR.out hw).mono ?_
    rintro e w' ⟨he, rfl⟩
    obtain rfl := he.big HB.out
    go_wp2
    go_ret2
    exact ⟨_, rfl, OL.nil _ _, Below.refl _ _⟩
end Go.Proofs.YtcakeenfkdhedaaDoor.Gm
/- (Al) -/
namespace Go.Proofs.YtcakeenfkdhedaaDoor.Gm
open Go.RowKit
set_option linter.unusedVariables false
theorem puL_tz (back : Bool) (s k n L : Nat) (zs : List Int) (ln : List Nat) (hs : 0 < s) (hln : ∀ i, i < 2 ^ k → nd ln i = lineAt s (2 ^ k) L + i * s) (hin : ∀ i, i < 2 ^ k → lineAt s (2 ^ k) L + i * s < n) :
    ∀ m, m ≤ 2 ^ k → puL (tz back s k n 0 L zs) ln (tr back k (fun i => toF (gd (tz back s k n 0 L zs) (nd ln i)))) m = tzPart back s k n 0 L m zs := by
  have hf : ∀ j, tr back k (fun i => toF (gd (tz back s k n 0 L zs) (nd ln i))) j = tr back k (fun i => toF (gd zs (lineAt s (2 ^ k) L + i * s))) j := fun j => tr_congr (fun i hi => by
    rw [hln i hi, gd_tz _ _ _ _ _ _ _ (hin i hi), tzAt, lineNo_of _ _ _ _ hs hi, if_neg (by omega)]) j
  intro m
  induction m with
  | zero => intro _; rw [puL_zero, tzPart_zero]
  | succ m ih =>
    intro hm
    rw [puL_succ, ih (by omega), hf, hln m (by omega)]
    exact tzPart_step back s k n 0 L m zs hs (by omega)
def AlRel (w : World) (B1 : Nat) (back : Bool) (s k n g c : Nat) (zs : List Int) (lv : Value) (ll : List (List Int)) (M : Nat) (i : Value) (wr : World) : Prop :=
  ∃ m : Nat, m ≤ M ∧ i = .int .i64 m ∧ Oz .u64 52 w.heap.size wr (.slice (some ⟨g, 0, none⟩) n c) (tz back s k n 0 m zs) ∧ OL B1 wr lv ll ∧ Below w.heap.size w wr
set_option maxHeartbeats 4000000 in
set_option maxRecDepth 100000 in
theorem along_any (ds : List Nat) (zs : List Int) (x k : Nat) (back : Bool) (v v2 : Value) (z : Int) (w : World) (h : Rd .i64 w v (zi ds)) (h2 : Rd .u64 w v2 zs) (hs : Shp ds) (hz : B64 zs) (hl : zs.length = pr ds)
    (hxl : x < ds.length) (hk : nd ds x = 2 ^ k) (hT : Tb w) (ez : z = x) :
    Calls Tryd.prog 82 #[v, v2, .int .i64 z, .bool back] w (RetZ w (tz back (under ds x) k (pr ds) 0 (pr (ds.take x) * under ds x) zs)) := by
  subst ez
  have hk10 := shp_k hs hxl hk
  have hsp := shp_split hxl hk
  have hu := hs.under1 x
  obtain ⟨s, hse⟩ : ∃ s, s = under ds x := ⟨_, rfl⟩
  obtain ⟨M, hM⟩ : ∃ M, M = pr (ds.take x) * under ds x := ⟨_, rfl⟩
  obtain ⟨n, hn⟩ : ∃ n, n = pr ds := ⟨_, rfl⟩
  have hn1 : n ≤ 1024 := by rw [hn]; exact hs.le
  have hn0 : 1 ≤ n := by rw [hn]; exact hs.pr1
  have hN1 := Nat.two_pow_pos k
  have hM1 : 1 ≤ M := by rw [hM]; exact Nat.mul_pos (pr_pos (fun d hd => hs.pos d (List.mem_of_mem_take hd))) hu
  have hMn : M ≤ n := by
    rw [hM, hn, hsp]
    exact Nat.mul_le_mul_left _ (Nat.le_mul_of_pos_left _ hN1)
  have LGL := Lib.hid (show (lnz (lns ds x)).length = M by rw [lns_length hs hxl, hM])
  have LG := Lib.hid (show ∀ i, i < M → lg (lnz (lns ds x)) i = zi (line s (2 ^ k) i) from fun i hi => by rw [lns_get hs hxl (by rw [← hM]; exact hi), hk, hse])
  have LIN := Lib.hid (show ∀ L i, L < M → i < 2 ^ k → lineAt s (2 ^ k) L + i * s < n from fun L i hL hi => by
    rw [hn, hsp, ← hse]
    exact lineAt_lt s (2 ^ k) _ L i (by omega) (by rw [hM, ← hse] at hL; exact hL) hi)
  have TS := Lib.hid (show ∀ L, L < M → puL (tz back s k n 0 L zs) (line s (2 ^ k) L) (tr back k (fun i => toF (gd (tz back s k n 0 L zs) (nd (line s (2 ^ k) L) i)))) (2 ^ k) = tz back s k n 0 (L + 1) zs from fun L hL => by
    rw [puL_tz back s k n L zs _ (by omega) (fun i hi => by rw [nd_eq, line, List.getElem?_map, List.getElem?_range hi]; rfl) (fun i hi => LIN.out L i hL hi) _ (Nat.le_refl _), tzPart_full _ _ _ _ _ _ _ (Nat.zero_le _)])
  have TL := Lib.hid (fun m => tz_len back s k n 0 m zs)
  have TB := Lib.hid (fun m => (B64.tz (back := back) (s := s) (k := k) (n := n) (first := 0) (last := m) hz (by rw [hl, hn])))
  have T0 := Lib.hid (tz_none back s k n 0 (zs := zs) (by rw [hl, hn]))
  have LLN := Lib.hid (show ∀ L, (line s (2 ^ k) L).length = 2 ^ k ∧ ∀ i, i < 2 ^ k → nd (line s (2 ^ k) L) i = lineAt s (2 ^ k) L + i * s from fun L => ⟨by simp [line], fun i hi => by rw [nd_eq, line, List.getElem?_map, List.getElem?_range hi]; rfl⟩)
  have X := Lib.hid h
  have T := Lib.hid hT
  have T0w := Lib.hid hT
  obtain ⟨a, cap, rfl, hcap, hm⟩ := h.shape
  have CC := Lib.hid (cloneU_any zs v2 w h2 (by omega))
  have CLN := Lib.hid (fun w v h => mlines_any ds x (x : Int) v w h hs hxl rfl)
  rw [← hM, ← hse, ← hn]
  have HL := Lib.hid (show zs.length = n by rw [hl, hn])
  clear h h2 hT hse hM hn hsp hN1 hl hu
  go_enter Tryd.func82, Tryd.ntmps82
  go_wp2_with fail
  refine CC.out.mono ?_
  rintro e w1 ⟨v1, rfl, ho, hb⟩
  obtain ⟨g, c, rfl, hc, hcm⟩ := ho.opened (by rw [HL.out]; exact hn0)
  have X1 := Lib.hid (X.out.below hb)
  have T1 := Lib.hid (T.out.below hb)
  rw [HL.out] at ho hc ⊢
  have hg := ho.base
  have hs1 := hb.size
  have O1 := Lib.hid ho
  have B1 := Lib.hid hb
  clear ho hb CC X T
  go_wp2_with fail
  refine (CLN.out _ _ X1.out).mono ?_
  rintro e w2 ⟨lv, rfl, ho, hb⟩
  obtain ⟨gl, cl, rfl, hcl, hclm⟩ := ho.opened (by rw [LGL.out]; exact hM1)
  have O2 := O1.out.below hb
  rw [← T0.out] at O2
  have O2 := Lib.hid O2
  rw [LGL.out] at hcl
  have L2 := ho
  rw [LGL.out] at L2 ⊢
  have L2 := Lib.hid L2
  have T2 := Lib.hid (T1.out.below hb)
  have B2 := Lib.hid (B1.out.trans (hb.mono hs1))
  clear ho hb O1 B1 X1 T1
  go_wp2
  go_loopw [11, 18] (fun _ i wr => AlRel w w1.heap.size back s k n g c zs (.slice (some ⟨gl, 0, none⟩) M cl) (lnz (lns ds x)) M i wr) (fun _ i _ => M - (intOf i).toNat)
  case atStart => exact ⟨0, by omega, rfl, O2.out, L2.out, B2.out⟩
  case round =>
    obtain ⟨m, hm1, rfl, ho, hol, hbel⟩ := hrel
    have OO := Lib.hid ho
    have OLN := Lib.hid hol
    have HB := Lib.hid hbel
    have hwsz := hbel.size
    clear ho hol hbel O2 L2 B2
    by_cases hml : m < M
    · obtain ⟨u, hcu, hou⟩ := OLN.out.at (i := m) (by rw [LGL.out]; exact hml)
      rw [LG.out m hml] at hou
      obtain ⟨ll1, ll2⟩ := LLN.out m
      have HOU := Lib.hid hou
      have CT := Lib.hid (turnl_any back k g n c w.heap.size w1.heap.size (tz back s k n 0 m zs) (line s (2 ^ k) m) u wr OO.out (TB.out m) (TL.out m) hn1 hou hk10 ll1 (fun i hi => by rw [ll2 i hi]; exact LIN.out m i hml hi) (T0w.out.below HB.out))
      rw [TS.out m hml] at CT
      clear hou ll1 ll2
      go_wp2_with fail
      refine CT.out.mono ?_
      rintro e w3 ⟨rfl, ho3, hon⟩
      have O3 := Lib.hid ho3
      have L3 := Lib.hid (OLN.out.only hon (fun gg h1 h2 e => by omega))
      have B3 := Lib.hid (HB.out.trans (hon.below hwsz (fun gg e => by omega)))
      clear ho3 hon hcu
      go_wp2
      go_roundw
      case rel => exact ⟨m + 1, by omega, by go_num, O3.out, L3.out, B3.out⟩
      case measure => simp [intOf] <;> omega
    · obtain rfl : M = m := by omega
      go_wp2
      go_ret
      exact ⟨_, rfl, OO.out, HB.out⟩
end Go.Proofs.YtcakeenfkdhedaaDoor.Gm
/- (Fm) -/
namespace Go.Proofs.YtcakeenfkdhedaaDoor.Gm
open Go.RowKit
set_option linter.unusedVariables false
theorem indexl_any (b c n : Nat) (ls : List Nat) (w : World) (hn : n ≤ 1048576) (hls : ls.length ≤ 3) (hl : ∀ d ∈ ls, d ≤ 9223372036854775807) (hc : w.cell? ⟨c, 0, none⟩ = some (.int .i64 n)) (h : ∀ i, i < ls.length → ∃ a cp, w.cell? ⟨b, i, none⟩ = some (.slice a (nd ls i) cp)) :
    Calls Tryd.prog 126 #[.slice (some ⟨b, 0, none⟩) ls.length ls.length, .func (Fn.func 101) #[] #[.pointer (some ⟨c, 0, none⟩)]] w
      fun e w' => (((∀ d ∈ ls, d = n) ∧ e = .returned (.int .i64 (-1))) ∨ ((∃ d ∈ ls, d ≠ n) ∧ ∃ k : Nat, e = .returned (.int .i64 k))) ∧ w = w' := by
  have HC := Lib.hid h
  have HLS := Lib.hid hl
  obtain ⟨N, hN⟩ : ∃ N, N = ls.length := ⟨_, rfl⟩
  have HN := Lib.hid hN
  rw [← hN] at hls ⊢
  clear h hl hN
  go_enter Tryd.func126, Tryd.ntmps126
  go_wp2
  go_loop [5, 8] (fun _ i => ∃ k : Nat, k ≤ N ∧ i = .int .i64 k ∧ ∀ d ∈ ls.take k, d = n) (fun _ i => N - (intOf i).toNat)
  case atStart => exact ⟨0, by omega, rfl, by simp⟩
  case round =>
    obtain ⟨k, hk, rfl, hp⟩ := hrel
    have HP := Lib.hid hp
    clear hp
    by_cases hkl : k < N
    · obtain ⟨a, cp, hcell⟩ := HC.out k (by rw [← HN.out]; exact hkl)
      have hmem : nd ls k ∈ ls := nd_mem (by rw [← HN.out]; exact hkl)
      have hd := HLS.out _ hmem
      have HT := Lib.hid (show nd ls k = n → ∀ d ∈ ls.take (k + 1), d = n from fun he d hdm => by
        rw [List.take_succ_eq_append_getElem (by rw [← HN.out]; exact hkl)] at hdm
        rcases List.mem_append.1 hdm with h | h
        · exact HP.out d h
        · rw [List.mem_singleton.1 h, ← nd_lt (by rw [← HN.out]; exact hkl)]; exact he)
      have HM := Lib.hid hmem
      clear hmem
      by_cases he : nd ls k = n
      · have HT2 := Lib.hid (HT.out he)
        rw [he] at hcell
        clear HT HM hd he
        have hne : ((n : Int) != (n : Int)) = false := by simp
        go_wp2
        go_round
        case rel => exact ⟨k + 1, by omega, by go_num, HT2.out⟩
        case measure => simp [intOf]; omega
      · have HE := Lib.hid (show ∃ d ∈ ls, d ≠ n from ⟨_, HM.out, he⟩)
        clear HT HM
        generalize nd ls k = d at *
        have hne : ((d : Int) != (n : Int)) = true := by rw [bne_iff_ne]; omega
        have hne2 : (d != n) = true := by rw [bne_iff_ne]; exact he
        clear he
        go_wp2
        go_ret
        exact ⟨.inr ⟨HE.out, k, rfl⟩, rfl⟩
    · obtain rfl : N = k := by omega
      have HP2 := Lib.hid (show ∀ d ∈ ls, d = n by have := HP.out; rwa [HN.out, List.take_length] at this)
      go_wp2
      go_ret
      exact ⟨.inl ⟨HP2.out, rfl⟩, rfl⟩
theorem containsl_any (b c n : Nat) (ls : List Nat) (w : World) (hn : n ≤ 1048576) (hls : ls.length ≤ 3) (hl : ∀ d ∈ ls, d ≤ 9223372036854775807) (hc : w.cell? ⟨c, 0, none⟩ = some (.int .i64 n)) (h : ∀ i, i < ls.length → ∃ a cp, w.cell? ⟨b, i, none⟩ = some (.slice a (nd ls i) cp)) :
    Calls Tryd.prog 100 #[.slice (some ⟨b, 0, none⟩) ls.length ls.length, .func (Fn.func 101) #[] #[.pointer (some ⟨c, 0, none⟩)]] w
      fun e w' => (((∀ d ∈ ls, d = n) ∧ e = .returned (.bool false)) ∨ ((∃ d ∈ ls, d ≠ n) ∧ e = .returned (.bool true))) ∧ w = w' := by
  have HI := Lib.hid (indexl_any b c n ls w hn hls hl hc h)
  clear hn hl hc h
  go_enter Tryd.func100, Tryd.ntmps100
  go_wp2_with fail
  refine HI.out.mono ?_
  rintro e w' ⟨hr, rfl⟩
  rcases hr with ⟨hp, rfl⟩ | ⟨hp, k, rfl⟩
  · have PP := Lib.hid hp
    clear hp
    go_wp2
    go_ret
    exact ⟨.inl ⟨PP.out, rfl⟩, rfl⟩
  · have PP := Lib.hid hp
    clear hp
    go_wp2
    go_ret
    exact ⟨.inr ⟨PP.out, by simp⟩, rfl⟩
/-- a call's end: an error's number alone -/
def RetE (w : World) (n : Int) (e : Ending) (w' : World) : Prop := e = .returned (.int .i64 n) ∧ Below w.heap.size w w'
theorem form_bad (zs : List Int) (n : Int) (v lv : Value) (w : World) (h : Rd .i64 w v zs) (hw : W64 zs) (hn : n = 1 ∧ Bad zs ∨ n = 2 ∧ Big zs) :
    Calls Tryd.prog 81 #[v, lv] w (RetE w n) := by
  rcases hn with ⟨rfl, hb⟩ | ⟨rfl, hb⟩
  all_goals
    have CM := Lib.hid ((mcheck_any zs v w h hw).mono (R' := fun e w' => e = _ ∧ w = w') (fun e w' he => ⟨by first | exact he.1.bad hb | exact he.1.big hb, he.2⟩))
    clear h hb
    go_enter Tryd.func81, Tryd.ntmps81
    go_wp2_with fail
    refine CM.out.mono ?_
    rintro e w' ⟨rfl, rfl⟩
    go_wp2
    go_ret
    exact ⟨rfl, (Below.refl _ _).alloc (Nat.le_refl _) _⟩
theorem form_ok (ds : List Nat) (ls : List Nat) (b : Nat) (v : Value) (w : World) (h : Rd .i64 w v (zi ds)) (hw : W64 (zi ds)) (hs : Shp ds) (hls : ls.length ≤ 3) (hl : ∀ d ∈ ls, d ≤ 9223372036854775807) (hb : ∀ i, i < ls.length → ∃ a cp, w.cell? ⟨b, i, none⟩ = some (.slice a (nd ls i) cp)) :
    Calls Tryd.prog 81 #[v, .slice (some ⟨b, 0, none⟩) ls.length ls.length] w (fun e w' => ((∀ d ∈ ls, d = pr ds) ∧ RetE w 0 e w') ∨ ((∃ d ∈ ls, d ≠ pr ds) ∧ RetE w 5 e w')) := by
  have CM := Lib.hid ((mcheck_any (zi ds) v w h hw).mono (R' := fun e w' => e = _ ∧ w = w') (fun e w' he => ⟨he.1.ok hs, he.2⟩))
  have HB := Lib.hid hb
  have hpr := hs.le
  clear h hb
  go_enter Tryd.func81, Tryd.ntmps81
  go_wp2_with fail
  refine CM.out.mono ?_
  rintro e w' ⟨rfl, rfl⟩
  go_wp2_with fail
  have hal := (Below.refl w.heap.size w).alloc (Nat.le_refl _) (.cells #[.int .i64 ((pr ds : Nat) : Int)] 3)
  have HAL := Lib.hid hal
  refine (containsl_any b w.heap.size (pr ds) ls _ (by omega) hls hl (by rw [World.cell?_alloc_at _ _ _ _ rfl]; rfl) (fun i hi => by
    obtain ⟨a, cp, hc⟩ := HB.out i hi
    exact ⟨a, cp, (hal.cell (p := ⟨b, i, none⟩) (World.block_lt_of_cell? _ _ hc)).trans hc⟩)).mono ?_
  rintro e w' ⟨hr, rfl⟩
  clear hal
  rcases hr with ⟨hp, rfl⟩ | ⟨hp, rfl⟩
  · have PP := Lib.hid hp
    clear hp
    go_wp2
    go_ret
    exact .inl ⟨PP.out, rfl, HAL.out⟩
  · have PP := Lib.hid hp
    clear hp
    go_wp2
    go_ret
    exact .inr ⟨PP.out, rfl, HAL.out⟩
end Go.Proofs.YtcakeenfkdhedaaDoor.Gm
/- (An) -/
namespace Go.Proofs.YtcakeenfkdhedaaDoor.Gm
open Go.RowKit
set_option linter.unusedVariables false
theorem one_form (ds : List Nat) (zs : List Int) (v v2 : Value) (w : World) (h : Rd .i64 w v (zi ds)) (h2 : Rd .u64 w v2 zs) (hw : W64 (zi ds)) (hs : Shp ds) (t : TypeId) :
    Calls Tryd.prog 81 #[v, .slice (some ⟨w.heap.size, 0, none⟩) 1 1] (w.alloc (.cells #[v2] t)) fun e w' => (zs.length = pr ds ∧ e = .returned (.int .i64 0) ∨ zs.length ≠ pr ds ∧ e = .returned (.int .i64 5)) ∧ Below w.heap.size w w' := by
  have hal := (Below.refl w.heap.size w).alloc (Nat.le_refl _) (.cells #[v2] t)
  obtain ⟨a, cap, rfl, hcap, hm⟩ := h2.shape
  have := form_ok ds [zs.length] w.heap.size v _ (h.below hal) hw hs (by simp) (by intro d hd; simp at hd; subst hd; omega) (fun i hi => by
    have : i = 0 := by simpa using hi
    subst this
    exact ⟨a, cap, by rw [World.cell?_alloc_at _ _ _ _ rfl, nd_zero]; rfl⟩)
  refine this.mono ?_
  rintro e w' (⟨h1, rfl, hb⟩ | ⟨⟨d, hd, h1⟩, rfl, hb⟩)
  · exact ⟨.inl ⟨h1 _ (by simp), rfl⟩, hal.trans (hb.mono (by simp))⟩
  · have : d = zs.length := by simpa using hd
    subst this
    exact ⟨.inr ⟨h1, rfl⟩, hal.trans (hb.mono (by simp))⟩
set_option maxHeartbeats 4000000 in
set_option maxRecDepth 100000 in
theorem all_ok (ks : List Nat) (zs : List Int) (back : Bool) (v v2 : Value) (w : World) (h : Rd .i64 w v (zi (szs ks))) (h2 : Rd .u64 w v2 zs) (hw : W64 (zi (szs ks))) (hs : Shp (szs ks)) (hz : B64 zs) (hl : zs.length = pk ks) (hT : Tb w) :
    Calls Tryd.prog 64 #[v, v2, .bool back] w (RetLE w (WL back ks (zs.map toF)) 0) := by
  have h0 : 1 ≤ ks.length := by have := hs.len0; rwa [szs_len] at this
  have h3 : ks.length ≤ 3 := by have := hs.len3; rwa [szs_len] at this
  have X := Lib.hid h
  have Y := Lib.hid h2
  have T := Lib.hid hT
  have HW := Lib.hid (alT_whole (back := back) (zs := zs) h0)
  have HZ := Lib.hid (alT_zero back ks zs)
  have HS := Lib.hid (fun x => (alT_succ back ks zs x).symm)
  have HL := Lib.hid (fun x => alT_len (back := back) hl x)
  have HB := Lib.hid (fun x => alT_64 (back := back) hl hz x)
  have CF := Lib.hid (fun w v v2 h h2 t => one_form (szs ks) zs v v2 w h h2 hw hs t)
  have CA := Lib.hid (fun x (hx : x < ks.length) L v v2 w h h2 (hL : L.length = pk ks) hz hT => along_any (szs ks) L x (nd ks x) back v v2 (x : Int) w h h2 hs hz hL (by rw [szs_len]; exact hx) (nd_szs ks hx) hT rfl)
  obtain ⟨a, cap, rfl, hcap, hm⟩ := h.shape
  obtain ⟨a2, cap2, rfl, hcap2, hm2⟩ := h2.shape
  have HPK := Lib.hid hl
  have LZ := Lib.hid (show (zi (szs ks)).length = ks.length by rw [zi_len, szs_len])
  obtain ⟨N, hN⟩ : ∃ N, N = ks.length := ⟨_, rfl⟩
  rw [LZ.out] at hcap ⊢
  rw [← hN] at h0 h3 HW CA hcap LZ ⊢
  have X2 := Lib.hid (show Rd .i64 w (.slice a N cap) (zi (szs ks)) by rw [← LZ.out]; exact X.out)
  clear h h2 hw hz hl hT hN X
  go_enter Tryd.func64, Tryd.ntmps64
  go_wp2_with fail
  refine (CF.out _ _ _ X2.out Y.out _).mono ?_
  rintro e w1 ⟨⟨hx, rfl⟩ | ⟨hne, _⟩, hb⟩
  rotate_left
  · exact absurd HPK.out hne
  clear hx
  have X3 := Lib.hid (X2.out.below hb)
  have Y3 := Lib.hid (Y.out.below hb)
  have T3 := Lib.hid (T.out.below hb)
  have B3 := Lib.hid hb
  clear hb
  go_wp2
  go_loopw [1, 9, 19] (fun av _ i wr => AnRel w back ks zs N av i wr) (fun _ _ i _ => N - (intOf i).toNat)
  case atStart => exact ⟨0, by omega, rfl, by rw [HZ.out]; exact Y3.out, fun h => absurd h (by omega), B3.out⟩
  case round =>
    obtain ⟨m, hm1, rfl, hr, ho, hbel⟩ := hrel
    have OR := Lib.hid hr
    have OO := Lib.hid ho
    have HBL := Lib.hid hbel
    have hwsz := hbel.size
    clear hr ho hbel
    by_cases hml : m < N
    · have XM := Lib.hid (X2.out.below HBL.out)
      have TM := Lib.hid (T.out.below HBL.out)
      have CM := Lib.hid (CA.out m hml (alT back ks zs m) _ _ _ XM.out OR.out (HL.out m) (HB.out m) TM.out)
      have HSm := HS.out m
      have CM2 := CM.out
      rw [show pr (szs ks) = pk ks from rfl, HSm] at CM2
      have CM2 := Lib.hid CM2
      clear CM HSm
      go_wp2_with fail
      refine CM2.out.mono ?_
      rintro e w4 ⟨v4, rfl, ho4, hb4⟩
      have O4 := Lib.hid (ho4.mono hwsz)
      have B4 := Lib.hid (HBL.out.trans (hb4.mono hwsz))
      clear ho4 hb4
      go_wp2
      go_roundw
      case rel => exact ⟨m + 1, by omega, by go_num, O4.out.rd, fun _ => O4.out, B4.out⟩
      case measure => simp [intOf] <;> omega
    · obtain rfl : N = m := by omega
      have O5 := OO.out h0
      rw [HW.out] at O5
      have O5 := Lib.hid O5.ow
      go_wp2
      go_ret2
      exact ⟨_, rfl, O5.out, HBL.out⟩
theorem all_bad (zs ys : List Int) (n : Int) (back : Bool) (v v2 : Value) (w : World) (h : Rd .i64 w v zs) (h2 : Rd .u64 w v2 ys) (hw : W64 zs) (hn : n = 1 ∧ Bad zs ∨ n = 2 ∧ Big zs) :
    Calls Tryd.prog 64 #[v, v2, .bool back] w (RetLE w [] n) := by
  have hn0 : (n != 0) = true := by rcases hn with ⟨rfl, _⟩ | ⟨rfl, _⟩ <;> rfl
  have CF := Lib.hid (fun w lv h => form_bad zs n v lv w h hw hn)
  have X := Lib.hid h
  obtain ⟨a2, cap2, rfl, hcap2, hm2⟩ := h2.shape
  clear h h2 hw hn
  go_enter Tryd.func64, Tryd.ntmps64
  go_wp2_with fail
  have hal := fun t => (Below.refl w.heap.size w).alloc (Nat.le_refl _) (.cells #[.slice a2 ys.length cap2] t)
  refine (CF.out _ _ (X.out.below (hal _))).mono ?_
  rintro e w1 ⟨rfl, hb⟩
  have B1 := Lib.hid ((hal _).trans (hb.mono (by simp)))
  clear hb hal
  go_wp2
  go_ret2
  exact ⟨_, rfl, Ow.nil _ _, B1.out⟩
theorem all_len (ds : List Nat) (zs : List Int) (back : Bool) (v v2 : Value) (w : World) (h : Rd .i64 w v (zi ds)) (h2 : Rd .u64 w v2 zs) (hw : W64 (zi ds)) (hs : Shp ds) (hne : zs.length ≠ pr ds) :
    Calls Tryd.prog 64 #[v, v2, .bool back] w (RetLE w [] 5) := by
  have CF := Lib.hid (fun w h h2 t => one_form ds zs v v2 w h h2 hw hs t)
  have X := Lib.hid h
  have Y := Lib.hid h2
  have HN := Lib.hid hne
  obtain ⟨a2, cap2, rfl, hcap2, hm2⟩ := h2.shape
  clear h h2 hw hs hne
  go_enter Tryd.func64, Tryd.ntmps64
  go_wp2_with fail
  refine (CF.out _ X.out Y.out _).mono ?_
  rintro e w1 ⟨⟨he, _⟩ | ⟨_, rfl⟩, hb⟩
  · exact absurd he HN.out
  have B1 := Lib.hid hb
  clear hb
  go_wp2
  go_ret2
  exact ⟨_, rfl, Ow.nil _ _, B1.out⟩
theorem fwd_of {v v2 : Value} {w : World} {L : List F} {n : Int} (h : Calls Tryd.prog 64 #[v, v2, .bool false] w (RetLE w L n)) : Calls Tryd.prog 41 #[v, v2] w (RetLE w L n) := by
  have H := Lib.hid h
  clear h
  go_enter Tryd.func41, Tryd.ntmps41
  go_wp2_with fail
  refine H.out.mono ?_
  rintro e w1 ⟨v1, rfl, ho, hb⟩
  have O1 := Lib.hid ho
  have B1 := Lib.hid hb
  clear ho hb
  go_wp2
  go_ret2
  exact ⟨_, rfl, O1.out, B1.out⟩
theorem inv_of {v v2 : Value} {w : World} {L : List F} {n : Int} (h : Calls Tryd.prog 64 #[v, v2, .bool true] w (RetLE w L n)) : Calls Tryd.prog 42 #[v, v2] w (RetLE w L n) := by
  have H := Lib.hid h
  clear h
  go_enter Tryd.func42, Tryd.ntmps42
  go_wp2_with fail
  refine H.out.mono ?_
  rintro e w1 ⟨v1, rfl, ho, hb⟩
  have O1 := Lib.hid ho
  have B1 := Lib.hid hb
  clear ho hb
  go_wp2
  go_ret2
  exact ⟨_, rfl, O1.out, B1.out⟩
/-- a call's end: a list of integers of its own, an error's number -/
def RetZE (w : World) (l : List Int) (n : Int) (e : Ending) (w' : World) : Prop := ∃ v, e = .returned (.tuple #[v, .int .i64 n]) ∧ Oz .u64 52 w.heap.size w' v l ∧ Below w.heap.size w w'
end Go.Proofs.YtcakeenfkdhedaaDoor.Gm
/- (Pd) -/
namespace Go.Proofs.YtcakeenfkdhedaaDoor.Gm
open Go.RowKit
set_option linter.unusedVariables false
theorem puL_tzf (back : Bool) (s k n f L : Nat) (zs : List Int) (ln : List Nat) (hs : 0 < s) (hln : ∀ i, i < 2 ^ k → nd ln i = lineAt s (2 ^ k) L + i * s) (hin : ∀ i, i < 2 ^ k → lineAt s (2 ^ k) L + i * s < n) :
    ∀ m, m ≤ 2 ^ k → puL (tz back s k n f L zs) ln (tr back k (fun i => toF (gd (tz back s k n f L zs) (nd ln i)))) m = tzPart back s k n f L m zs := by
  have hf : ∀ j, tr back k (fun i => toF (gd (tz back s k n f L zs) (nd ln i))) j = tr back k (fun i => toF (gd zs (lineAt s (2 ^ k) L + i * s))) j := fun j => tr_congr (fun i hi => by
    rw [hln i hi, gd_tz _ _ _ _ _ _ _ (hin i hi), tzAt, lineNo_of _ _ _ _ hs hi, if_neg (by omega)]) j
  intro m
  induction m with
  | zero => intro _; rw [puL_zero, tzPart_zero]
  | succ m ih =>
    intro hm
    rw [puL_succ, ih (by omega), hf, hln m (by omega)]
    exact tzPart_step back s k n f L m zs hs (by omega)
theorem Blk.bel {b : Nat} {t : TypeId} {cs : Array Value} {w w' : World} (h : Blk w b t cs) (hb : Below w.heap.size w w') : Blk w' b t cs := h.below hb h.lt
theorem Blk.cells3 {b : Nat} {t : TypeId} {x y z : Int} {w : World} (h : Blk w b t #[.int .i64 x, .int .i64 y, .int .i64 z]) : w.cell? ⟨b, 0, none⟩ = some (.int .i64 x) ∧ w.cell? ⟨b, 1, none⟩ = some (.int .i64 y) ∧ w.cell? ⟨b, 2, none⟩ = some (.int .i64 z) := ⟨h.cell 0, h.cell 1, h.cell 2⟩
def PdRel (w : World) (B1 : Nat) (back : Bool) (s k n f t g c : Nat) (zs : List Int) (lv : Value) (ll : List (List Int)) (i : Value) (wr : World) : Prop :=
  ∃ m : Nat, m ≤ t - f ∧ i = .int .i64 m ∧ Oz .u64 52 w.heap.size wr (.slice (some ⟨g, 0, none⟩) n c) (tz back s k n f (f + m) zs) ∧ OL B1 wr lv ll ∧ Below w.heap.size w wr
theorem do_bad (zs ys : List Int) (t : T3) (n : Int) (back : Bool) (v v2 : Value) (w : World) (h : Rd .i64 w v zs) (hw : W64 zs) (hn : n = 1 ∧ Bad zs ∨ n = 2 ∧ Big zs) :
    Calls Tryd.prog 43 #[v, v2, tk t, .bool back] w (RetZE w [] n) := by
  obtain ⟨x, y, z⟩ := t
  have hal := Lib.hid ((Below.refl w.heap.size w).alloc (Nat.le_refl _) (.cells #[.int .i64 x, .int .i64 y, .int .i64 z] 56))
  have X := Lib.hid (h.below hal.out)
  have HN := Lib.hid hn
  have hn0 : (n != 0) = true := by rcases hn with ⟨rfl, _⟩ | ⟨rfl, _⟩ <;> rfl
  clear h hn
  unfold tk
  go_enter Tryd.func43, Tryd.ntmps43
  go_wp2_with fail
  refine (mcheck_any zs _ _ X.out hw).mono ?_
  rintro e w' ⟨he, rfl⟩
  have he : e = .returned (.tuple #[.int .i64 0, .int .i64 n]) := by
    rcases HN.out with ⟨rfl, hb⟩ | ⟨rfl, hb⟩
    · exact he.bad hb
    · exact he.big hb
  subst he
  go_wp2
  go_ret2
  exact ⟨_, rfl, Oz.nil _ _ _ _, hal.out⟩
theorem do_len (ds : List Nat) (ys : List Int) (t : T3) (back : Bool) (v v2 : Value) (w : World) (h : Rd .i64 w v (zi ds)) (h2 : Rd .u64 w v2 ys) (hw : W64 (zi ds)) (hs : Shp ds) (hne : ys.length ≠ pr ds) :
    Calls Tryd.prog 43 #[v, v2, tk t, .bool back] w (RetZE w [] 5) := by
  obtain ⟨x, y, z⟩ := t
  have hal := Lib.hid ((Below.refl w.heap.size w).alloc (Nat.le_refl _) (.cells #[.int .i64 x, .int .i64 y, .int .i64 z] 56))
  have X := Lib.hid (h.below hal.out)
  have HS := Lib.hid hs
  obtain ⟨a2, cap2, rfl, hcap2, hm2⟩ := h2.shape
  obtain ⟨n, hn⟩ : ∃ n, n = pr ds := ⟨_, rfl⟩
  obtain ⟨q, hq⟩ : ∃ n, n = ys.length := ⟨_, rfl⟩
  rw [← hn, ← hq] at hne
  rw [← hq]
  have HN := Lib.hid hn
  have d1 : decide ((q : Int) = (n : Int)) = false := by rw [decide_eq_false_iff_not]; omega
  have d2 : ((q : Int) != (n : Int)) = true := by simp; omega
  clear h hs h2 hn hq
  unfold tk
  go_enter Tryd.func43, Tryd.ntmps43
  go_wp2_with fail
  refine (mcheck_any (zi ds) _ _ X.out hw).mono ?_
  rintro e w' ⟨he, rfl⟩
  obtain rfl := he.ok HS.out
  rw [← HN.out]
  go_wp2
  go_ret2
  exact ⟨_, rfl, Oz.nil _ _ _ _, hal.out⟩
/-- what is wrong with a task's numbers: its axis, its first line, its last line -/
def TaskBad (ds : List Nat) (t : T3) : Prop := t.1 < 0 ∨ (ds.length : Int) ≤ t.1 ∨ t.2.1 < 0 ∨ t.2.2 ≤ t.2.1 ∨ ∃ x : Nat, t.1 = x ∧ x < ds.length ∧ ((pr ds / nd ds x : Nat) : Int) < t.2.2
theorem TaskBad.cases {ds : List Nat} {x y z : Int} (h : TaskBad ds (x, y, z)) : x < 0 ∨ (0 ≤ x ∧ (ds.length : Int) ≤ x) ∨ (∃ a : Nat, x = a ∧ a < ds.length ∧ (y < 0 ∨ (0 ≤ y ∧ z ≤ y) ∨ (0 ≤ y ∧ y < z ∧ ((pr ds / nd ds a : Nat) : Int) < z))) := by
  unfold TaskBad at h
  by_cases h0 : x < 0
  · exact .inl h0
  by_cases h1 : (ds.length : Int) ≤ x
  · exact .inr (.inl ⟨by omega, h1⟩)
  refine .inr (.inr ⟨x.toNat, by omega, by omega, ?_⟩)
  rcases h with h | h | h | h | ⟨a, h, h2, h3⟩
  · exact absurd h h0
  · exact absurd h h1
  · exact .inl h
  · by_cases hy : y < 0
    · exact .inl hy
    · exact .inr (.inl ⟨by omega, h⟩)
  · by_cases hy : y < 0
    · exact .inl hy
    by_cases hz : z ≤ y
    · exact .inr (.inl ⟨by omega, hz⟩)
    · have e : x.toNat = a := by have h : x = (a : Int) := h; omega
      rw [e]
      exact .inr (.inr ⟨by omega, by omega, h3⟩)
set_option maxHeartbeats 2000000 in
set_option maxRecDepth 100000 in
theorem do_arg (ds : List Nat) (ys : List Int) (t : T3) (back : Bool) (v v2 : Value) (w : World) (h : Rd .i64 w v (zi ds)) (h2 : Rd .u64 w v2 ys) (hw : W64 (zi ds)) (hs : Shp ds) (hl : ys.length = pr ds) (hb : TaskBad ds t) :
    Calls Tryd.prog 43 #[v, v2, tk t, .bool back] w (RetZE w [] 1) := by
  obtain ⟨x, y, z⟩ := t
  obtain ⟨w1, hw1⟩ : ∃ w1, w1 = w.alloc (.cells #[.int .i64 x, .int .i64 y, .int .i64 z] 56) := ⟨_, rfl⟩
  obtain ⟨b, hbb⟩ : ∃ b, b = w.heap.size := ⟨_, rfl⟩
  have hal := (Below.refl w.heap.size w).alloc (Nat.le_refl _) (.cells #[.int .i64 x, .int .i64 y, .int .i64 z] 56)
  have K := Blk.new w 56 #[.int .i64 x, .int .i64 y, .int .i64 z]
  rw [← hw1] at hal K
  rw [← hbb] at K
  obtain ⟨k0, k1, k2⟩ := K.cells3
  have X := Lib.hid (h.below hal)
  have HS := Lib.hid hs
  have HAL := Lib.hid hal
  have HW1 := Lib.hid hw1
  have HBB := Lib.hid hbb
  obtain ⟨a2, cap2, rfl, hcap2, hm2⟩ := h2.shape
  obtain ⟨a, cap, sb, so, rfl, hcap, hm, hax, hcx⟩ := X.out.opened
  rw [zi_len] at hcap hax hcx
  have LZ := Lib.hid (zi_len ds)
  rw [LZ.out] at X ⊢
  have hl3 := hs.len3
  obtain rfl := hax.resolve_left (by have := hs.len0; omega)
  obtain ⟨n, hn⟩ : ∃ n, n = pr ds := ⟨_, rfl⟩
  have HN := Lib.hid hn
  rw [hl, ← hn]
  have hpr : n ≤ 1024 := by rw [hn]; exact hs.le
  have CS := Lib.hid hb.cases
  rw [← hn] at CS
  have XD := Lib.hid (fun p (hp : p < ds.length) => (show 1 ≤ nd ds p from hs.pos _ (nd_mem hp)))
  have HCX := Lib.hid (show ∀ p, p < ds.length → w1.cell? ⟨sb, so + p, none⟩ = some (.int .i64 (nd ds p)) from fun p hp => by rw [hcx p hp, gd_zi])
  clear h hs h2 hn hl hb hal K hw1 hbb hcx
  unfold tk
  go_enter Tryd.func43, Tryd.ntmps43
  go_wp2_with fail
  rw [← HW1.out, ← HBB.out]
  refine (mcheck_any (zi ds) _ _ X.out hw).mono ?_
  rintro e w' ⟨he, rfl⟩
  obtain rfl := he.ok HS.out
  rw [← HN.out]
  obtain ⟨len, hlen⟩ : ∃ l, l = ds.length := ⟨_, rfl⟩
  rw [← hlen] at CS hcap hl3 HCX ⊢
  rw [← hlen] at XD
  clear X LZ hlen
  rcases CS.out with h1 | ⟨h1, h2⟩ | ⟨p, rfl, hp, h | ⟨h, h'⟩ | ⟨h, h', h''⟩⟩
  · skip
    go_wp2
    go_quiet (fail)
    go_wp2
    go_ret2
    exact ⟨_, rfl, Oz.nil _ _ _ _, below_drewN HAL.out _⟩
  · have g0 : decide (x < 0) = false := decide_eq_false (by omega)
    go_wp2
    go_quiet (fail)
    go_wp2
    go_ret2
    exact ⟨_, rfl, Oz.nil _ _ _ _, below_drewN HAL.out _⟩
  · have c3 := HCX.out p hp
    have g1 : decide ((p : Int) < 0) = false := decide_eq_false (by omega)
    have g2 : decide ((len : Int) ≤ (p : Int)) = false := decide_eq_false (by omega)
    have g3 : decide (len ≤ p) = false := decide_eq_false (by omega)
    go_wp2
    go_quiet (fail)
    go_wp2
    go_ret2
    exact ⟨_, rfl, Oz.nil _ _ _ _, below_drewN HAL.out _⟩
  · have c3 := HCX.out p hp
    have g1 : decide ((p : Int) < 0) = false := decide_eq_false (by omega)
    have g2 : decide ((len : Int) ≤ (p : Int)) = false := decide_eq_false (by omega)
    have g3 : decide (len ≤ p) = false := decide_eq_false (by omega)
    have g4 : decide (y < 0) = false := decide_eq_false (by omega)
    go_wp2
    go_quiet (fail)
    go_wp2
    go_ret2
    exact ⟨_, rfl, Oz.nil _ _ _ _, below_drewN HAL.out _⟩
  · have c3 := HCX.out p hp
    have d1 := XD.out p hp
    have g1 : decide ((p : Int) < 0) = false := decide_eq_false (by omega)
    have g2 : decide ((len : Int) ≤ (p : Int)) = false := decide_eq_false (by omega)
    have g3 : decide (len ≤ p) = false := decide_eq_false (by omega)
    have g4 : decide (y < 0) = false := decide_eq_false (by omega)
    have g5 : decide (z ≤ y) = false := decide_eq_false (by omega)
    generalize nd ds p = d at *
    have hd0 : ¬ d = 0 := by omega
    have hqle := Nat.div_le_self n d
    have e1 := nat_quo n d
    have e2 : IntKind.i64.wrap ((n / d : Nat) : Int) = ((n / d : Nat) : Int) := wrap_nat (by omega)
    generalize n / d = q at *
    go_wp2
    go_quiet (fail)
    go_wp2
    go_ret2
    exact ⟨_, rfl, Oz.nil _ _ _ _, below_drewN HAL.out _⟩
set_option maxHeartbeats 4000000 in
set_option maxRecDepth 100000 in
theorem do_ok (ds : List Nat) (zs : List Int) (x k f t : Nat) (tt : T3) (back : Bool) (v v2 : Value) (w : World) (h : Rd .i64 w v (zi ds)) (h2 : Rd .u64 w v2 zs) (hw : W64 (zi ds)) (hs : Shp ds) (hz : B64 zs) (hl : zs.length = pr ds)
    (hxl : x < ds.length) (hk : nd ds x = 2 ^ k) (hft : f < t) (ht : t ≤ pr (ds.take x) * under ds x) (hT : Tb w) (et : tt = ((x : Int), (f : Int), (t : Int))) :
    Calls Tryd.prog 43 #[v, v2, tk tt, .bool back] w (RetZE w (tz back (under ds x) k (pr ds) f t zs) 0) := by
  subst et
  have hk10 := shp_k hs hxl hk
  have hsp := shp_split hxl hk
  have hu := hs.under1 x
  obtain ⟨s, hse⟩ : ∃ s, s = under ds x := ⟨_, rfl⟩
  obtain ⟨M, hM⟩ : ∃ M, M = pr (ds.take x) * under ds x := ⟨_, rfl⟩
  obtain ⟨n, hn⟩ : ∃ n, n = pr ds := ⟨_, rfl⟩
  have hn1 : n ≤ 1024 := by rw [hn]; exact hs.le
  have hn0 : 1 ≤ n := by rw [hn]; exact hs.pr1
  have hN1 := Nat.two_pow_pos k
  have hM1 : 1 ≤ M := by rw [hM]; exact Nat.mul_pos (pr_pos (fun d hd => hs.pos d (List.mem_of_mem_take hd))) hu
  have hMn : M ≤ n := by
    rw [hM, hn, hsp]
    exact Nat.mul_le_mul_left _ (Nat.le_mul_of_pos_left _ hN1)
  have EQ := Lib.hid (show n / nd ds x = M by
    rw [hk, hn, hsp, hM, Nat.mul_left_comm]
    exact Nat.mul_div_cancel_left _ hN1)
  have htM : t ≤ M := by rw [hM]; exact ht
  have LGL := Lib.hid (show (lnz (lns ds x)).length = M by rw [lns_length hs hxl, hM])
  have LG := Lib.hid (show ∀ i, i < M → lg (lnz (lns ds x)) i = zi (line s (2 ^ k) i) from fun i hi => by rw [lns_get hs hxl (by rw [← hM]; exact hi), hk, hse])
  have LIN := Lib.hid (show ∀ L i, L < M → i < 2 ^ k → lineAt s (2 ^ k) L + i * s < n from fun L i hL hi => by
    rw [hn, hsp, ← hse]
    exact lineAt_lt s (2 ^ k) _ L i (by omega) (by rw [hM, ← hse] at hL; exact hL) hi)
  have TS := Lib.hid (show ∀ L, f ≤ L → L < M → puL (tz back s k n f L zs) (line s (2 ^ k) L) (tr back k (fun i => toF (gd (tz back s k n f L zs) (nd (line s (2 ^ k) L) i)))) (2 ^ k) = tz back s k n f (L + 1) zs from fun L hf hL => by
    rw [puL_tzf back s k n f L zs _ (by omega) (fun i hi => by rw [nd_eq, line, List.getElem?_map, List.getElem?_range hi]; rfl) (fun i hi => LIN.out L i hL hi) _ (Nat.le_refl _), tzPart_full _ _ _ _ _ _ _ hf])
  have TL := Lib.hid (fun m => tz_len back s k n f m zs)
  have TB := Lib.hid (fun m => (B64.tz (back := back) (s := s) (k := k) (n := n) (first := f) (last := m) hz (by rw [hl, hn])))
  have T0 := Lib.hid (tz_none back s k n f (zs := zs) (by rw [hl, hn]))
  have LLN := Lib.hid (show ∀ L, (line s (2 ^ k) L).length = 2 ^ k ∧ ∀ i, i < 2 ^ k → nd (line s (2 ^ k) L) i = lineAt s (2 ^ k) L + i * s from fun L => ⟨by simp [line], fun i hi => by rw [nd_eq, line, List.getElem?_map, List.getElem?_range hi]; rfl⟩)
  obtain ⟨w1, hw1⟩ : ∃ w1, w1 = w.alloc (.cells #[.int .i64 x, .int .i64 f, .int .i64 t] 56) := ⟨_, rfl⟩
  obtain ⟨b, hbb⟩ : ∃ b, b = w.heap.size := ⟨_, rfl⟩
  have hal := (Below.refl w.heap.size w).alloc (Nat.le_refl _) (.cells #[.int .i64 x, .int .i64 f, .int .i64 t] 56)
  have K := Blk.new w 56 #[.int .i64 x, .int .i64 f, .int .i64 t]
  rw [← hw1] at hal K
  rw [← hbb] at K
  obtain ⟨k0, k1, k2⟩ := K.cells3
  have K := Lib.hid K
  have X := Lib.hid (h.below hal)
  have Y := Lib.hid (h2.below hal)
  have T := Lib.hid (hT.below hal)
  have T0w := Lib.hid hT
  have hs0 := hal.size
  have HAL := Lib.hid hal
  have HS := Lib.hid hs
  have HW1 := Lib.hid hw1
  have HBB := Lib.hid hbb
  obtain ⟨a2, cap2, rfl, hcap2, hm2⟩ := h2.shape
  obtain ⟨a, cap, sb, so, rfl, hcap, hm, hax, hcx⟩ := X.out.opened
  rw [zi_len] at hcap hax hcx
  have LZ := Lib.hid (zi_len ds)
  rw [LZ.out] at X ⊢
  have hl3 := hs.len3
  obtain rfl := hax.resolve_left (by have := hs.len0; omega)
  have CC := Lib.hid (fun w v h => cloneU_any zs v w h (by omega))
  have CLN := Lib.hid (fun w v h => mLines_ok ds x (x : Int) v w h hw hs hxl rfl)
  rw [← hM] at ht
  rw [← hse, ← hn]
  have HN := Lib.hid hn
  have HL := Lib.hid (show zs.length = n by rw [hl, hn])
  have hcx := hcx x hxl
  rw [gd_zi] at hcx
  have hd1 : 1 ≤ nd ds x := hs.pos _ (nd_mem hxl)
  rw [HL.out] at Y hcap2 ⊢
  clear h h2 hT hse hM hn hsp hN1 hl hu hk hal hw1 hbb hs
  unfold tk
  go_enter Tryd.func43, Tryd.ntmps43
  go_wp2_with fail
  rw [← HW1.out, ← HBB.out]
  refine (mcheck_any (zi ds) _ _ X.out hw).mono ?_
  rintro e w' ⟨he, rfl⟩
  obtain rfl := he.ok HS.out
  rw [← HN.out]
  obtain ⟨len, hlen⟩ : ∃ l, l = ds.length := ⟨_, rfl⟩
  rw [← hlen] at hcap hl3 hxl X ⊢
  clear LZ hlen HS hw
  have EQ := EQ.out
  generalize nd ds x = d at *
  have hd0 : ¬ d = 0 := by omega
  have e1 := nat_quo n d
  rw [EQ] at e1
  have e2 : IntKind.i64.wrap (M : Int) = (M : Int) := wrap_nat (by omega)
  clear EQ
  have g1 : decide ((x : Int) < 0) = false := decide_eq_false (by omega)
  have g2 : decide ((len : Int) ≤ (x : Int)) = false := decide_eq_false (by omega)
  have g3 : decide (len ≤ x) = false := decide_eq_false (by omega)
  have g4 : decide ((f : Int) < 0) = false := decide_eq_false (by omega)
  have g5 : decide ((t : Int) ≤ (f : Int)) = false := decide_eq_false (by omega)
  have g6 : decide (t ≤ f) = false := decide_eq_false (by omega)
  have g7 : decide ((M : Int) < (t : Int)) = false := decide_eq_false (by omega)
  have g8 : decide (M < t) = false := decide_eq_false (by omega)
  go_wp2
  go_quiet (fail)
  clear g1 g2 g3 g4 g5 g6 g7 g8 e1 e2 hcx hd0 hd1 k0 k1 k2
  have hdr := below_drewN (Below.refl w1.heap.size w1) nq
  have X1 := Lib.hid (X.out.below hdr)
  have Y1 := Lib.hid (Y.out.below hdr)
  have T1 := Lib.hid (T.out.below hdr)
  have HB1 := Lib.hid (below_drewN HAL.out nq)
  have K1 := Lib.hid (K.out.bel hdr)
  clear X Y T HAL K hdr HW1
  generalize w1.drewN nq = w2 at *
  have hs1 := HB1.out.size
  go_wp2_with fail
  refine (CC.out _ _ Y1.out).mono ?_
  rintro e w3 ⟨v3, rfl, ho, hb⟩
  obtain ⟨g, c, rfl, hc, hcm⟩ := ho.opened (by rw [HL.out]; exact hn0)
  rw [HL.out] at ho hc ⊢
  have hg := ho.base
  have X3 := Lib.hid (X1.out.below hb)
  have T3 := Lib.hid (T1.out.below hb)
  have K3 := Lib.hid (K1.out.bel hb)
  have O3 := Lib.hid (ho.mono hs1)
  have B3 := Lib.hid (HB1.out.trans (hb.mono hs1))
  have hs3 := B3.out.size
  have hg3 : g < w3.heap.size := by have := ho.lt g (by simp [Value.ownBlock]); exact this.2
  clear ho hb X1 T1 K1 HB1 Y1 CC
  have k0 := K3.out.cells3.1
  go_wp2_with fail
  refine (CLN.out _ _ X3.out).mono ?_
  rintro e w4 ⟨lv, rfl, ho, hb⟩
  obtain ⟨gl, cl, rfl, hcl, hclm⟩ := ho.opened (by rw [LGL.out]; exact hM1)
  have O4 := O3.out.below hb
  rw [← T0.out] at O4
  have O4 := Lib.hid O4
  rw [LGL.out] at hcl
  have L4 := ho
  rw [LGL.out] at L4 ⊢
  have L4 := Lib.hid L4
  have T4 := Lib.hid (T3.out.below hb)
  have K4 := Lib.hid (K3.out.bel hb)
  have B4 := Lib.hid (B3.out.trans (hb.mono hs3))
  clear ho hb O3 B3 X3 T3 K3 CLN k0
  obtain ⟨_, k1, k2⟩ := K4.out.cells3
  have i1 : (0 : Int) ≤ (f : Int) := by omega
  have i2 : (f : Int) ≤ (t : Int) := by omega
  have i3 : (t : Int) ≤ (cl : Int) := by omega
  have i4 : t ≤ cl := by omega
  have i5 : f ≤ t := by omega
  go_wp2
  go_loopw [16, 82] (fun _ i wr => PdRel w w3.heap.size back s k n f t g c zs (.slice (some ⟨gl, 0, none⟩) M cl) (lnz (lns ds x)) i wr) (fun _ i _ => (t - f) - (intOf i).toNat)
  case atStart => exact ⟨0, by omega, rfl, O4.out, L4.out, B4.out⟩
  case round =>
    obtain ⟨m, hm1, rfl, ho, hol, hbel⟩ := hrel
    have OO := Lib.hid ho
    have OLN := Lib.hid hol
    have HB := Lib.hid hbel
    have hwsz := hbel.size
    clear ho hol hbel O4 L4 B4
    by_cases hml : m < t - f
    · obtain ⟨u, hcu, hou⟩ := OLN.out.at (i := f + m) (by rw [LGL.out]; omega)
      rw [LG.out (f + m) (by omega)] at hou
      obtain ⟨ll1, ll2⟩ := LLN.out (f + m)
      have HOU := Lib.hid hou
      have CT := Lib.hid (turnl_any back k g n c w.heap.size w3.heap.size (tz back s k n f (f + m) zs) (line s (2 ^ k) (f + m)) u wr OO.out (TB.out (f + m)) (TL.out (f + m)) hn1 hou hk10 ll1 (fun i hi => by rw [ll2 i hi]; exact LIN.out (f + m) i (by omega) hi) (T0w.out.below HB.out))
      rw [TS.out (f + m) (by omega) (by omega)] at CT
      clear hou ll1 ll2
      go_wp2_with fail
      refine CT.out.mono ?_
      rintro e w5 ⟨rfl, ho3, hon⟩
      have O5 := Lib.hid ho3
      have L5 := Lib.hid (OLN.out.only hon (fun gg h1 h2 e => by omega))
      have B5 := Lib.hid (HB.out.trans (hon.below hwsz (fun gg e => by omega)))
      clear ho3 hon hcu
      go_wp2
      go_roundw
      case rel => exact ⟨m + 1, by omega, by go_num, O5.out, L5.out, B5.out⟩
      case measure => simp [intOf] <;> omega
    · obtain rfl : m = t - f := by omega
      rw [show f + (t - f) = t by omega] at OO
      go_wp2
      go_ret2
      exact ⟨_, rfl, OO.out, HB.out⟩
end Go.Proofs.YtcakeenfkdhedaaDoor.Gm
/- (Pwa) -/
namespace Go.Proofs.YtcakeenfkdhedaaDoor.Gm
open Go.RowKit
set_option linter.unusedVariables false
/-- the array in the middle of phase x, some tasks left -/
@[irreducible] def pws (back : Bool) (ks : List Nat) (zs : List Int) (x : Nat) (left : List T3) : List Int := tzS back (under (szs ks) x) (nd ks x) (pk ks) (dnT left) (alT back ks zs x)
theorem pws_len (back : Bool) (ks : List Nat) (zs : List Int) (x : Nat) (left : List T3) : (pws back ks zs x left).length = pk ks := by unfold pws; rw [tzS_len]
theorem pws_64 {back : Bool} {ks : List Nat} {zs : List Int} (hl : zs.length = pk ks) (hz : B64 zs) (x : Nat) (left : List T3) : B64 (pws back ks zs x left) := by
  unfold pws; exact B64.tzS (alT_64 hl hz x) (alT_len hl x)
theorem lnX_szs {ks : List Nat} (hs : Shp (szs ks)) {x : Nat} (hx : x < ks.length) : lnX (szs ks) x = pr ((szs ks).take x) * under (szs ks) x := lnX_eq hs (by rw [szs_len]; exact hx)
theorem pws_start {back : Bool} {ks : List Nat} {zs : List Int} (hs : Shp (szs ks)) {x : Nat} (hx : x < ks.length) {l : List T3} (h : RP x (lnX (szs ks) x) l) (hl : zs.length = pk ks) : pws back ks zs x l = alT back ks zs x := by
  have hu : 0 < under (szs ks) x := under_pos szs_pos x
  have hsp : pk ks = pr ((szs ks).take x) * (2 ^ nd ks x * under (szs ks) x) := shp_split (by rw [szs_len]; exact hx) (nd_szs ks hx)
  refine ext_gd (by rw [pws_len, alT_len hl]) (fun p hp => ?_)
  rw [pws_len] at hp
  unfold pws
  rw [gd_tzS _ _ _ _ _ _ hp, tzSAt, dnT_start h (by rw [lnX_szs hs hx]; exact lineNo_lt _ _ _ _ hu (by rw [← hsp]; exact hp)), if_neg (by simp)]
theorem pws_done {back : Bool} {ks : List Nat} {zs : List Int} {x : Nat} (hx : x < ks.length) : pws back ks zs x [] = alT back ks zs (x + 1) := by
  have hu : 0 < under (szs ks) x := under_pos szs_pos x
  have hsp : pk ks = pr ((szs ks).take x) * (2 ^ nd ks x * under (szs ks) x) := shp_split (by rw [szs_len]; exact hx) (nd_szs ks hx)
  rw [alT_succ]
  unfold pws
  rw [hsp, tzS_all hu (fun L _ => dnT_nil L)]
theorem pws_step {back : Bool} {ks : List Nat} {zs : List Int} {x : Nat} (hx : x < ks.length) {left : List T3} {i f t : Nat} {y : Int} (hi : i < left.length) (ht : tg left i = (y, (f : Int), (t : Int))) (h1 : ∀ k : Int, cntL left k ≤ 1) :
    tz back (under (szs ks) x) (nd ks x) (pk ks) f t (pws back ks zs x left) = pws back ks zs x (left.take i ++ left.drop (i + 1)) ∧ ∀ k : Int, cntL (left.take i ++ left.drop (i + 1)) k ≤ 1 := by
  have hu : 0 < under (szs ks) x := under_pos szs_pos x
  have hsp : pk ks = pr ((szs ks).take x) * (2 ^ nd ks x * under (szs ks) x) := shp_split (by rw [szs_len]; exact hx) (nd_szs ks hx)
  obtain ⟨e1, e2, e3⟩ := dnT_step hi ht h1
  refine ⟨?_, e3⟩
  unfold pws
  rw [hsp, tzS_step hu e1, e2]
/-- the tasks that are left are right -/
def LeftOk (x lines : Nat) (left : List T3) : Prop := (∀ t ∈ left, okT x lines t) ∧ ∀ k : Int, cntL left k ≤ 1
theorem LeftOk.at {x lines : Nat} {left : List T3} (h : LeftOk x lines left) {i : Nat} (hi : i < left.length) : ∃ f t : Nat, tg left i = ((x : Int), (f : Int), (t : Int)) ∧ f < t ∧ t ≤ lines := by
  have hm : tg left i ∈ left := by rw [tg_lt hi]; exact List.getElem_mem hi
  obtain ⟨h1, h2, h3, h4⟩ := h.1 _ hm
  generalize tg left i = u at *
  obtain ⟨a, b, c⟩ := u
  simp only at h1 h2 h3 h4
  refine ⟨b.toNat, c.toNat, ?_, by omega, by omega⟩
  rw [h1, Int.toNat_of_nonneg h2, Int.toNat_of_nonneg (by omega)]
theorem LeftOk.out {x lines : Nat} {left : List T3} (h : LeftOk x lines left) {i : Nat} (hi : i < left.length) : LeftOk x lines (left.take i ++ left.drop (i + 1)) := by
  obtain ⟨f, t, ht, _, _⟩ := h.at hi
  refine ⟨fun u hu => h.1 u ?_, (dnT_step hi ht h.2).2.2⟩
  rcases List.mem_append.1 hu with hu | hu
  · exact List.mem_of_mem_take hu
  · exact List.mem_of_mem_drop hu
theorem LeftOk.start {x lines : Nat} {l : List T3} (h : RP x lines l) : LeftOk x lines l := ⟨h.1, fun k => cnt_le_one h k⟩
theorem out_len {l : List T3} {i : Nat} (hi : i < l.length) : (l.take i ++ l.drop (i + 1)).length = l.length - 1 := by
  rw [List.length_append, List.length_take, List.length_drop]; omega
end Go.Proofs.YtcakeenfkdhedaaDoor.Gm
