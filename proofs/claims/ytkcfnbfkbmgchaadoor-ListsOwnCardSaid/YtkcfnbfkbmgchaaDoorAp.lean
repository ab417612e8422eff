/- Plain: arrays, axis by axis; lists of lists in memory. -/
import Derived.Test.YtkcfnbfkbmgchaaDoorNp
import Derived.Test.YtkcfnbfkbmgchaaDoorHr
import Derived.Test.YtkcfnbfkbmgchaaDoorOn
import Derived.Test.YtkcfnbfkbmgchaaDoorOc
namespace Go.Proofs.YtkcfnbfkbmgchaaDoor.Gm
open Go.RowKit
set_option linter.unusedVariables false
def RetZ (w : World) (l : List Int) (e : Ending) (w' : World) : Prop := ∃ v, e = .returned v ∧ Oz .u64 25 w.heap.size w' v l ∧ Below w.heap.size w w'
theorem Oz.opened {k : IntKind} {te : TypeId} {B : Nat} {w : World} {v : Value} {l : List Int} (h : Oz k te B w v l) (hl : 1 ≤ l.length) : ∃ g cap, v = .slice (some ⟨g, 0, none⟩) l.length cap ∧ l.length ≤ cap ∧ cap ≤ 9223372036854775807 := by
  rcases h.2 with ⟨rfl, h0⟩ | ⟨g, cap, cur, rfl, hb, hg, hn, hm, hs, ht⟩
  · omega
  · exact ⟨g, cap, rfl, hn, by unfold maxLen at hm; omega⟩
theorem Ow.opened {B : Nat} {w : World} {v : Value} {l : List F} (h : Ow B w v l) (hl : 1 ≤ l.length) : ∃ g cap, v = .slice (some ⟨g, 0, none⟩) l.length cap ∧ l.length ≤ cap ∧ cap ≤ 9223372036854775807 := by
  rcases h.2 with ⟨rfl, h0⟩ | ⟨g, cap, cur, rfl, hb, hg, hn, hm, hs, ht⟩
  · omega
  · exact ⟨g, cap, rfl, hn, by unfold maxLen at hm; omega⟩
theorem OL.opened {B : Nat} {w : World} {v : Value} {ll : List (List Int)} (h : OL B w v ll) (hl : 1 ≤ ll.length) : ∃ g cap, v = .slice (some ⟨g, 0, none⟩) ll.length cap ∧ ll.length ≤ cap ∧ cap ≤ 9223372036854775807 := by
  obtain ⟨vs, h1, h2, h3⟩ := h
  rcases h1.2 with ⟨rfl, h0⟩ | ⟨g, cap, cur, rfl, hb, hg, hn, hm, hs, ht⟩
  · omega
  · exact ⟨g, cap, rfl, hn, by unfold maxLen at hm; omega⟩
theorem OL.at {B g n cap : Nat} {w : World} {ll : List (List Int)} (h : OL B w (.slice (some ⟨g, 0, none⟩) n cap) ll) {i : Nat} (hi : i < ll.length) : ∃ u, w.cell? ⟨g, i, none⟩ = some u ∧ Oz .i64 3 B w u (lg ll i) := by
  obtain ⟨aa, cc, e, _, _⟩ := OL.shape h
  injection e with _ e2 _
  subst e2
  obtain ⟨vs, h1, h2, h3⟩ := h
  rw [← h2] at h1
  have hi2 : i < vs.length := by omega
  refine ⟨vs[i], ?_, h3 i _ (List.getElem?_eq_getElem hi2)⟩
  have := World.ownsRow.cellAt h1 i (by rw [Nat.mul_one]; omega)
  rw [this, List.getElem?_eq_getElem hi2]
theorem shp_k {ds : List Nat} {x k : Nat} (hs : Shp ds) (hxl : x < ds.length) (hk : nd ds x = 2 ^ k) : k ≤ 10 := by
  have hkle : 2 ^ k ≤ 1024 := by rw [← hk]; exact hs.ndle hxl
  apply Classical.byContradiction
  intro hn
  have := Nat.pow_le_pow_right (show 0 < 2 by omega) (show 11 ≤ k by omega)
  omega
theorem shp_split {ds : List Nat} {x k : Nat} (hxl : x < ds.length) (hk : nd ds x = 2 ^ k) : pr ds = pr (ds.take x) * (2 ^ k * under ds x) := by
  rw [← pr_split ds x, pr_drop ds x hxl, hk]; rfl
theorem shp_ks {ds : List Nat} (hs : Shp ds) : ∃ ks, ds = szs ks ∧ ∀ k ∈ ks, k ≤ 10 := by
  have h : ∀ l : List Nat, (∀ d ∈ l, ∃ k, d = 2 ^ k) → ∃ ks, l = szs ks := fun l => by
    induction l with
    | nil => intro _; exact ⟨[], rfl⟩
    | cons d l ih =>
      intro h
      obtain ⟨k, rfl⟩ := h d (by simp)
      obtain ⟨ks, rfl⟩ := ih (fun x hx => h x (by simp [hx]))
      exact ⟨k :: ks, rfl⟩
  obtain ⟨ks, rfl⟩ := h ds hs.pow
  refine ⟨ks, rfl, fun k hk => ?_⟩
  have h1 : 2 ^ k ∈ szs ks := List.mem_map.2 ⟨k, hk, rfl⟩
  obtain ⟨i, hi, he⟩ := List.getElem_of_mem h1
  have h2 := hs.ndle hi
  rw [nd_lt hi, he] at h2
  apply Classical.byContradiction
  intro hn
  have := Nat.pow_le_pow_right (show 0 < 2 by omega) (show 11 ≤ k by omega)
  omega
theorem szs_len (ks : List Nat) : (szs ks).length = ks.length := by simp [szs]
theorem nd_szs (ks : List Nat) {x : Nat} (hx : x < ks.length) : nd (szs ks) x = 2 ^ nd ks x := by
  rw [nd_eq, nd_eq, szs, List.getElem?_map, List.getElem?_eq_getElem hx]; rfl
theorem axs_get : ∀ (ks : List Nat) (x : Nat), x < ks.length → (axs ks)[x]? = some (under (szs ks) x, nd ks x)
  | k :: ks, 0, _ => by rw [nd_zero]; simp [axs, under, pk, szs]
  | k :: ks, x + 1, h => by
    rw [nd_succ]
    have := axs_get ks x (by simpa using h)
    simpa [axs, under, szs] using this
theorem axs_len (ks : List Nat) : (axs ks).length = ks.length := by
  induction ks with
  | nil => rfl
  | cons k ks ih => simp [axs, ih]
def alR (back : Bool) (ks : List Nat) (zs : List Int) : Nat → List Int
  | 0 => zs
  | x + 1 => tz back (under (szs ks) x) (nd ks x) (pk ks) 0 (pr ((szs ks).take x) * under (szs ks) x) (alR back ks zs x)
/-- behind so many axes -/
@[irreducible] def alT (back : Bool) (ks : List Nat) (zs : List Int) (x : Nat) : List Int := alR back ks zs x
theorem alT_zero (back : Bool) (ks : List Nat) (zs : List Int) : alT back ks zs 0 = zs := by unfold alT; rfl
theorem alT_succ (back : Bool) (ks : List Nat) (zs : List Int) (x : Nat) : alT back ks zs (x + 1) = tz back (under (szs ks) x) (nd ks x) (pk ks) 0 (pr ((szs ks).take x) * under (szs ks) x) (alT back ks zs x) := by unfold alT; rfl
theorem alT_len {back : Bool} {ks : List Nat} {zs : List Int} (h : zs.length = pk ks) (x : Nat) : (alT back ks zs x).length = pk ks := by
  cases x with
  | zero => rw [alT_zero, h]
  | succ x => rw [alT_succ, tz_len]
theorem alT_64 {back : Bool} {ks : List Nat} {zs : List Int} (h : zs.length = pk ks) (hz : B64 zs) : ∀ x, B64 (alT back ks zs x)
  | 0 => by rw [alT_zero]; exact hz
  | x + 1 => by rw [alT_succ]; exact B64.tz (alT_64 h hz x) (alT_len h x)
theorem tz_full {back : Bool} {ks : List Nat} {zs : List Int} {x : Nat} (hx : x < ks.length) {p : Nat} (hp : p < pk ks) :
    gd (tz back (under (szs ks) x) (nd ks x) (pk ks) 0 (pr ((szs ks).take x) * under (szs ks) x) zs) p = vl (axis back (under (szs ks) x) (nd ks x) (fun i => toF (gd zs i)) p) := by
  have hu : 0 < under (szs ks) x := under_pos szs_pos x
  have hsp : pk ks = pr ((szs ks).take x) * (2 ^ nd ks x * under (szs ks) x) := shp_split (by rw [szs_len]; exact hx) (nd_szs ks hx)
  rw [gd_tz _ _ _ _ _ _ _ hp, tzAt, if_pos ⟨Nat.zero_le _, lineNo_lt _ _ _ _ hu (by rw [← hsp]; exact hp)⟩]
  rfl
theorem take_axs {ks : List Nat} {x : Nat} (hx : x < ks.length) : (axs ks).take (x + 1) = (axs ks).take x ++ [(under (szs ks) x, nd ks x)] := by
  have h := axs_get ks x hx
  have hl : x < (axs ks).length := by rw [axs_len]; exact hx
  rw [List.take_succ_eq_append_getElem hl]
  rw [List.getElem?_eq_getElem hl] at h
  rw [Option.some.inj h]
theorem fit_take (ks : List Nat) (x : Nat) : Fit (pk ks) ((axs ks).take x) := fun y hy => fit_axs ks y (List.mem_of_mem_take hy)
theorem alT_run {back : Bool} {ks : List Nat} {zs : List Int} : ∀ x, x ≤ ks.length → ∀ p, p < pk ks → toF (gd (alT back ks zs x) p) = run back ((axs ks).take x) (fun i => toF (gd zs i)) p
  | 0, _, p, _ => by rw [alT_zero]; rfl
  | x + 1, hx, p, hp => by
    have hx' : x < ks.length := hx
    rw [alT_succ, tz_full hx' hp, toF_vl, take_axs hx', run_append]
    have hf := fit_axs ks _ (List.mem_of_getElem? (axs_get ks x hx'))
    exact axis_congr hf.1 hf.2 (fun i hi => alT_run x (by omega) i hi) hp
/-- the whole transform of a list -/
@[irreducible] def WL (back : Bool) (ks : List Nat) (l : List F) : List F := (List.range (pk ks)).map (WT back ks (cf l))
theorem WL_len (back : Bool) (ks : List Nat) (l : List F) : (WL back ks l).length = pk ks := by unfold WL; simp
theorem cf_WL (back : Bool) (ks : List Nat) (l : List F) {p : Nat} (hp : p < pk ks) : cf (WL back ks l) p = WT back ks (cf l) p := by unfold WL; exact cf_ofFn _ hp
theorem alT_whole {back : Bool} {ks : List Nat} {zs : List Int} (h0 : 1 ≤ ks.length) : alT back ks zs ks.length = (WL back ks (zs.map toF)).map vl := by
  obtain ⟨x, hx⟩ : ∃ x, ks.length = x + 1 := ⟨ks.length - 1, by omega⟩
  have hl : (alT back ks zs ks.length).length = pk ks := by rw [hx, alT_succ, tz_len]
  refine ext_gd (by rw [hl, List.length_map, WL_len]) (fun p hp => ?_)
  rw [hl] at hp
  have h1 := alT_run (back := back) (zs := zs) ks.length (Nat.le_refl _) p hp
  rw [show (axs ks).take ks.length = axs ks by rw [← axs_len]; exact List.take_length, run_whole back ks _ p hp] at h1
  have h2 : gd (alT back ks zs ks.length) p = vl (toF (gd (alT back ks zs ks.length) p)) := by
    rw [hx, alT_succ, tz_full (by omega) hp, toF_vl]
  rw [h2, h1]
  rw [gd_eq ((WL back ks (zs.map toF)).map vl), List.getElem?_map, List.getElem?_eq_getElem (by rw [WL_len]; exact hp)]
  show _ = vl _
  rw [← cf_lt (by rw [WL_len]; exact hp), cf_WL _ _ _ hp]
  congr 1
  exact WT_congr (fun i _ => (cf_map zs i).symm) p
def AnRel (w : World) (back : Bool) (ks : List Nat) (zs : List Int) (N : Nat) (av i : Value) (wr : World) : Prop :=
  ∃ m : Nat, m ≤ N ∧ i = .int .i64 m ∧ Rd .u64 wr av (alT back ks zs m) ∧ (0 < m → Oz .u64 25 w.heap.size wr av (alT back ks zs m)) ∧ Below w.heap.size w wr
set_option maxRecDepth 100000 in
/-- a store into an own list of the field, with the sharper word on what has turned -/
theorem wl_storeF {ops : Array Oper} {rest : List Oper} {o : Oper} {a : Act} {Q : Exit → Act → World → Prop} (w : World) (hgd : o.guard = none) (p x : Operand)
    (ho : o.op = .store 25 p x) (B g i n cap : Nat) (l : List F) (y : F) (hp : a.eval p = .pointer (some ⟨g, i, none⟩)) (hx : a.eval x = .int .u64 (vl y))
    (hown : Ow B w (.slice (some ⟨g, 0, none⟩) n cap) l) (hn : l.length = n) (hi : i < n)
    (h : ∀ w', Ow B w' (.slice (some ⟨g, 0, none⟩) n cap) (l.set i y) → Only (fun j => j = g) w w' → w'.heap.size = w.heap.size → wpList Tryd.prog ops Q rest (a.put o.dst undef) w') :
    wpList Tryd.prog ops Q (o :: rest) a w :=
  wl_storeI .u64 25 w hgd p x (fun _ => rfl) ho B g i n cap (l.map vl) (vl y) hp hx hown.oz (by rw [List.length_map]; exact hn) hi fun w' h1 h2 h3 => h w' (by
    rw [← List.map_set] at h1; exact h1.ow) h2 h3
theorem Ow.only {S : Nat → Prop} {B : Nat} {w w' : World} {v : Value} {l : List F} (h : Ow B w v l) (ho : Only S w w') (hs : ∀ g, v.ownBlock = some g → ¬ S g) : Ow B w' v l := own_only h ho hs
/-- make of ever so many numbers -/
theorem wl_makeF {ops : Array Oper} {rest : List Oper} {o : Oper} {a : Act} {Q : Exit → Act → World → Prop} (w : World) (hgd : o.guard = none) (l c : Operand)
    (ho : o.op = Op.makeSlice 22 l c) (B : Nat) (L C : Int) (n : Nat) (W : World) (hl : a.eval l = .int .i64 L) (hc : a.eval c = .int .i64 C) (hL : L = (n : Int)) (hC : C = (n : Int))
    (hn : n ≤ 4294967296) (hbel : Below B W w) (hB : B ≤ w.heap.size)
    (h : ∀ g w', Hid (g = w.heap.size) → Ow B w' (.slice (some ⟨g, 0, none⟩) n n) (List.replicate n 0) → Below B W w' → wpList Tryd.prog ops Q rest (a.put o.dst (.slice (some ⟨g, 0, none⟩) n n)) w') :
    wpList Tryd.prog ops Q (o :: rest) a w := by
  obtain ⟨i0, hi, hz0, hz1, hz2⟩ := info_parts info_u64
  have hmx : n ≤ maxLen := by unfold maxLen; omega
  refine wpList_plain hgd fun K hK' => ?_
  subst hL
  subst hC
  have hmi : (n : Int) ≤ 9223372036854775807 := by omega
  have hr := run_make (P := Tryd.prog) w 22 25 i0 (.int .u64 0) Tryd.underlying22 hi hz0 .i64 .i64 n n (by omega) (Int.le_refl _) (by rw [hz2]; omega) hmi
  simp only [Int.toNat_natCast] at hr
  unfold Oper.wp
  simp [execOp, ho, hl, hc, hr, Result.andThen]
  refine hK' _ _ (h w.heap.size _ (Lib.hid rfl) ?_ ?_)
  · have := World.ownsRow_lit w (madeCells (Value.int .u64 0).cells (n * i0.size)) (e := 25) (size := 1) n hB hmx (by rw [size_madeCells, hz1])
    unfold Ow
    rw [List.length_replicate, U_replicate]
    rw [hz1, Nat.mul_one] at this ⊢
    rw [show (Value.int .u64 0).cells = #[.int .u64 0] from rfl] at this ⊢
    rw [toList_madeCells_one] at this
    exact this
  · exact hbel.alloc hB _
/-- a slice over a block of the call's own, of whatever numbers -/
def Rw (B : Nat) (w : World) (v : Value) : Prop := v = .slice none 0 0 ∨ ∃ g n cap cur, v = .slice (some ⟨g, 0, none⟩) n cap ∧ B ≤ g ∧ w.heap[g]? = some (.cells cur 25) ∧ n ≤ cap ∧ cap ≤ cur.size ∧ cap ≤ maxLen
theorem Rw.of_row {B n : Nat} {w : World} {v : Value} {xs : List Value} (h : w.ownsRow B 25 1 v n xs) : Rw B w v := by
  rcases h.2 with ⟨rfl, h0⟩ | ⟨g, cap, cur, rfl, hb, hg, hn, hm, hs, ht⟩
  · exact .inl rfl
  · exact .inr ⟨g, n, cap, cur, rfl, hb, hg, hn, by rw [hs, Nat.mul_one]; exact Nat.le_refl _, hm⟩
theorem Rw.of_own {B : Nat} {w : World} {v : Value} {l : List F} (h : Ow B w v l) : Rw B w v := Rw.of_row h
theorem Rw.of_oz {B : Nat} {w : World} {v : Value} {l : List Int} (h : Oz .u64 25 B w v l) : Rw B w v := Rw.of_row h
theorem Rw.nil (B : Nat) (w : World) : Rw B w (.slice none 0 0) := .inl rfl
theorem Rw.cut {B n cap : Nat} {a : Option Addr} {w : World} (h : Rw B w (.slice a n cap)) (t c : Nat) (ht : t ≤ c) (hc : c ≤ cap) : Rw B w (.slice a t c) := by
  rcases h with h | ⟨g, n', cap', cur, e, h1, h2, h3, h4, h5⟩
  · injection h with e1 e2 e3
    subst e1; subst e2; subst e3
    obtain rfl : c = 0 := by omega
    obtain rfl : t = 0 := by omega
    exact .inl rfl
  · injection e with e1 e2 e3
    subst e1; subst e2; subst e3
    exact .inr ⟨g, t, c, cur, rfl, h1, h2, ht, by omega, by omega⟩
theorem Rw.mono {B B' : Nat} {w : World} {v : Value} (h : Rw B w v) (hB : B' ≤ B) : Rw B' w v := by
  rcases h with h | ⟨g, n', cap', cur, e, h1, h⟩
  · exact .inl h
  · exact .inr ⟨g, n', cap', cur, e, by omega, h⟩
theorem Rw.below {B : Nat} {w w' : World} {v : Value} (h : Rw B w v) (hb : Below w.heap.size w w') : Rw B w' v := by
  rcases h with h | ⟨g, n', cap', cur, e, h1, h2, h⟩
  · exact .inl h
  · exact .inr ⟨g, n', cap', cur, e, h1, (hb.block g (Array.getElem?_eq_some_iff.1 h2).1).trans h2, h⟩
end Go.Proofs.YtkcfnbfkbmgchaaDoor.Gm
