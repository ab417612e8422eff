/- Plain: any so many symbols tell the numbers; lists of shares of the call's own. -/
import Derived.Test.YtjljndnpefdifaaSe
import Derived.Test.YtjljndnpefdifaaDl
import Derived.Test.YtjljndnpefdifaaAp
import Derived.Deep.AppendLies
import Derived.Deep.RegionHeld3
namespace Go.Proofs.Ytjljndnpefdifaa.Gm
open Go.RowKit
set_option linter.unusedVariables false
/-- the symbols at places -/
@[irreducible] def syz (l : List F) (az : List Int) : List Int := az.map fun a => vl (evl l (pt a.toNat))
theorem syz_nil (l : List F) : syz l [] = [] := by unfold syz; rfl
theorem syz_len (l : List F) (az : List Int) : (syz l az).length = az.length := by unfold syz; simp
theorem syz_snoc (l : List F) (az : List Int) (a : Int) : syz l (az ++ [a]) = syz l az ++ [vl (evl l (pt a.toNat))] := by unfold syz; rw [List.map_append]; rfl
theorem syz_take (l : List F) (az : List Int) (k : Nat) : syz l (az.take k) = (syz l az).take k := by unfold syz; rw [List.map_take]
theorem gd_syz (l : List F) (az : List Int) {i : Nat} (h : i < az.length) : gd (syz l az) i = vl (evl l (pt (gd az i).toNat)) := by
  unfold syz
  rw [gd_eq, gd_eq, List.getElem?_map, List.getElem?_eq_getElem h]; rfl
theorem syz_64 (l : List F) (az : List Int) : B64 (syz l az) := by
  intro z hz
  unfold syz at hz
  obtain ⟨a, _, rfl⟩ := List.mem_map.1 hz
  exact ⟨vl_lo _, vl_64 _⟩
theorem syz_on (l : List F) (az : List Int) (n : Nat) (hn : n ≤ az.length) : On (strip l) az (syz l az) n := fun i hi => by
  rw [gd_syz _ _ (by omega), toF_vl, evl_strip]
theorem thru_syz {l : List F} {az : List Int} (hf : Fine az) (hl : l.length ≤ az.length) : thru az (syz l az) = strip l := by
  have hlen : az.length = (syz l az).length := (syz_len l az).symm
  rw [thru_eq hf hlen]
  refine agree hf _ _ az.length (Nat.le_refl _) (thruK_len _ _ _ (Nat.le_refl _)) (Nat.le_trans (strip_len l) hl) (thruK_normal _ _ _) (strip_strip l) (thruK_on hf hlen _ (Nat.le_refl _)) (syz_on l az _ (Nat.le_refl _))
theorem padF_strip (l : List F) : padF (strip l) l.length = l := by
  have hs := strip_len l
  unfold padF
  refine ext_cf (by rw [List.length_append, List.length_drop, List.length_replicate]; omega) (fun i hi => ?_)
  by_cases h : i < (strip l).length
  · have : cf (strip l ++ (List.replicate l.length 0).drop (strip l).length) i = cf (strip l) i := by
      unfold cf; rw [List.getD_eq_getElem?_getD, List.getD_eq_getElem?_getD, List.getElem?_append_left h]
    rw [this, cf_strip]
  · have h0 : cf (strip l ++ (List.replicate l.length 0).drop (strip l).length) i = 0 := by
      unfold cf
      rw [List.getD_eq_getElem?_getD, List.getElem?_append_right (by omega), List.getElem?_drop, List.getElem?_replicate]
      split <;> rfl
    rw [h0, ← cf_strip, cf_ge (by omega)]
theorem gd_drop1 (l : List Int) (i : Nat) : gd (l.drop 1) i = gd l (i + 1) := by rw [gd_eq, gd_eq, List.getElem?_drop, Nat.add_comm]
/-- one more, and a wrong one: told -/
theorem thru_wrong {l : List F} {az : List Int} (hf : Fine az) (hm : az.length = l.length + 1) (y : F) (hy : y ≠ 0) :
    l.length < (thru az ((syz l az).set 0 (vl (evl l (pt (gd az 0).toNat) + y)))).length := by
  obtain ⟨sz, hsz⟩ : ∃ sz, sz = (syz l az).set 0 (vl (evl l (pt (gd az 0).toNat) + y)) := ⟨_, rfl⟩
  rw [← hsz]
  have hlen : az.length = sz.length := by rw [hsz, List.length_set, syz_len]
  apply Classical.byContradiction
  intro hn
  have hT : (thru az sz).length ≤ l.length := by omega
  have nT : strip (thru az sz) = thru az sz := by rw [thru_eq hf hlen]; exact thruK_normal _ _ _
  have oT : On (thru az sz) az sz az.length := by
    have := thruK_on hf hlen az.length (Nat.le_refl _)
    rwa [← thru_eq hf hlen] at this
  have hg : ∀ i, i < az.length → gd sz i = if 0 = i then vl (evl l (pt (gd az 0).toNat) + y) else gd (syz l az) i := fun i hi => by rw [hsz, gd_set _ _ _ _ (by rw [syz_len]; omega)]
  have hf1 : Fine (az.drop 1) := ⟨fun a ha => hf.1 a (List.mem_of_mem_drop ha), hf.2.sublist (List.drop_sublist 1 az)⟩
  have e : thru az sz = strip l := by
    refine agree (az := az.drop 1) (sz := sz.drop 1) hf1 _ _ l.length (by rw [List.length_drop]; omega) hT (strip_len l) nT (strip_strip l) (fun i hi => ?_) (fun i hi => ?_)
    · rw [gd_drop1, gd_drop1]; exact oT (i + 1) (by omega)
    · rw [gd_drop1, gd_drop1, hg _ (by omega), if_neg (by omega)]
      exact syz_on l az az.length (Nat.le_refl _) (i + 1) (by omega)
  have h0 := oT 0 (by omega)
  rw [hg 0 (by omega), if_pos rfl, toF_vl, e, evl_strip] at h0
  exact hy (by grind)
/-- shares, cell by cell -/
def shc : List Int → List Int → List Value
  | a :: az, s :: sz => .int .i64 a :: .int .u64 s :: shc az sz
  | _, _ => []
theorem shc_len : ∀ (az sz : List Int), az.length = sz.length → (shc az sz).length = az.length * 2
  | [], [], _ => rfl
  | a :: az, s :: sz, h => by simp only [shc, List.length_cons]; rw [shc_len az sz (by simpa using h)]; omega
theorem shc_snoc : ∀ (az sz : List Int) (a s : Int), az.length = sz.length → shc (az ++ [a]) (sz ++ [s]) = shc az sz ++ [.int .i64 a, .int .u64 s]
  | [], [], _, _, _ => rfl
  | _ :: az, _ :: sz, a, s, h => by simp only [List.cons_append, shc]; rw [shc_snoc az sz a s (by simpa using h)]
theorem shc_at : ∀ (az sz : List Int) (i : Nat), az.length = sz.length → i < az.length → (shc az sz)[i * 2]? = some (.int .i64 (gd az i)) ∧ (shc az sz)[i * 2 + 1]? = some (.int .u64 (gd sz i))
  | a :: az, s :: sz, 0, _, _ => by rw [gd_eq, gd_eq]; exact ⟨rfl, rfl⟩
  | a :: az, s :: sz, i + 1, h, hi => by
    have ih := shc_at az sz i (by simpa using h) (by simpa using hi)
    rw [show (i + 1) * 2 = i * 2 + 1 + 1 by omega]
    simp only [shc, List.getElem?_cons_succ]
    rw [show gd (a :: az) (i + 1) = gd az i by rw [gd_eq, gd_eq]; rfl, show gd (s :: sz) (i + 1) = gd sz i by rw [gd_eq, gd_eq]; rfl]
    exact ih
/-- a list of shares of the call's own -/
def Os (B : Nat) (w : World) (v : Value) (az sz : List Int) : Prop := az.length = sz.length ∧ w.ownsRow B 61 2 v az.length (shc az sz)
theorem Os.nil (B : Nat) (w : World) : Os B w (.slice none 0 0) [] [] := ⟨rfl, World.ownsRow_nil _ _ _ _⟩
theorem Os.only {S : Nat → Prop} {B : Nat} {w w' : World} {v : Value} {az sz : List Int} (h : Os B w v az sz) (ho : Only S w w') (hs : ∀ g, v.ownBlock = some g → ¬ S g) : Os B w' v az sz := ⟨h.1, own_only h.2 ho hs⟩
theorem Os.below {B : Nat} {w w' : World} {v : Value} {az sz : List Int} (h : Os B w v az sz) (hb : Below w.heap.size w w') : Os B w' v az sz :=
  h.only (Only.of_below (S := fun _ => False) hb (fun k hk hk' => by omega)) (fun _ _ e => e)
theorem Os.rs {B : Nat} {w : World} {v : Value} {az sz : List Int} (h : Os B w v az sz) : Rs w v az sz := by
  refine ⟨h.1, ?_⟩
  rcases h.2.2 with ⟨rfl, h0⟩ | ⟨g, cap, cur, rfl, hb, hg, hn, hm, hs, ht⟩
  · exact ⟨none, 0, 0, 0, by rw [h0], by omega, by omega, .inl (by omega), fun i hi => absurd hi (by omega)⟩
  · refine ⟨some ⟨g, 0, none⟩, cap, g, 0, rfl, hn, by unfold maxLen at hm; omega, .inr rfl, fun i hi => ?_⟩
    have h1 := World.ownsRow.cellAt h.2 (i * 2) (by omega)
    have h2 := World.ownsRow.cellAt h.2 (i * 2 + 1) (by omega)
    obtain ⟨e1, e2⟩ := shc_at az sz i h.1 hi
    rw [Nat.zero_add, h1, h2, e1, e2]
    exact ⟨rfl, rfl⟩
theorem Os.opened {B : Nat} {w : World} {v : Value} {az sz : List Int} (h : Os B w v az sz) (hl : 1 ≤ az.length) : ∃ g cap, v = .slice (some ⟨g, 0, none⟩) az.length cap ∧ az.length ≤ cap ∧ cap ≤ 9223372036854775807 := by
  rcases h.2.2 with ⟨rfl, h0⟩ | ⟨g, cap, cur, rfl, hb, hg, hn, hm, hs, ht⟩
  · omega
  · exact ⟨g, cap, rfl, hn, by unfold maxLen at hm; omega⟩
theorem Os.lt {B : Nat} {w : World} {v : Value} {az sz : List Int} (h : Os B w v az sz) : ∀ g, v.ownBlock = some g → B ≤ g ∧ g < w.heap.size := World.ownsRow.lt h.2
theorem shc_set0 (a s y : Int) (az sz : List Int) : shc (a :: az) ((s :: sz).set 0 y) = (shc (a :: az) (s :: sz)).set 1 (.int .u64 y) := rfl
theorem Os.set0 {B g n cap : Nat} {w : World} {az sz : List Int} (h : Os B w (.slice (some ⟨g, 0, none⟩) n cap) az sz) (hl : 1 ≤ az.length) (y : Int) :
    Os B (w.setCell ⟨g, 1, none⟩ (.int .u64 y)) (.slice (some ⟨g, 0, none⟩) n cap) az (sz.set 0 y) := by
  obtain ⟨h1, h2⟩ := h
  have hn : n = az.length := by
    rcases h2.2 with ⟨e, _⟩ | ⟨g', cap', cur, e, _⟩
    · cases e
    · injection e
  subst hn
  refine ⟨by rw [List.length_set, h1], ?_⟩
  match az, sz, h1, hl with
  | a :: az, s :: sz, h1, _ =>
    rw [shc_set0]
    exact (World.ownsRow.stored h2 1 (.int .u64 y)).1
theorem Rs.take {w : World} {a : Option Addr} {n cap : Nat} {az sz : List Int} (h : Rs w (.slice a n cap) az sz) {k : Nat} (hk : k ≤ n) : Rs w (.slice a k cap) (az.take k) (sz.take k) := by
  obtain ⟨h0, a', cap', b, off, e, h1, h2, h3, hx⟩ := h
  injection e with e1 e2 e3
  subst e1; subst e2; subst e3
  have hl : (az.take k).length = k := by rw [List.length_take]; omega
  refine ⟨by rw [List.length_take, List.length_take, h0], a, cap, b, off, by rw [hl], by omega, h2, ?_, fun i hi => ?_⟩
  · rcases h3 with h3 | h3
    · exact .inl (by omega)
    · exact .inr h3
  · rw [hl] at hi
    have e1 : gd (az.take k) i = gd az i := by rw [gd_eq, gd_eq, List.getElem?_take_of_lt hi]
    have e2 : gd (sz.take k) i = gd sz i := by rw [gd_eq, gd_eq, List.getElem?_take_of_lt hi]
    rw [e1, e2]
    exact hx i (by omega)
theorem info_share : (Try.prog.info? 61).map (fun i => (i.zero, i.size, i.bytes)) = some (some (.agg #[.int .i64 0, .int .u64 0]), 2, 16) := by kernel_rfl
/-- append of one share at a step of a region that draws its order -/
theorem st_app_share {ops : Array Oper} {o : Oper} {a : Act} {K : Act → World → Prop} {Q : Exit → Act → World → Prop} {E : Prop} (w : World) (hgd : o.guard = none) (s x : Operand)
    (ho : o.op = .call { callee := .builtin .append, args := #[s, x], argTypes := #[52, 52] })
    (B : Nat) (v : Value) (az sz : List Int) (p y : Int) (W : World) (g0 : Nat) (hs : a.eval s = v) (hx : a.eval x = .slice (some ⟨g0, 0, none⟩) 1 1)
    (hown : Os B w v az sz) (hnew : w.heap[g0]? = some (.cells #[.int .i64 p, .int .u64 y] 61)) (hbel : Below B W w) (hB : B ≤ w.heap.size) (hl : az.length ≤ 1000000)
    (h : ∀ v' w', Os B w' v' (az ++ [p]) (sz ++ [y]) → Below B W w' → w.grownBy w' v.ownBlock → (∀ g, v'.ownBlock = some g → v.ownBlock = some g ∨ g = w.heap.size) → K (a.put o.dst v') w') :
    if Region.wanted o (yielded ops a.tmps) = true then Oper.wp Try.prog o a w K Q else E := by
  obtain ⟨i0, hi, hz0, hz1, hz2⟩ := info_parts info_share
  refine step_append_lies w hgd s x 52 ho B 61 i0 (.agg #[.int .i64 0, .int .u64 0]) 2 16 Try.underlying52 hi hz0 hz1 hz2 rfl (by decide) v az.length (shc az sz) hs hown.2 ⟨g0, 0, none⟩ 1 1 [.int .i64 p, .int .u64 y] hx rfl (World.news_of_block (cs := #[.int .i64 p, .int .u64 y]) hnew) (by intro u hu; simp at hu; rcases hu with rfl | rfl <;> rfl) (by omega) (by unfold maxLen; omega) (by omega) hB w.heap.size rfl ?_
  intro g cap w' h1 h2 h3 h4
  refine h _ w' ⟨by rw [List.length_append, List.length_append, hown.1]; rfl, ?_⟩ ?_ h2 ?_
  · rw [shc_snoc _ _ _ _ hown.1, List.length_append, List.length_singleton]
    exact h1
  · exact hbel.grown h2 hB (fun k hk => (World.ownsRow.lt hown.2 k hk).1)
  · intro k hk
    have e : g = k := by simpa [Value.ownBlock] using hk
    subst e
    exact h3
/-- what is picked, what is left -/
def Pick (n : Nat) (az lf : List Int) : Prop := (az ++ lf).Nodup ∧ (∀ a ∈ az ++ lf, 0 ≤ a ∧ a < n) ∧ az.length + lf.length = n
theorem Pick.start (n : Nat) : Pick n [] (zi (List.range n)) := by
  refine ⟨?_, ?_, by rw [zi_len]; simp⟩
  · rw [List.nil_append]
    unfold zi
    refine List.Pairwise.map _ ?_ (List.nodup_range (n := n))
    intro a b hab e
    exact hab (by omega)
  · intro a ha
    rw [List.nil_append] at ha
    obtain ⟨b, hb, rfl⟩ := List.mem_map.1 ha
    have := List.mem_range.1 hb
    omega
theorem Pick.step {n : Nat} {az lf : List Int} (h : Pick n az lf) {i : Nat} (hi : i < lf.length) : Pick n (az ++ [gd lf i]) (lf.take i ++ lf.drop (i + 1)) := by
  obtain ⟨h1, h2, h3⟩ := h
  have e : lf = lf.take i ++ gd lf i :: lf.drop (i + 1) := by
    rw [gd_eq, List.getElem?_eq_getElem hi]
    exact (List.take_append_drop i lf).symm.trans (by rw [List.drop_eq_getElem_cons hi]; rfl)
  have hp : (az ++ lf).Perm (az ++ [gd lf i] ++ (lf.take i ++ lf.drop (i + 1))) := by
    conv => lhs; rw [e]
    rw [List.append_assoc]
    refine List.Perm.append_left az ?_
    exact List.perm_middle
  refine ⟨hp.nodup_iff.1 h1, fun a ha => h2 a (hp.mem_iff.2 ha), ?_⟩
  rw [List.length_append, List.length_append, List.length_take, List.length_drop, List.length_singleton]
  omega
theorem Pick.fine {n : Nat} {az lf : List Int} (h : Pick n az lf) (hn : n ≤ 64) : Fine az :=
  ⟨fun a ha => by have := h.2.1 a (List.mem_append_left _ ha); omega, (List.nodup_append.1 h.1).1⟩
theorem Pick.at {n : Nat} {az lf : List Int} (h : Pick n az lf) {i : Nat} (hi : i < lf.length) : 0 ≤ gd lf i ∧ gd lf i < n :=
  h.2.1 _ (List.mem_append_right _ (gd_mem lf i hi))
/-- the numbers, one behind another -/
@[irreducible] def wnL (l : List F) (m : Nat) : List F := (List.range l.length).map fun i => if i < m then cf l i else 0
theorem wnL_len (l : List F) (m : Nat) : (wnL l m).length = l.length := by unfold wnL; simp
theorem cf_wnL (l : List F) (m : Nat) {p : Nat} (hp : p < l.length) : cf (wnL l m) p = if p < m then cf l p else 0 := by unfold wnL; exact cf_ofFn _ hp
theorem wnL_zero (l : List F) : wnL l 0 = List.replicate l.length 0 := by
  refine ext_cf (by rw [wnL_len, List.length_replicate]) (fun p hp => ?_)
  rw [wnL_len] at hp
  rw [cf_wnL _ _ hp, cf_replicate, if_neg (by omega)]
theorem wnL_step (l : List F) {m : Nat} (hm : m < l.length) : (wnL l m).set m (cf l m) = wnL l (m + 1) := by
  refine ext_cf (by rw [List.length_set, wnL_len, wnL_len]) (fun p hp => ?_)
  rw [List.length_set, wnL_len] at hp
  rw [cf_set _ _ _ _ (by rw [wnL_len]; exact hm), cf_wnL _ _ hp, cf_wnL _ _ hp]
  by_cases h : m = p
  · subst h; rw [if_pos rfl, if_pos (by omega)]
  · rw [if_neg h]
    by_cases h2 : p < m
    · rw [if_pos h2, if_pos (by omega)]
    · rw [if_neg h2, if_neg (by omega)]
theorem wnL_full (l : List F) : wnL l l.length = l := by
  refine ext_cf (wnL_len _ _) (fun p hp => ?_)
  rw [wnL_len] at hp
  rw [cf_wnL _ _ hp, if_pos hp]
/-- 0, 1, 2 .. -/
@[irreducible] def iot (n m : Nat) : List Int := (List.range n).map fun i => if i < m then (i : Int) else 0
theorem iot_len (n m : Nat) : (iot n m).length = n := by unfold iot; simp
theorem gd_iot (n m : Nat) {p : Nat} (hp : p < n) : gd (iot n m) p = if p < m then (p : Int) else 0 := by unfold iot; exact gd_range hp
theorem iot_zero (n : Nat) : iot n 0 = List.replicate n 0 := by
  refine ext_gd (by rw [iot_len, List.length_replicate]) (fun p hp => ?_)
  rw [iot_len] at hp
  rw [gd_iot _ _ hp, gd_replicate, if_neg (by omega)]
theorem iot_step (n : Nat) {m : Nat} (hm : m < n) : (iot n m).set m (m : Int) = iot n (m + 1) := by
  refine ext_gd (by rw [List.length_set, iot_len, iot_len]) (fun p hp => ?_)
  rw [List.length_set, iot_len] at hp
  rw [gd_set _ _ _ _ (by rw [iot_len]; exact hm), gd_iot _ _ hp, gd_iot _ _ hp]
  by_cases h : m = p
  · subst h; rw [if_pos rfl, if_pos (by omega)]
  · rw [if_neg h]
    by_cases h2 : p < m
    · rw [if_pos h2, if_pos (by omega)]
    · rw [if_neg h2, if_neg (by omega)]
theorem iot_full (n : Nat) : iot n n = zi (List.range n) := by
  unfold iot zi
  exact List.map_congr_left (fun i hi => if_pos (List.mem_range.1 hi))
theorem syms_lit : (syms ([5, 0].map toF) 3).map vl = [5, 5, 5] := by
  have h : ∀ x : F, evl ([5, 0].map toF) x = toF 5 := fun x => by
    unfold evl ev
    show S (0 + 1 + 1) _ = _
    rw [S_succ, S_succ, S_zero, pow_zero]
    show 0 + toF 5 * 1 + toF 0 * _ = _
    rw [toF_zero]
    grind
  unfold syms
  show [vl (evl _ _), vl (evl _ _), vl (evl _ _)] = _
  rw [h, h, h, vl_toF]; rfl
end Go.Proofs.Ytjljndnpefdifaa.Gm
