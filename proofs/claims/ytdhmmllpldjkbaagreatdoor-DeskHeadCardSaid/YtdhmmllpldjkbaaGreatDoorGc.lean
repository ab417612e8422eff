/- Laid together by wip/merge.py: Mk Cv Wz Nb Tz Nu Nv. -/
import Derived.Test.YtdhmmllpldjkbaaGreatDoorGb
import Derived.Test.YtdhmmllpldjkbaaGreatDoorPla
import Derived.Test.YtdhmmllpldjkbaaGreatDoorGa
import Derived.Lib.TrailingZeros
import Derived.Laws.Bits64b
/- (Mk) -/
namespace Go.Proofs.YtdhmmllpldjkbaaGreatDoor.Gm
open Go.RowKit
set_option linter.unusedVariables false
/-- the first j tasks of an axis, c lines each -/
@[irreducible] def mkT (x lines c j : Nat) : List T3 := (List.range j).map fun i => ((x : Int), ((i * c : Nat) : Int), ((min ((i + 1) * c) lines : Nat) : Int))
theorem mkT_len (x lines c j : Nat) : (mkT x lines c j).length = j := by unfold mkT; simp
theorem mkT_zero (x lines c : Nat) : mkT x lines c 0 = [] := by unfold mkT; rfl
theorem mkT_succ (x lines c j : Nat) : mkT x lines c (j + 1) = mkT x lines c j ++ [((x : Int), ((j * c : Nat) : Int), ((min ((j + 1) * c) lines : Nat) : Int))] := by
  unfold mkT; rw [List.range_succ, List.map_append]; rfl
theorem tg_mkT (x lines c : Nat) {j i : Nat} (h : i < j) : tg (mkT x lines c j) i = ((x : Int), ((i * c : Nat) : Int), ((min ((i + 1) * c) lines : Nat) : Int)) := by
  unfold mkT
  rw [tg_eq, List.getElem?_map, List.getElem?_range h]; rfl
/-- how many tasks an axis has -/
@[irreducible] def cntT (lines c : Nat) : Nat := (lines + c - 1) / c
theorem lt_cntT {lines c j : Nat} (hl : 1 ≤ lines) (hc : 1 ≤ c) : j < cntT lines c ↔ j * c < lines := by
  unfold cntT
  rw [show (j < (lines + c - 1) / c) = (j + 1 ≤ (lines + c - 1) / c) from rfl, Nat.le_div_iff_mul_le (by omega), Nat.add_mul, Nat.one_mul]
  omega
theorem cntT_le {lines c : Nat} (hl : 1 ≤ lines) (hc : 1 ≤ c) : cntT lines c ≤ lines := by
  apply Classical.byContradiction
  intro h
  have h1 := (lt_cntT (j := lines) hl hc).1 (by omega)
  have := Nat.le_mul_of_pos_right lines hc
  omega
theorem cntT_pos {lines c : Nat} (hl : 1 ≤ lines) (hc : 1 ≤ c) : 1 ≤ cntT lines c := (lt_cntT (j := 0) hl hc).2 (by omega)
/-- where the j-th task begins -/
def posT (lines c j : Nat) : Nat := min (j * c) lines
/-- the lines of an axis -/
def lnX (ds : List Nat) (x : Nat) : Nat := pr ds / nd ds x
/-- so many lines a task -/
def cutX (ds : List Nat) (cut : Int) (x : Nat) : Nat := (min cut (lnX ds x : Int)).toNat
theorem lnX_pos {ds : List Nat} (hs : Shp ds) {x : Nat} (hx : x < ds.length) : 1 ≤ lnX ds x := by
  unfold lnX
  have h1 := hs.nd1 hx
  exact (Nat.le_div_iff_mul_le h1).2 (by rw [Nat.one_mul]; exact nd_le hs.pos hx)
theorem lnX_le {ds : List Nat} (hs : Shp ds) (x : Nat) : lnX ds x ≤ 1024 := Nat.le_trans (Nat.div_le_self _ _) hs.le
theorem lnX_eq {ds : List Nat} (hs : Shp ds) {x : Nat} (hx : x < ds.length) : lnX ds x = pr (ds.take x) * under ds x := by
  have h1 := hs.nd1 hx
  unfold lnX
  rw [← pr_split ds x, pr_drop ds x hx, Nat.mul_left_comm]
  exact Nat.mul_div_cancel_left _ h1
theorem cutX_pos {ds : List Nat} (hs : Shp ds) {cut : Int} (hc : 1 ≤ cut) {x : Nat} (hx : x < ds.length) : 1 ≤ cutX ds cut x := by
  have := lnX_pos hs hx
  unfold cutX; omega
theorem cutX_le {ds : List Nat} {cut : Int} (hc : 1 ≤ cut) (x : Nat) : cutX ds cut x ≤ lnX ds x := by unfold cutX; omega
/-- what the program asks is what is asked of the lesser cut -/
theorem cut_iff {lines : Nat} {cut : Int} (hc : 1 ≤ cut) (a : Nat) (ha : a ≤ lines) : cut < (lines : Int) - (a : Int) ↔ (min cut (lines : Int)).toNat < lines - a := by omega
theorem cut_same {lines : Nat} {cut : Int} (hc : 1 ≤ cut) {a : Nat} (h : cut < (lines : Int) - (a : Int)) : cut = ((min cut (lines : Int)).toNat : Int) := by omega
/-- the phase of an axis -/
@[irreducible] def phT (ds : List Nat) (cut : Int) (x : Nat) : List T3 := mkT x (lnX ds x) (cutX ds cut x) (cntT (lnX ds x) (cutX ds cut x))
theorem phT_len (ds : List Nat) (cut : Int) (x : Nat) : (phT ds cut x).length = cntT (lnX ds x) (cutX ds cut x) := by unfold phT; exact mkT_len _ _ _ _
/-- the first m phases -/
@[irreducible] def phs (ds : List Nat) (cut : Int) (m : Nat) : List (List T3) := (List.range m).map (phT ds cut)
theorem phs_zero (ds : List Nat) (cut : Int) : phs ds cut 0 = [] := by unfold phs; rfl
theorem phs_succ (ds : List Nat) (cut : Int) (m : Nat) : phs ds cut (m + 1) = phs ds cut m ++ [phT ds cut m] := by unfold phs; rw [List.range_succ, List.map_append]; rfl
theorem phs_len (ds : List Nat) (cut : Int) (m : Nat) : (phs ds cut m).length = m := by unfold phs; simp
/-- phase i of a list -/
@[irreducible] def pg (l : List (List T3)) (i : Nat) : List T3 := l.getD i []
theorem pg_eq (l : List (List T3)) (i : Nat) : pg l i = l[i]?.getD [] := by unfold pg; rw [List.getD_eq_getElem?_getD]
theorem pg_lt {l : List (List T3)} {i : Nat} (h : i < l.length) : pg l i = l[i] := by rw [pg_eq, List.getElem?_eq_getElem h]; rfl
theorem pg_phs (ds : List Nat) (cut : Int) {m x : Nat} (h : x < m) : pg (phs ds cut m) x = phT ds cut x := by
  unfold phs
  rw [pg_eq, List.getElem?_map, List.getElem?_range h]; rfl
end Go.Proofs.YtdhmmllpldjkbaaGreatDoor.Gm
/- (Cv) -/
namespace Go.Proofs.YtdhmmllpldjkbaaGreatDoor.Gm
open Go.RowKit
set_option linter.unusedVariables false
/-- does a task cover line k? -/
def hit (k : Int) (t : T3) : Bool := decide (t.2.1 ≤ k) && decide (k < t.2.2)
def cntL (l : List T3) (k : Int) : Nat := l.countP (hit k)
/-- a right task of an axis -/
def okT (ax lines : Int) (t : T3) : Prop := t.1 = ax ∧ 0 ≤ t.2.1 ∧ t.2.2 ≤ lines ∧ t.2.1 < t.2.2
/-- each line just once -/
def RP (ax lines : Int) (l : List T3) : Prop := (∀ t ∈ l, okT ax lines t) ∧ ∀ k : Int, 0 ≤ k → k < lines → cntL l k = 1
/-- one behind another, from a line on -/
def chk (ax lines : Int) : Int → List T3 → Bool
  | a, [] => decide (a = lines)
  | a, t :: r => decide (t.1 = ax) && decide (t.2.1 = a) && decide (a < t.2.2) && decide (t.2.2 ≤ lines) && chk ax lines t.2.2 r
theorem hit_iff (k : Int) (t : T3) : hit k t = true ↔ t.2.1 ≤ k ∧ k < t.2.2 := by unfold hit; simp
theorem cnt_cons (t : T3) (r : List T3) (k : Int) : cntL (t :: r) k = (if t.2.1 ≤ k ∧ k < t.2.2 then 1 else 0) + cntL r k := by
  unfold cntL
  rw [List.countP_cons]
  by_cases h : t.2.1 ≤ k ∧ k < t.2.2
  · rw [if_pos h, if_pos ((hit_iff k t).2 h)]; omega
  · rw [if_neg h, if_neg (fun e => h ((hit_iff k t).1 e))]; omega
theorem cnt_nil (k : Int) : cntL [] k = 0 := rfl
theorem chk_to (ax lines : Int) : ∀ (r : List T3) (a : Int), 0 ≤ a → chk ax lines a r = true → a ≤ lines ∧ (∀ t ∈ r, okT ax lines t ∧ a ≤ t.2.1) ∧ ∀ k, cntL r k = if a ≤ k ∧ k < lines then 1 else 0
  | [], a, ha, h => by
    have e : a = lines := by simpa [chk] using h
    refine ⟨by omega, by simp, fun k => ?_⟩
    rw [cnt_nil, if_neg (by omega)]
  | t :: r, a, ha, h => by
    simp only [chk, Bool.and_eq_true, decide_eq_true_eq] at h
    obtain ⟨⟨⟨⟨h1, h2⟩, h3⟩, h4⟩, h5⟩ := h
    obtain ⟨g1, g2, g3⟩ := chk_to ax lines r t.2.2 (by omega) h5
    refine ⟨by omega, ?_, fun k => ?_⟩
    · intro u hu
      rcases List.mem_cons.1 hu with rfl | hu
      · exact ⟨⟨h1, by omega, h4, by omega⟩, by omega⟩
      · obtain ⟨k1, k2⟩ := g2 u hu
        exact ⟨k1, by omega⟩
    · rw [cnt_cons, g3]
      by_cases c1 : t.2.1 ≤ k ∧ k < t.2.2
      · rw [if_pos c1, if_neg (by omega), if_pos (by omega)]
      · rw [if_neg c1]
        by_cases c2 : t.2.2 ≤ k ∧ k < lines
        · rw [if_pos c2, if_pos (by omega)]
        · rw [if_neg c2, if_neg (by omega)]
theorem chk_of (ax lines : Int) : ∀ (r : List T3) (a : Int), 0 ≤ a → a ≤ lines → r.Pairwise (fun s t => s.2.1 ≤ t.2.1) → (∀ t ∈ r, okT ax lines t) → (∀ k, cntL r k = if a ≤ k ∧ k < lines then 1 else 0) → chk ax lines a r = true
  | [], a, ha, hl, _, _, hc => by
    have h := hc a
    rw [cnt_nil] at h
    have : a = lines := by
      by_cases c : a ≤ a ∧ a < lines
      · rw [if_pos c] at h; omega
      · omega
    simp [chk, this]
  | t :: r, a, ha, hl, hs, ho, hc => by
    obtain ⟨hs1, hs2⟩ := List.pairwise_cons.1 hs
    obtain ⟨o1, o2, o3, o4⟩ := ho t (by simp)
    have h1 : a ≤ t.2.1 := by
      have h := hc t.2.1
      rw [cnt_cons, if_pos (by omega)] at h
      by_cases c : a ≤ t.2.1 ∧ t.2.1 < lines
      · exact c.1
      · rw [if_neg c] at h; omega
    have h2 : t.2.1 = a := by
      apply Classical.byContradiction
      intro hne
      have h := hc a
      rw [if_pos (by omega), cnt_cons, if_neg (by omega)] at h
      have h0 : cntL r a = 0 := by
        unfold cntL
        rw [List.countP_eq_zero]
        intro u hu e
        have := (hit_iff a u).1 e
        have := hs1 u hu
        omega
      omega
    simp only [chk, Bool.and_eq_true, decide_eq_true_eq]
    refine ⟨⟨⟨⟨o1, h2⟩, by omega⟩, o3⟩, chk_of ax lines r t.2.2 (by omega) o3 hs2 (fun u hu => ho u (by simp [hu])) (fun k => ?_)⟩
    have h := hc k
    rw [cnt_cons] at h
    by_cases c1 : t.2.1 ≤ k ∧ k < t.2.2
    · rw [if_pos c1, if_pos (by omega)] at h
      rw [if_neg (by omega)]; omega
    · rw [if_neg c1] at h
      by_cases c2 : a ≤ k ∧ k < lines
      · rw [if_pos c2] at h; rw [if_pos (by omega)]; omega
      · rw [if_neg c2] at h; rw [if_neg (by omega)]; omega
theorem chk_iff {ax lines : Int} (h0 : 0 ≤ lines) {l r : List T3} (hp : r.Perm l) (hs : r.Pairwise (fun s t => s.2.1 ≤ t.2.1)) : chk ax lines 0 r = true ↔ RP ax lines l := by
  have hc : ∀ k, cntL r k = cntL l k := fun k => hp.countP_eq _
  constructor
  · intro h
    obtain ⟨g1, g2, g3⟩ := chk_to ax lines r 0 (by omega) h
    refine ⟨fun t ht => (g2 t (hp.mem_iff.2 ht)).1, fun k k0 k1 => ?_⟩
    rw [← hc, g3, if_pos ⟨k0, k1⟩]
  · rintro ⟨h1, h2⟩
    refine chk_of ax lines r 0 (by omega) h0 hs (fun t ht => h1 t (hp.mem_iff.1 ht)) (fun k => ?_)
    rw [hc]
    by_cases c : 0 ≤ k ∧ k < lines
    · rw [if_pos c, h2 k c.1 c.2]
    · rw [if_neg c]
      unfold cntL
      rw [List.countP_eq_zero]
      intro u hu e
      have := (hit_iff k u).1 e
      obtain ⟨_, _, _, _⟩ := h1 u hu
      omega
theorem cnt_mkT (x lines c : Nat) (hl : 1 ≤ lines) (hc : 1 ≤ c) (k : Int) : ∀ j, j ≤ cntT lines c → cntL (mkT x lines c j) k = if 0 ≤ k ∧ k < ((min (j * c) lines : Nat) : Int) then 1 else 0
  | 0, _ => by rw [mkT_zero, cnt_nil, if_neg (fun h => by have := h.2; simp at this; omega)]
  | j + 1, h => by
    have ih := cnt_mkT x lines c hl hc k j (by omega)
    have hj := (lt_cntT (j := j) hl hc).1 (by omega)
    have e1 : (j + 1) * c = j * c + c := by rw [Nat.add_mul, Nat.one_mul]
    rw [mkT_succ]
    unfold cntL at *
    rw [List.countP_append, ih]
    have e2 : List.countP (hit k) [((x : Int), ((j * c : Nat) : Int), ((min ((j + 1) * c) lines : Nat) : Int))] = if ((j * c : Nat) : Int) ≤ k ∧ k < ((min ((j + 1) * c) lines : Nat) : Int) then 1 else 0 := by
      have := cnt_cons ((x : Int), ((j * c : Nat) : Int), ((min ((j + 1) * c) lines : Nat) : Int)) [] k
      rw [cnt_nil] at this
      exact this
    rw [e2, e1]
    generalize j * c = m at *
    by_cases c1 : 0 ≤ k ∧ k < ((min m lines : Nat) : Int)
    · rw [if_pos c1, if_neg (by omega), if_pos (by omega)]
    · rw [if_neg c1]
      by_cases c2 : (m : Int) ≤ k ∧ k < ((min (m + c) lines : Nat) : Int)
      · rw [if_pos c2, if_pos (by omega)]
      · rw [if_neg c2, if_neg (by omega)]
theorem rp_mkT (x lines c : Nat) (hl : 1 ≤ lines) (hc : 1 ≤ c) : RP x lines (mkT x lines c (cntT lines c)) := by
  have hJ : lines ≤ cntT lines c * c := by
    apply Classical.byContradiction
    intro h
    have := (lt_cntT (j := cntT lines c) hl hc).2 (by omega)
    omega
  constructor
  · intro t ht
    unfold mkT at ht
    obtain ⟨i, hi, rfl⟩ := List.mem_map.1 ht
    have hij := (lt_cntT (j := i) hl hc).1 (List.mem_range.1 hi)
    have e1 : (i + 1) * c = i * c + c := by rw [Nat.add_mul, Nat.one_mul]
    refine ⟨rfl, ?_, ?_, ?_⟩
    · show (0 : Int) ≤ ((i * c : Nat) : Int)
      omega
    · show ((min ((i + 1) * c) lines : Nat) : Int) ≤ lines
      omega
    · show ((i * c : Nat) : Int) < ((min ((i + 1) * c) lines : Nat) : Int)
      rw [e1]
      generalize i * c = m at *
      omega
  · intro k k0 k1
    rw [cnt_mkT x lines c hl hc k _ (Nat.le_refl _), if_pos (by omega)]
theorem rp_phT {ds : List Nat} (hs : Shp ds) {cut : Int} (hc : 1 ≤ cut) {x : Nat} (hx : x < ds.length) : RP x (lnX ds x) (phT ds cut x) := by
  unfold phT
  exact rp_mkT _ _ _ (lnX_pos hs hx) (cutX_pos hs hc hx)
end Go.Proofs.YtdhmmllpldjkbaaGreatDoor.Gm
/- (Wz) -/
namespace Go.Proofs.YtdhmmllpldjkbaaGreatDoor.Gm
open Go.RowKit
set_option linter.unusedVariables false
/-- an array with some lines of an axis transformed: number p -/
def tzSAt (back : Bool) (s k : Nat) (dn : Nat → Bool) (zs : List Int) (p : Nat) : Int :=
  if dn (lineNo s (2 ^ k) p) = true then vl (tr back k (fun i => toF (gd zs (lineAt s (2 ^ k) (lineNo s (2 ^ k) p) + i * s))) (coord s (2 ^ k) p)) else gd zs p
@[irreducible] def tzS (back : Bool) (s k n : Nat) (dn : Nat → Bool) (zs : List Int) : List Int := (List.range n).map (tzSAt back s k dn zs)
theorem tzS_len (back : Bool) (s k n : Nat) (dn : Nat → Bool) (zs : List Int) : (tzS back s k n dn zs).length = n := by unfold tzS; simp
theorem gd_tzS (back : Bool) (s k n : Nat) (dn : Nat → Bool) (zs : List Int) {p : Nat} (h : p < n) : gd (tzS back s k n dn zs) p = tzSAt back s k dn zs p := by unfold tzS; exact gd_range h
theorem tzS_none {back : Bool} {s k n : Nat} {dn : Nat → Bool} {zs : List Int} (hl : zs.length = n) (h : ∀ L, dn L = false) : tzS back s k n dn zs = zs := by
  refine ext_gd (by rw [tzS_len, hl]) (fun p hp => ?_)
  rw [tzS_len] at hp
  rw [gd_tzS _ _ _ _ _ _ hp, tzSAt, h, if_neg (by simp)]
theorem B64.tzS {back : Bool} {s k n : Nat} {dn : Nat → Bool} {zs : List Int} (h : B64 zs) (hl : zs.length = n) : B64 (tzS back s k n dn zs) := by
  intro z hz
  unfold Gm.tzS at hz
  obtain ⟨p, hp, rfl⟩ := List.mem_map.1 hz
  unfold tzSAt
  split
  · exact ⟨vl_lo _, vl_64 _⟩
  · exact h.get p
/-- one task more -/
theorem tzS_step {back : Bool} {s k m f t : Nat} {dn : Nat → Bool} {zs : List Int} (hs : 0 < s) (hd : ∀ L, f ≤ L → L < t → dn L = false) :
    tz back s k (m * (2 ^ k * s)) f t (tzS back s k (m * (2 ^ k * s)) dn zs) = tzS back s k (m * (2 ^ k * s)) (fun L => dn L || (decide (f ≤ L) && decide (L < t))) zs := by
  refine ext_gd (by rw [tz_len, tzS_len]) (fun p hp => ?_)
  rw [tz_len] at hp
  rw [gd_tz _ _ _ _ _ _ _ hp, gd_tzS _ _ _ _ _ _ hp, tzAt, tzSAt]
  have hL := lineNo_lt s (2 ^ k) m p hs hp
  by_cases h : f ≤ lineNo s (2 ^ k) p ∧ lineNo s (2 ^ k) p < t
  · have h0 := hd _ h.1 h.2
    rw [if_pos h, if_pos (by simp [h.1, h.2])]
    congr 1
    refine tr_congr (fun i hi => ?_) _
    rw [gd_tzS _ _ _ _ _ _ (lineAt_lt s (2 ^ k) m _ i hs hL hi), tzSAt, lineNo_of s (2 ^ k) _ i hs hi, h0, if_neg (by simp)]
  · rw [if_neg h, gd_tzS _ _ _ _ _ _ hp, tzSAt]
    have e : (dn (lineNo s (2 ^ k) p) || (decide (f ≤ lineNo s (2 ^ k) p) && decide (lineNo s (2 ^ k) p < t))) = dn (lineNo s (2 ^ k) p) := by
      have : (decide (f ≤ lineNo s (2 ^ k) p) && decide (lineNo s (2 ^ k) p < t)) = false := by
        rw [Bool.eq_false_iff]
        intro e
        simp only [Bool.and_eq_true, decide_eq_true_eq] at e
        exact h e
      rw [this, Bool.or_false]
    rw [e]
theorem tzS_all {back : Bool} {s k m : Nat} {dn : Nat → Bool} {zs : List Int} (hs : 0 < s) (hd : ∀ L, L < m * s → dn L = true) :
    tzS back s k (m * (2 ^ k * s)) dn zs = tz back s k (m * (2 ^ k * s)) 0 (m * s) zs := by
  refine ext_gd (by rw [tz_len, tzS_len]) (fun p hp => ?_)
  rw [tzS_len] at hp
  have hL := lineNo_lt s (2 ^ k) m p hs hp
  rw [gd_tz _ _ _ _ _ _ _ hp, gd_tzS _ _ _ _ _ _ hp, tzAt, tzSAt, hd _ hL, if_pos rfl, if_pos ⟨Nat.zero_le _, hL⟩]
/-- the lines that no task that is left covers -/
def dnT (left : List T3) (L : Nat) : Bool := decide (cntL left (L : Int) = 0)
theorem dnT_nil (L : Nat) : dnT [] L = true := by unfold dnT; rfl
theorem cntL_perm {l r : List T3} (h : l.Perm r) (k : Int) : cntL l k = cntL r k := h.countP_eq _
theorem perm_out {l : List T3} {i : Nat} (hi : i < l.length) : l.Perm (tg l i :: (l.take i ++ l.drop (i + 1))) := by
  have e : l = l.take i ++ tg l i :: l.drop (i + 1) := by
    rw [tg_lt hi]
    exact (List.take_append_drop i l).symm.trans (by rw [List.drop_eq_getElem_cons hi])
  conv => lhs; rw [e]
  exact List.perm_middle
/-- a task is taken out of those left: what it covered is done -/
theorem dnT_step {left : List T3} {i f t : Nat} {x : Int} (hi : i < left.length) (ht : tg left i = (x, (f : Int), (t : Int))) (h1 : ∀ k : Int, cntL left k ≤ 1) :
    (∀ L, f ≤ L → L < t → dnT left L = false) ∧ (fun L => dnT left L || (decide (f ≤ L) && decide (L < t))) = dnT (left.take i ++ left.drop (i + 1)) ∧ ∀ k : Int, cntL (left.take i ++ left.drop (i + 1)) k ≤ 1 := by
  have hp : ∀ k, cntL left k = (if (f : Int) ≤ k ∧ k < (t : Int) then 1 else 0) + cntL (left.take i ++ left.drop (i + 1)) k := fun k => by
    rw [cntL_perm (perm_out hi) k, cnt_cons, ht]
  refine ⟨fun L h2 h3 => ?_, ?_, fun k => ?_⟩
  · unfold dnT
    have := hp L
    rw [if_pos (by omega)] at this
    exact decide_eq_false (by omega)
  · funext L
    have h := hp L
    have hle := h1 L
    unfold dnT
    by_cases c : f ≤ L ∧ L < t
    · rw [if_pos (by omega)] at h
      have e : cntL (left.take i ++ left.drop (i + 1)) (L : Int) = 0 := by omega
      simp [c.1, c.2, e]
    · rw [if_neg (by omega)] at h
      have e : (decide (f ≤ L) && decide (L < t)) = false := by
        rw [Bool.eq_false_iff]
        intro e
        simp only [Bool.and_eq_true, decide_eq_true_eq] at e
        exact c e
      rw [e, Bool.or_false, h, Nat.zero_add]
  · have := hp k
    have := h1 k
    omega
theorem cnt_le_one {x lines : Nat} {l : List T3} (h : RP x lines l) (k : Int) : cntL l k ≤ 1 := by
  by_cases c : 0 ≤ k ∧ k < (lines : Int)
  · rw [h.2 k c.1 c.2]; exact Nat.le_refl _
  · have : cntL l k = 0 := by
      unfold cntL
      rw [List.countP_eq_zero]
      intro u hu e
      have := (hit_iff k u).1 e
      obtain ⟨_, _, _, _⟩ := h.1 u hu
      omega
    omega
theorem dnT_start {x lines : Nat} {l : List T3} (h : RP x lines l) {L : Nat} (hL : L < lines) : dnT l L = false := by
  unfold dnT
  rw [h.2 L (by omega) (by omega)]
  rfl
end Go.Proofs.YtdhmmllpldjkbaaGreatDoor.Gm
/- (Nb) -/
namespace Go.Proofs.YtdhmmllpldjkbaaGreatDoor.Gm
@[irreducible] def stL (k : Nat) (w : F) (a : Nat → F) (s : Nat) : List F := (List.range (2 ^ k)).map (stage k w a s)
theorem stL_len (k : Nat) (w : F) (a : Nat → F) (s : Nat) : (stL k w a s).length = 2 ^ k := by unfold stL; simp
theorem stL_last (k : Nat) (w : F) (a : Nat → F) : stL k w a k = (List.range (2 ^ k)).map (dft (2 ^ k) w a) := by
  unfold stL
  exact List.map_congr_left (fun p hp => stage_last k w a p (List.mem_range.1 hp))
/-- blocks below B done, of block B the first j pairs -/
@[irreducible] def miL (k : Nat) (w : F) (a : Nat → F) (s B j : Nat) : List F :=
  (List.range (2 ^ k)).map fun p => if p / (2 * 2 ^ s) < B ∨ (p / (2 * 2 ^ s) = B ∧ p % 2 ^ s < j) then stage k w a (s + 1) p else stage k w a s p
theorem miL_len (k : Nat) (w : F) (a : Nat → F) (s B j : Nat) : (miL k w a s B j).length = 2 ^ k := by unfold miL; simp
theorem cf_miL (k : Nat) (w : F) (a : Nat → F) (s B j : Nat) {p : Nat} (hp : p < 2 ^ k) :
    cf (miL k w a s B j) p = if p / (2 * 2 ^ s) < B ∨ (p / (2 * 2 ^ s) = B ∧ p % 2 ^ s < j) then stage k w a (s + 1) p else stage k w a s p := by
  unfold miL; exact cf_ofFn _ hp
theorem miL_start (k : Nat) (w : F) (a : Nat → F) (s : Nat) : miL k w a s 0 0 = stL k w a s := by
  unfold miL stL
  exact List.map_congr_left (fun p _ => by rw [if_neg (fun h => by rcases h with h | h; exact Nat.not_lt_zero _ h; exact Nat.not_lt_zero _ h.2)])
theorem miL_next (k : Nat) (w : F) (a : Nat → F) (s B : Nat) : miL k w a s B (2 ^ s) = miL k w a s (B + 1) 0 := by
  unfold miL
  refine List.map_congr_left (fun p _ => ?_)
  have h := Nat.mod_lt p (Nat.two_pow_pos s)
  generalize p / (2 * 2 ^ s) = q at *
  generalize p % 2 ^ s = r at *
  by_cases h1 : q < B ∨ (q = B ∧ r < 2 ^ s)
  · rw [if_pos h1, if_pos (by omega)]
  · rw [if_neg h1, if_neg (by omega)]
theorem pow_spl {k s : Nat} (hs : s < k) : 2 ^ k = 2 ^ (k - s - 1) * (2 * 2 ^ s) := by
  rw [Nat.mul_comm 2, ← Nat.pow_succ, ← Nat.pow_add]; congr 1; omega
theorem miL_done (k : Nat) (w : F) (a : Nat → F) {s : Nat} (hs : s < k) : miL k w a s (2 ^ (k - s - 1)) 0 = stL k w a (s + 1) := by
  unfold miL stL
  refine List.map_congr_left (fun p hp => ?_)
  have hp := List.mem_range.1 hp
  rw [if_pos (.inl (Nat.div_lt_of_lt_mul (by rw [Nat.mul_comm, ← pow_spl hs]; exact hp)))]
theorem blkp {h B j p : Nat} (hj : j < h) (hp : p / (2 * h) = B ∧ p % h = j) : p = B * (2 * h) + j ∨ p = B * (2 * h) + h + j := by
  obtain ⟨h1, h2⟩ := hp
  have e1 := Nat.div_add_mod p (2 * h)
  have e2 := Nat.mod_lt p (show 0 < 2 * h by omega)
  have e3 : p % (2 * h) % h = p % h := Nat.mod_mul_left_mod p 2 h
  rw [h1] at e1
  rw [Nat.mul_comm] at e1
  generalize p % (2 * h) = r at *
  rw [h2] at e3
  by_cases hr : r < h
  · rw [Nat.mod_eq_of_lt hr] at e3; left; omega
  · have : r % h = r - h := by rw [Nat.mod_eq_sub_mod (by omega), Nat.mod_eq_of_lt (by omega)]
    right; omega
theorem blk1 {h B j : Nat} (hj : j < h) : (B * (2 * h) + j) / (2 * h) = B ∧ (B * (2 * h) + j) % h = j := by
  constructor
  · rw [Nat.add_comm, Nat.add_mul_div_right _ _ (by omega), Nat.div_eq_of_lt (by omega), Nat.zero_add]
  · rw [show B * (2 * h) + j = j + (B * 2) * h by grind, Nat.add_mul_mod_self_right, Nat.mod_eq_of_lt hj]
theorem blk2 {h B j : Nat} (hj : j < h) : (B * (2 * h) + h + j) / (2 * h) = B ∧ (B * (2 * h) + h + j) % h = j := by
  constructor
  · rw [show B * (2 * h) + h + j = (h + j) + B * (2 * h) by omega, Nat.add_mul_div_right _ _ (by omega), Nat.div_eq_of_lt (by omega), Nat.zero_add]
  · rw [show B * (2 * h) + h + j = j + (B * 2 + 1) * h by grind, Nat.add_mul_mod_self_right, Nat.mod_eq_of_lt hj]
theorem blk_in {k s B j : Nat} (hs : s < k) (hB : B < 2 ^ (k - s - 1)) (hj : j < 2 ^ s) : B * (2 * 2 ^ s) + 2 ^ s + j < 2 ^ k := by
  rw [pow_spl hs]
  have := Nat.mul_le_mul_right (2 * 2 ^ s) (show B + 1 ≤ 2 ^ (k - s - 1) from hB)
  rw [Nat.add_mul, Nat.one_mul] at this
  omega
theorem miL_at1 (k : Nat) (w : F) (a : Nat → F) {s B j : Nat} (hs : s < k) (hB : B < 2 ^ (k - s - 1)) (hj : j < 2 ^ s) : cf (miL k w a s B j) (B * (2 * 2 ^ s) + j) = stage k w a s (B * (2 * 2 ^ s) + j) := by
  have h1 := blk_in hs hB hj
  have h2 := blk1 (B := B) hj
  rw [cf_miL _ _ _ _ _ _ (by omega), h2.1, h2.2, if_neg (by omega)]
theorem miL_at2 (k : Nat) (w : F) (a : Nat → F) {s B j : Nat} (hs : s < k) (hB : B < 2 ^ (k - s - 1)) (hj : j < 2 ^ s) : cf (miL k w a s B j) (B * (2 * 2 ^ s) + j + 2 ^ s) = stage k w a s (B * (2 * 2 ^ s) + 2 ^ s + j) := by
  have h1 := blk_in hs hB hj
  have h2 := blk2 (B := B) hj
  rw [show B * (2 * 2 ^ s) + j + 2 ^ s = B * (2 * 2 ^ s) + 2 ^ s + j by omega, cf_miL _ _ _ _ _ _ h1, h2.1, h2.2, if_neg (by omega)]
theorem miL_step {k : Nat} {w : F} (hw : Rt w k) (a : Nat → F) {s B j : Nat} (hs : s < k) (hB : B < 2 ^ (k - s - 1)) (hj : j < 2 ^ s) :
    (((miL k w a s B j).set (B * (2 * 2 ^ s) + j) (stage k w a s (B * (2 * 2 ^ s) + j) + stage k w a s (B * (2 * 2 ^ s) + 2 ^ s + j) * (w ^ 2 ^ (k - s - 1)) ^ j)).set (B * (2 * 2 ^ s) + j + 2 ^ s)
      (stage k w a s (B * (2 * 2 ^ s) + j) - stage k w a s (B * (2 * 2 ^ s) + 2 ^ s + j) * (w ^ 2 ^ (k - s - 1)) ^ j)) = miL k w a s B (j + 1) := by
  have hin := blk_in hs hB hj
  obtain ⟨st1, st2⟩ := stage_step hw a hs B j hj
  refine ext_cf (by rw [List.length_set, List.length_set, miL_len, miL_len]) (fun p hp => ?_)
  rw [List.length_set, List.length_set, miL_len] at hp
  rw [cf_set _ _ _ _ (by rw [List.length_set, miL_len]; omega), cf_set _ _ _ _ (by rw [miL_len]; omega), cf_miL _ _ _ _ _ _ hp, cf_miL _ _ _ _ _ _ hp]
  have c1 := blk1 (B := B) hj
  have c2 := blk2 (B := B) hj
  by_cases e2 : B * (2 * 2 ^ s) + j + 2 ^ s = p
  · rw [if_pos e2, ← e2, show B * (2 * 2 ^ s) + j + 2 ^ s = B * (2 * 2 ^ s) + 2 ^ s + j by omega, c2.1, c2.2, if_pos (by omega), st2]
    generalize stage k w a s (B * (2 * 2 ^ s) + 2 ^ s + j) = x
    generalize (w ^ 2 ^ (k - s - 1)) ^ j = y
    grind
  · rw [if_neg e2]
    by_cases e1 : B * (2 * 2 ^ s) + j = p
    · rw [if_pos e1, ← e1, c1.1, c1.2, if_pos (by omega), st1]
      generalize stage k w a s (B * (2 * 2 ^ s) + 2 ^ s + j) = x
      generalize (w ^ 2 ^ (k - s - 1)) ^ j = y
      grind
    · rw [if_neg e1]
      have hne : ¬ (p / (2 * 2 ^ s) = B ∧ p % 2 ^ s = j) := fun h => by
        rcases blkp hj h with h | h <;> omega
      generalize p / (2 * 2 ^ s) = q at *
      generalize p % 2 ^ s = r at *
      by_cases h1 : q < B ∨ (q = B ∧ r < j)
      · rw [if_pos h1, if_pos (by omega)]
      · rw [if_neg h1, if_neg (by omega)]
/-- the list put in its order, place by place -/
@[irreducible] def orL (k : Nat) (a : Nat → F) (m : Nat) : List F := (List.range (2 ^ k)).map fun p => if rev k p < m then a (rev k p) else 0
theorem orL_len (k : Nat) (a : Nat → F) (m : Nat) : (orL k a m).length = 2 ^ k := by unfold orL; simp
theorem orL_zero (k : Nat) (a : Nat → F) : orL k a 0 = List.replicate (2 ^ k) 0 := by
  unfold orL
  rw [List.map_congr_left (g := fun _ => (0 : F)) (fun p _ => by rw [if_neg (by omega)])]
  apply List.eq_replicate_iff.2
  exact ⟨by simp, fun x hx => by obtain ⟨_, _, rfl⟩ := List.mem_map.1 hx; rfl⟩
theorem orL_full (k : Nat) (w : F) (a : Nat → F) : orL k a (2 ^ k) = stL k w a 0 := by
  unfold orL stL
  exact List.map_congr_left (fun p _ => by rw [if_pos (rev_lt k p), stage_zero])
theorem orL_step (k : Nat) (a : Nat → F) {m : Nat} (hm : m < 2 ^ k) : (orL k a m).set (rev k m) (a m) = orL k a (m + 1) := by
  refine ext_cf (by rw [List.length_set, orL_len, orL_len]) (fun p hp => ?_)
  rw [List.length_set, orL_len] at hp
  have hr := rev_lt k m
  rw [cf_set _ _ _ _ (by rw [orL_len]; exact hr)]
  have e : ∀ m, cf (orL k a m) p = if rev k p < m then a (rev k p) else 0 := fun m => by unfold orL; exact cf_ofFn _ hp
  rw [e, e]
  by_cases h : rev k m = p
  · rw [if_pos h, ← h, rev_rev k m hm, if_pos (by omega)]
  · have : rev k p ≠ m := fun h2 => h (by rw [← h2]; exact rev_rev k p hp)
    rw [if_neg h]
    by_cases h3 : rev k p < m
    · rw [if_pos h3, if_pos (by omega)]
    · rw [if_neg h3, if_neg (by omega)]
/-- the order itself -/
@[irreducible] def reL (k m : Nat) : List Int := (List.range (2 ^ k)).map fun p => if p < m then (rev k p : Int) else 0
theorem reL_zero (k : Nat) : reL k 0 = List.replicate (2 ^ k) 0 := by
  unfold reL
  rw [List.map_congr_left (g := fun _ => (0 : Int)) (fun p _ => by rw [if_neg (by omega)])]
  apply List.eq_replicate_iff.2
  exact ⟨by simp, fun x hx => by obtain ⟨_, _, rfl⟩ := List.mem_map.1 hx; rfl⟩
theorem reL_len (k m : Nat) : (reL k m).length = 2 ^ k := by unfold reL; simp
theorem gd_reL (k m : Nat) {p : Nat} (hp : p < 2 ^ k) : gd (reL k m) p = if p < m then (rev k p : Int) else 0 := by
  unfold reL
  rw [gd_eq, List.getElem?_map, List.getElem?_range hp]; rfl
theorem reL_step (k m : Nat) : (reL k m).set m (rev k m : Int) = reL k (m + 1) := by
  apply List.ext_getElem?
  intro i
  unfold reL
  rw [List.getElem?_set, List.getElem?_map, List.getElem?_map]
  by_cases h : m = i
  · subst h
    rw [if_pos rfl]
    by_cases hm : m < 2 ^ k
    · rw [if_pos (by simpa using hm), List.getElem?_range hm]
      simp
    · rw [if_neg (by simpa using hm), List.getElem?_eq_none (by simp; omega)]; rfl
  · rw [if_neg h]
    by_cases hi : i < 2 ^ k
    · rw [List.getElem?_range hi]
      simp only [Option.map_some]
      by_cases h2 : i < m
      · rw [if_pos h2, if_pos (by omega)]
      · rw [if_neg h2, if_neg (by omega)]
    · rw [List.getElem?_eq_none (by simp; omega)]; rfl
end Go.Proofs.YtdhmmllpldjkbaaGreatDoor.Gm
/- (Tz) -/
namespace Go.Proofs.YtdhmmllpldjkbaaGreatDoor.Gm
open Go.RowKit
set_option linter.unusedVariables false
/-- the table lies in its variable -/
def Tb (w : World) : Prop := ∀ j, j < 64 → w.cell? ⟨5, j, none⟩ = some (.int .u8 ((Lib.deBruijn64tab.getD j 0 : Nat) : Int))
theorem Tb.below {w w' : World} (h : Tb w) (hb : Below w.heap.size w w') : Tb w' := fun j hj =>
  (hb.cell (p := ⟨5, j, none⟩) (World.block_lt_of_cell? w _ (h j hj))).trans (h j hj)
theorem Tb.drewN {w : World} (h : Tb w) (n : Nat) : Tb (w.drewN n) := h
theorem tz_key (x a : Nat) (hx : x < 18446744073709551616) (hx0 : x ≠ 0) (hlow : x &&& (18446744073709551616 - x) = a) :
    IntKind.u64.wrap (bits BinOp.and IntKind.u64 (x : Int) (IntKind.u64.wrap (-(x : Int))) * 285870213051353865) / 288230376151711744 = ((a * 285870213051353865 % 18446744073709551616 / 288230376151711744 : Nat) : Int) := by
  have e1 : IntKind.u64.wrap (-(x : Int)) = ((18446744073709551616 - x : Nat) : Int) := by rw [IntKind.wrap_u64]; omega
  rw [e1, bits_and_u64_nat x _ hx (by omega), hlow, IntKind.wrap_u64]
  omega
theorem tz64_core (x k idx : Nat) (w : World) (hx0 : ((x : Int) == 0) = false)
    (key : IntKind.u64.wrap (bits BinOp.and IntKind.u64 (x : Int) (IntKind.u64.wrap (-(x : Int))) * 285870213051353865) / 288230376151711744 = (idx : Int))
    (hi : idx < 64) (hk : k < 64) (hcell : w.cell? ⟨5, idx, none⟩ = some (.int .u8 k)) :
    Calls Tryz.prog 131 #[.int .u64 x] w fun e w' => e = .returned (.int .i64 k) ∧ w = w' := by
  go_enter Tryz.func131, Tryz.ntmps131
  go_wp2_with (simp only [key])
  go_ret
  exact ⟨rfl, rfl⟩
theorem tz_zero (w : World) : Calls Tryz.prog 115 #[.int .u64 0] w fun e w' => e = .returned (.int .i64 64) ∧ w = w' := by
  have h : Calls Tryz.prog 131 #[.int .u64 0] w fun e w' => e = .returned (.int .i64 64) ∧ w = w' := by
    go_enter Tryz.func131, Tryz.ntmps131
    go_wp2
    go_ret
    exact ⟨rfl, rfl⟩
  go_enter Tryz.func115, Tryz.ntmps115
  go_wp2_with fail
  refine h.mono ?_
  rintro e w' ⟨rfl, rfl⟩
  go_wp2
  go_ret
  exact ⟨rfl, rfl⟩
theorem tz_any (x : Nat) (hx : x < 18446744073709551616) (hx0 : x ≠ 0) (w : World) (hT : Tb w) :
    Calls Tryz.prog 115 #[.int .u64 x] w fun e w' => e = .returned (.int .i64 (Lib.ctz 64 x)) ∧ w = w' := by
  obtain ⟨hlow, hk⟩ := Lib.lowest_bit 64 x hx0 hx
  obtain ⟨hi, htab⟩ := Lib.deBruijn64_at _ hk
  have hcell := hT _ hi
  rw [htab] at hcell
  have h := tz64_core x _ _ w (by simp; omega) (tz_key x _ hx hx0 hlow) hi hk hcell
  have hw : IntKind.u64.wrap (x : Int) = (x : Int) := by rw [IntKind.wrap_u64]; omega
  generalize Lib.ctz 64 x = c at *
  clear hlow hk hi htab hcell
  go_enter Tryz.func115, Tryz.ntmps115
  go_wp2_with fail
  refine h.mono ?_
  rintro e w' ⟨rfl, rfl⟩
  go_wp2
  go_ret
  exact ⟨rfl, rfl⟩
theorem ctz_pow {c k m : Nat} (h : 2 ^ k = 2 ^ c * (2 * m + 1)) : c = k := by
  have hc : c ≤ k := by
    rcases Nat.lt_or_ge k c with h1 | h1
    · have h2 := Nat.pow_lt_pow_right (show 1 < 2 by omega) h1
      have h3 := Nat.le_mul_of_pos_right (2 ^ c) (show 0 < 2 * m + 1 by omega)
      omega
    · exact h1
  obtain ⟨d, rfl⟩ := Nat.exists_eq_add_of_le hc
  rw [Nat.pow_add] at h
  have h2 := Nat.eq_of_mul_eq_mul_left (Nat.two_pow_pos c) h
  cases d with
  | zero => rfl
  | succ d => rw [Nat.pow_succ] at h2; omega
/-- what ntt.log answers -/
def NLog (n : Nat) (e : Ending) : Prop := (∃ k : Nat, k ≤ 10 ∧ n = 2 ^ k ∧ e = .returned (.tuple #[.int .i64 k, .bool true])) ∨ ((∀ k : Nat, k ≤ 10 → n ≠ 2 ^ k) ∧ ∃ z : Int, e = .returned (.tuple #[.int .i64 z, .bool false]))
set_option maxHeartbeats 1000000 in
theorem nlog_any (n : Nat) (w : World) (hn : n ≤ 9223372036854775807) (hT : Tb w) :
    Calls Tryz.prog 97 #[.int .i64 n] w fun e w' => NLog n e ∧ Below w.heap.size w w' := by
  by_cases h0 : n = 0
  · subst h0
    have N := Lib.hid (fun (k : Nat) (_ : k ≤ 10) => (Nat.ne_of_gt (Nat.two_pow_pos k)).symm)
    go_enter Tryz.func97, Tryz.ntmps97
    go_wp2_with fail
    refine (tz_zero _).mono ?_
    rintro e w' ⟨rfl, rfl⟩
    go_wp2
    go_region
    go_wp2
    go_ret2
    exact ⟨.inr ⟨N.out, _, rfl⟩, below_drewN (Below.refl _ _) _⟩
  · have hz := Lib.ctzFrom_spec 64 n (by omega) (by omega)
    have ec : Lib.ctz 64 n = Lib.ctzFrom 64 n := by simp [Lib.ctz, h0]
    have ht := tz_any n (by omega) h0 w hT
    rw [ec] at ht
    generalize Lib.ctzFrom 64 n = c at *
    obtain ⟨m, hm, hc⟩ := hz
    have hw : IntKind.u64.wrap (n : Int) = (n : Int) := by rw [IntKind.wrap_u64]; omega
    have NO := Lib.hid (show (c > 10 ∨ n ≠ 2 ^ c) → ∀ k : Nat, k ≤ 10 → n ≠ 2 ^ k from fun h k hk e => by
      have := ctz_pow (e.symm.trans hm)
      subst this
      rcases h with h | h
      · omega
      · exact h e)
    have YES := Lib.hid (fun (h : c ≤ 10) (e : n = 2 ^ c) => (show NLog n (.returned (.tuple #[.int .i64 c, .bool true])) from .inl ⟨c, h, e, rfl⟩))
    have HT := Lib.hid ht
    clear ht hm ec
    have hn0 : (n : Int) > 0 := by omega
    have hnp : 0 < n := by omega
    by_cases hc10 : c ≤ 10
    · have hcc : (c : Int) ≤ 10 := by omega
      have e1 := wrap_two c (by omega)
      have e2 : IntKind.i64.wrap (1 * 2 ^ c) = ((2 ^ c : Nat) : Int) := by rw [Int.one_mul]; exact e1
      by_cases he : n = 2 ^ c
      · have FIN := Lib.hid (YES.out hc10 he)
        have hb : ((n : Int) == ((2 ^ c : Nat) : Int)) = true := by rw [← he]; simp
        generalize ((2 ^ c : Nat) : Int) = p at *
        clear he YES NO
        go_enter Tryz.func97, Tryz.ntmps97
        go_wp2_with fail
        refine HT.out.mono ?_
        rintro e w' ⟨rfl, rfl⟩
        go_wp2
        go_quiet (fail)
        go_wp2
        go_ret2
        exact ⟨FIN.out, below_drewN (Below.refl _ _) _⟩
      · have FIN := Lib.hid (NO.out (.inr he))
        have hb : ((n : Int) == ((2 ^ c : Nat) : Int)) = false := by
          rw [beq_eq_false_iff_ne]; intro h; exact he (by omega)
        generalize ((2 ^ c : Nat) : Int) = p at *
        clear he YES NO
        go_enter Tryz.func97, Tryz.ntmps97
        go_wp2_with fail
        refine HT.out.mono ?_
        rintro e w' ⟨rfl, rfl⟩
        go_wp2
        go_quiet (fail)
        go_wp2
        go_ret2
        exact ⟨.inr ⟨FIN.out, _, rfl⟩, below_drewN (Below.refl _ _) _⟩
    · have FIN := Lib.hid (NO.out (.inl (by omega)))
      have hcd : decide ((c : Int) ≤ 10) = false := by rw [decide_eq_false_iff_not]; omega
      have hcd2 : decide (c ≤ 10) = false := by rw [decide_eq_false_iff_not]; omega
      clear YES NO
      go_enter Tryz.func97, Tryz.ntmps97
      go_wp2_with fail
      refine HT.out.mono ?_
      rintro e w' ⟨rfl, rfl⟩
      go_wp2
      go_quiet (fail)
      go_wp2
      go_ret2
      exact ⟨.inr ⟨FIN.out, _, rfl⟩, below_drewN (Below.refl _ _) _⟩
theorem nlog_pow (k : Nat) (n : Nat) (w : World) (hk : k ≤ 10) (hn : n = 2 ^ k) (hT : Tb w) :
    Calls Tryz.prog 97 #[.int .i64 n] w fun e w' => e = .returned (.tuple #[.int .i64 k, .bool true]) ∧ Below w.heap.size w w' := by
  have h1 : 2 ^ k ≤ 2 ^ 10 := Nat.pow_le_pow_right (by omega) hk
  refine (nlog_any n w (by omega) hT).mono ?_
  rintro e w' ⟨⟨j, hj, he, rfl⟩ | ⟨hno, _⟩, hb⟩
  · obtain rfl : k = j := (Nat.pow_right_inj (by omega)).1 (hn.symm.trans he)
    exact ⟨rfl, hb⟩
  · exact absurd hn (hno k hk)
def stp (d m x : Int) : Int := bits BinOp.or IntKind.u64 (bits BinOp.and IntKind.u64 (x / d) m) (IntKind.u64.wrap (bits BinOp.and IntKind.u64 x m * d))
def hlf (x : Int) : Int := bits BinOp.or IntKind.u64 (x / 4294967296) (IntKind.u64.wrap (x * 4294967296))
def rb64 (x : Int) : Int := hlf (stp 65536 281470681808895 (stp 256 71777214294589695 x))
def r64 (x : Int) : Int := rb64 (stp 16 1085102592571150095 (stp 4 3689348814741910323 (stp 2 6148914691236517205 x)))
theorem r64_rev : ∀ k : Fin 11, ∀ i : Fin 1024, i.val < 2 ^ k.val → r64 (i.val : Int) / ((2 ^ (64 - k.val) : Nat) : Int) = (rev k.val i.val : Int) := by decide +kernel
theorem rev64_any (n : Int) (w : World) : Calls Tryz.prog 132 #[.int .u64 n] w fun e w' => e = .returned (.int .u64 (r64 n)) ∧ w = w' := by
  have h : ∀ x : Int, Calls Tryz.prog 147 #[.int .u64 x] w fun e w' => e = .returned (.int .u64 (rb64 x)) ∧ w = w' := by
    intro x
    go_enter Tryz.func147, Tryz.ntmps147
    go_wp2
    go_ret
    exact ⟨rfl, rfl⟩
  go_enter Tryz.func132, Tryz.ntmps132
  go_wp2_with fail
  refine (h _).mono ?_
  rintro e w' ⟨rfl, rfl⟩
  go_wp2
  go_ret
  exact ⟨rfl, rfl⟩
end Go.Proofs.YtdhmmllpldjkbaaGreatDoor.Gm
/- (Nu) -/
namespace Go.Proofs.YtdhmmllpldjkbaaGreatDoor.Gm
open Go.RowKit
set_option linter.unusedVariables false
/-- a call's end: a list of integers of its own, an error's number -/
def RetIE (w : World) (l : List Int) (n : Int) (e : Ending) (w' : World) : Prop := ∃ v, e = .returned (.tuple #[v, .int .i64 n]) ∧ Oz .i64 3 w.heap.size w' v l ∧ Below w.heap.size w w'
theorem order_bad (z : Int) (w : World) (h : z < 0 ∨ 10 < z) : Calls Tryz.prog 116 #[.int .i64 z] w (RetIE w [] 1) := by
  rcases (show z < 0 ∨ (0 ≤ z ∧ 10 < z) by omega) with h1 | ⟨h1, h2⟩
  all_goals
    clear h
    go_enter Tryz.func116, Tryz.ntmps116
    go_wp2
    go_ret2
    exact ⟨_, rfl, Oz.nil _ _ _ _, Below.refl _ _⟩
def OrRel (w : World) (k g n : Nat) (i : Value) (wr : World) : Prop :=
  ∃ m : Nat, m ≤ n ∧ i = .int .i64 m ∧ Oz .i64 3 w.heap.size wr (.slice (some ⟨g, 0, none⟩) n n) (reL k m) ∧ Below w.heap.size w wr
set_option maxHeartbeats 2000000 in
set_option maxRecDepth 100000 in
theorem order_any (k : Nat) (z : Int) (w : World) (hk : k ≤ 10) (hz : z = k) : Calls Tryz.prog 116 #[.int .i64 z] w (RetIE w (reL k (2 ^ k)) 0) := by
  subst hz
  obtain ⟨n, hn⟩ : ∃ n, n = 2 ^ k := ⟨_, rfl⟩
  have hk2 : 2 ^ k ≤ 2 ^ 10 := Nat.pow_le_pow_right (by omega) hk
  have hn1 : n ≤ 1024 := by omega
  have hn0 : 1 ≤ n := by rw [hn]; exact Nat.two_pow_pos k
  have HL := Lib.hid (fun m => (reL_len k m).trans hn.symm)
  have HS := Lib.hid (fun m => reL_step k m)
  have HZ := Lib.hid (show List.replicate n 0 = reL k 0 by rw [reL_zero, hn])
  have HR := Lib.hid (show ∀ m, m < n → r64 (m : Int) / ((2 ^ (64 - k) : Nat) : Int) = (rev k m : Int) ∧ rev k m < 1024 from fun m hm => ⟨r64_rev ⟨k, by omega⟩ ⟨m, by omega⟩ (by rw [← hn]; exact hm), by have := rev_lt k m; omega⟩)
  have e2 : IntKind.i64.wrap (1 * 2 ^ k) = (n : Int) := by rw [Int.one_mul, hn]; exact wrap_two k (by omega)
  have e3 : IntKind.i64.wrap (2 ^ k) = (n : Int) := by rw [hn]; exact wrap_two k (by omega)
  have hnm : n ≤ 1000000 := by omega
  obtain ⟨c, hc⟩ : ∃ c, c = 64 - k := ⟨_, rfl⟩
  have hcc : (64 : Int) - (k : Int) = (c : Int) := by omega
  rw [← hc] at HR
  rw [← hn]
  clear hn hk2 hc
  go_enter Tryz.func116, Tryz.ntmps116
  go_wp2_with (refine wl_make_int _ rfl (.tmp 13) (.tmp 13) rfl w.heap.size _ _ n w rfl rfl rfl rfl hnm (Below.refl _ _) (Nat.le_refl _) ?_)
  intro g w1 _ hown1 hbel1
  have O1 := Lib.hid hown1
  have B1 := Lib.hid hbel1
  clear hown1 hbel1
  go_wp2
  go_loopw [5, 17] (fun _ i wr => OrRel w k g n i wr) (fun _ i _ => n - (intOf i).toNat)
  case atStart => exact ⟨0, by omega, rfl, by rw [← HZ.out]; exact O1.out, B1.out⟩
  case round =>
    obtain ⟨m, hm, rfl, hown, hbel⟩ := hrel
    have OO := Lib.hid hown
    have HB := Lib.hid hbel
    clear hown hbel
    by_cases hml : m < n
    · have hrv := HR.out m hml
      have ew := wrap_nat (n := rev k m) (by omega)
      have HSm := Lib.hid (HS.out m)
      have HLm := Lib.hid (HL.out m)
      clear HR
      generalize rev k m = y at *
      have hrv1 := hrv.1
      have ey : (y : Int) < 1024 := by omega
      have e5 : ((2 : Int) ^ c) = ((2 ^ c : Nat) : Int) := by rw [Int.natCast_pow]; rfl
      rw [← e5] at hrv1
      have ew2 : wrap64 (y : Int) = (y : Int) := by unfold wrap64; omega
      clear hrv e5
      go_wp2_with fail
      refine (rev64_any _ _).mono ?_
      rintro e w' ⟨rfl, rfl⟩
      generalize r64 (m : Int) = r at *
      go_wp2_with (refine wl_storeZ .i64 3 _ rfl (.tmp 29) (.tmp 28) (fun _ => rfl) rfl w.heap.size g m n n (reL k m) y w rfl rfl OO.out HLm.out hml HB.out ?_)
      intro w3 hown3 hbel3 _
      rw [HSm.out] at hown3
      have O3 := Lib.hid hown3
      have B3 := Lib.hid hbel3
      clear hown3 hbel3
      go_wp2
      go_roundw
      case rel => exact ⟨m + 1, by omega, by go_num, O3.out, B3.out⟩
      case measure => simp [intOf] <;> omega
    · obtain rfl : m = n := by omega
      go_wp2
      go_ret2
      exact ⟨_, rfl, OO.out, HB.out⟩
def TnA (w : World) (k n g b2 off2 cap2 B2 : Nat) (a : Nat → F) (i : Value) (wr : World) : Prop :=
  ∃ m : Nat, m ≤ n ∧ i = .int .i64 m ∧ Ow w.heap.size wr (.slice (some ⟨g, 0, none⟩) n n) (orL k a m) ∧ Oz .i64 3 B2 wr (.slice (some ⟨b2, off2, none⟩) n cap2) (reL k (2 ^ k)) ∧ Below w.heap.size w wr
/-- cell of an own list that is not written from its block's beginning -/
theorem Oz.cell_at {k : IntKind} {te : TypeId} {B b off n cap : Nat} {w : World} {l : List Int} (h : Oz k te B w (.slice (some ⟨b, off, none⟩) n cap) l) {i : Nat} (hi : i < l.length) : w.cell? ⟨b, off + i, none⟩ = some (.int k (gd l i)) := by
  obtain ⟨a, c, b', off', e, _, _, hx, hc⟩ := h.rd.opened
  injection e with e1 e2 e3
  rcases hx with hx | hx
  · omega
  · rw [← e1] at hx
    injection hx with hx
    injection hx with h1 h2
    subst h1 h2
    exact hc i hi
def TnB (w : World) (k n g : Nat) (r : F) (a : Nat → F) (half : Value) (wr : World) : Prop :=
  ∃ s h : Nat, s ≤ k ∧ h = 2 ^ s ∧ h ≤ n ∧ half = .int .i64 h ∧ Ow w.heap.size wr (.slice (some ⟨g, 0, none⟩) n n) (stL k r a s) ∧ Below w.heap.size w wr
def TnC (w : World) (k n g s h M : Nat) (r : F) (a : Nat → F) (at_ : Value) (wr : World) : Prop :=
  ∃ B : Nat, B ≤ M ∧ at_ = .int .i64 ((B * (2 * h) : Nat) : Int) ∧ Ow w.heap.size wr (.slice (some ⟨g, 0, none⟩) n n) (miL k r a s B 0) ∧ Below w.heap.size w wr
def TnD (w : World) (k n g s h B p0 : Nat) (r : F) (a : Nat → F) (y : F) (t i : Value) (wr : World) : Prop :=
  ∃ j q : Nat, j ≤ h ∧ q = p0 + j ∧ i = .int .i64 q ∧ t = .int .u64 (vl (y ^ j)) ∧ Ow w.heap.size wr (.slice (some ⟨g, 0, none⟩) n n) (miL k r a s B j) ∧ Below w.heap.size w wr
set_option maxHeartbeats 4000000 in
set_option maxRecDepth 100000 in
theorem turn_any (k : Nat) (zs : List Int) (v : Value) (r : F) (w : World) (h : Rd .u64 w v zs) (hz : B64 zs) (hk : k ≤ 10) (hl : zs.length = 2 ^ k) (hr : Rt r k) :
    Calls Tryz.prog 98 #[v, .int .i64 k, .int .u64 (vl r)] w (RetL w ((List.range (2 ^ k)).map (dft (2 ^ k) r (cf (zs.map toF))))) := by
  rw [← stL_last]
  obtain ⟨a, cap, b, off, rfl, hcap, hm, hx, hc⟩ := h.opened
  obtain ⟨n, hn⟩ : ∃ n, n = 2 ^ k := ⟨_, rfl⟩
  have hk2 : 2 ^ k ≤ 2 ^ 10 := Nat.pow_le_pow_right (by omega) hk
  have hn1 : n ≤ 1024 := by omega
  have hn0 : 1 ≤ n := by rw [hn]; exact Nat.two_pow_pos k
  have hnm : n ≤ 1000000 := by omega
  obtain ⟨fa, hfa⟩ : ∃ fa, fa = cf (zs.map toF) := ⟨_, rfl⟩
  have GA := Lib.hid (show ∀ i, fa i = toF (gd zs i) from fun i => by rw [hfa, cf_map])
  rw [← hfa]
  have HC := Lib.hid hc
  have hln : zs.length = n := by omega
  have HN := Lib.hid hn
  rw [hln] at hcap hx
  obtain rfl := hx.resolve_left (by omega)
  have ORL := Lib.hid (fun m => (orL_len k fa m).trans hn.symm)
  have ORZ := Lib.hid (show List.replicate n 0 = orL k fa 0 by rw [orL_zero, hn])
  have ORF := Lib.hid (show orL k fa n = stL k r fa 0 by rw [hn]; exact orL_full k r fa)
  have ORS := Lib.hid (show ∀ m, m < n → (orL k fa m).set (rev k m) (fa m) = orL k fa (m + 1) from fun m hm => orL_step k fa (by omega))
  have REL := Lib.hid (show ∀ m, m < n → gd (reL k (2 ^ k)) m = (rev k m : Int) ∧ rev k m < n from fun m hm => ⟨by rw [gd_reL _ _ (by omega), if_pos (by omega)], by have := rev_lt k m; omega⟩)
  have RLL := Lib.hid (show (reL k (2 ^ k)).length = n by rw [reL_len, hn])
  rw [hln]
  have HLN := Lib.hid hln
  clear hl hk2 hc h hfa hn hln
  go_enter Tryz.func98, Tryz.ntmps98
  go_wp2_with (refine wl_make _ rfl (.tmp 20) (.tmp 20) rfl w.heap.size _ _ n w rfl rfl rfl rfl hnm (Below.refl _ _) (Nat.le_refl _) ?_)
  intro g w1 _ hown1 hbel1
  have O1 := Lib.hid hown1
  have B1 := Lib.hid hbel1
  have hw1 := hbel1.size
  have hgw : g < w1.heap.size := hown1.base.2
  have hgB : w.heap.size ≤ g := hown1.base.1
  clear hown1 hbel1
  go_wp2_with fail
  refine (order_any k _ _ hk rfl).mono ?_
  rintro e w2 ⟨v2, rfl, hord, hbel2⟩
  have OR := Lib.hid hord
  have O2 := Lib.hid (O1.out.below hbel2)
  have B2 := Lib.hid (B1.out.trans (hbel2.mono hw1))
  obtain ⟨a2, cap2, b2, off2, e2, hcap2, hm2, hx2, hc2⟩ := hord.rd.opened
  rw [RLL.out] at e2 hcap2 hx2
  obtain rfl := hx2.resolve_left (by omega)
  subst e2
  have HC2 := Lib.hid hc2
  have hw2 := hbel2.size
  clear hc2 hord hbel2 O1 B1 hx2
  go_wp2
  go_loopw [10, 11, 29] (fun _ _ i wr => TnA w k n g b2 off2 cap2 w1.heap.size fa i wr) (fun _ _ i _ => n - (intOf i).toNat)
  case atStart => exact ⟨0, by omega, rfl, by rw [← ORZ.out]; exact O2.out, OR.out, B2.out⟩
  case round =>
    obtain ⟨m, hm1, rfl, hown, hord, hbel⟩ := hrel
    have OO := Lib.hid hown
    have OP := Lib.hid hord
    have HB := Lib.hid hbel
    have hwsz := hbel.size
    clear hown hord hbel
    by_cases hml : m < n
    · have hca := HC.out m (by rw [HLN.out]; exact hml)
      have hcw : wr.cell? ⟨b, off + m, none⟩ = some (.int .u64 (gd zs m)) := (HB.out.cell (p := ⟨b, off + m, none⟩) (World.block_lt_of_cell? _ _ hca)).trans hca
      have hco := OP.out.cell_at (i := m) (by rw [RLL.out]; exact hml)
      have hrm := REL.out m hml
      rw [hrm.1] at hco
      have hyn := hrm.2
      have hbz := hz.get m
      have SM := Lib.hid (ORS.out m hml)
      have LM := Lib.hid (ORL.out m)
      have GM := Lib.hid (GA.out m)
      rw [GM.out] at SM
      clear hrm hca
      generalize rev k m = y at *
      go_wp2_with fail
      refine (norm_any _ _ hbz.1 hbz.2).mono ?_
      rintro e w' ⟨rfl, rfl⟩
      go_wp2_with (refine wl_storeF _ rfl (.tmp 41) (.tmp 40) rfl w.heap.size g y n n (orL k fa m) (toF (gd zs m)) rfl rfl OO.out LM.out hyn ?_)
      intro w3 hown3 ho3 hs3
      rw [SM.out] at hown3
      have O3 := Lib.hid hown3
      have P3 := Lib.hid (OP.out.only ho3 (fun gg e eg => by
        have e1 : b2 = gg := by simpa [Value.ownBlock] using e
        have h1 := (OP.out.lt gg e).1
        omega))
      have B3 := Lib.hid (HB.out.trans (ho3.below hwsz (fun gg e => by omega)))
      clear hown3 ho3 hs3
      go_wp2
      go_roundw
      case rel => exact ⟨m + 1, by omega, by go_num, O3.out, P3.out, B3.out⟩
      case measure => simp [intOf] <;> omega
    · obtain rfl : n = m := by omega
      have O4 := OO.out
      rw [ORF.out] at O4
      have O4 := Lib.hid O4
      have hp0 : 2 ^ 0 ≤ n := by simpa using hn0
      clear OO OP OR O2 HC2 ORS REL RLL ORL ORZ ORF
      go_wp2
      go_loopw [12, 13, 14, 15, 16, 17, 18] (fun half _ _ _ _ _ _ wr => TnB w k n g r fa half wr) (fun half _ _ _ _ _ _ _ => n - (intOf half).toNat)
      case atStart => exact ⟨0, 1, by omega, rfl, hn0, rfl, O4.out, HB.out⟩
      case round =>
        obtain ⟨s, hf, hs, hh, hhn, rfl, hown, hbel⟩ := hrel
        have OO := Lib.hid hown
        have HB2 := Lib.hid hbel
        have HH := Lib.hid hh
        have h1 : 1 ≤ hf := by rw [hh]; exact Nat.two_pow_pos s
        clear hown hbel O4 HB
        by_cases hlt : hf < n
        · have hsk : s < k := by
            apply Classical.byContradiction
            intro hn'
            have : s = k := by omega
            subst this
            rw [hh, HN.out] at hlt
            omega
          obtain ⟨M, hM⟩ : ∃ M, M = 2 ^ (k - s - 1) := ⟨_, rfl⟩
          have hsp : n = M * (2 * hf) := by rw [HN.out, hM, hh]; exact pow_spl hsk
          have hM1 : 1 ≤ M := by rw [hM]; exact Nat.two_pow_pos _
          have hMn : M ≤ n := by rw [hsp]; exact Nat.le_mul_of_pos_right _ (by omega)
          have h2n : 2 * hf ≤ n := by rw [hsp]; exact Nat.le_mul_of_pos_left _ (by omega)
          have HM := Lib.hid hM
          obtain ⟨d, hd⟩ : ∃ d, d = 2 * hf := ⟨_, rfl⟩
          have e1 : IntKind.i64.wrap (2 * (hf : Int)) = (d : Int) := by rw [show 2 * (hf : Int) = ((2 * hf : Nat) : Int) by omega, hd]; exact wrap_nat (by omega)
          rw [← hd] at hsp h2n
          have e2 : (n : Int).tdiv (d : Int) = (M : Int) := by rw [nat_quo, hsp, Nat.mul_div_cancel _ (by omega)]
          have HD := Lib.hid hd
          have HSP := Lib.hid hsp
          have hd0 : ¬ d = 0 := by omega
          have e3 : IntKind.i64.wrap (M : Int) = (M : Int) := wrap_nat (by omega)
          have e4 : IntKind.u64.wrap (M : Int) = (M : Int) := IntWalk.u64_in _ (by omega)
          have hhi : (hf : Int) < (n : Int) := by omega
          have IN := Lib.hid (show ∀ B j : Nat, B < M → j < hf → cf (miL k r fa s B j) (B * (2 * hf) + j) = stage k r fa s (B * (2 * hf) + j) ∧ cf (miL k r fa s B j) (B * (2 * hf) + j + hf) = stage k r fa s (B * (2 * hf) + hf + j) ∧
              (((miL k r fa s B j).set (B * (2 * hf) + j) (stage k r fa s (B * (2 * hf) + j) + stage k r fa s (B * (2 * hf) + hf + j) * (r ^ M) ^ j)).set (B * (2 * hf) + j + hf)
                (stage k r fa s (B * (2 * hf) + j) - stage k r fa s (B * (2 * hf) + hf + j) * (r ^ M) ^ j)) = miL k r fa s B (j + 1) from fun B j hB hj => by
            rw [hM] at hB ⊢
            rw [hh] at hj ⊢
            exact ⟨miL_at1 k r fa hsk hB hj, miL_at2 k r fa hsk hB hj, miL_step hr fa hsk hB hj⟩)
          have ML := Lib.hid (fun B j => (miL_len k r fa s B j).trans HN.out.symm)
          have MS := Lib.hid (miL_start k r fa s)
          have MN := Lib.hid (fun B => (show miL k r fa s B hf = miL k r fa s (B + 1) 0 from by rw [hh]; exact miL_next k r fa s B))
          have MD := Lib.hid (show miL k r fa s M 0 = stL k r fa (s + 1) from by rw [hM]; exact miL_done k r fa hsk)
          have PB := Lib.hid (show ∀ B : Nat, B < M → B * (2 * hf) + d ≤ n from fun B hB => by
            have := Nat.mul_le_mul_right d (show B + 1 ≤ M from hB)
            rw [Nat.add_mul, Nat.one_mul] at this
            rw [hsp, ← hd]
            exact this)
          have HH2 := Lib.hid (show d = 2 ^ (s + 1) by rw [hd, hh, Nat.pow_succ, Nat.mul_comm])
          clear hh hM hd hsp
          go_wp2_with fail
          refine (pow_any (vl r) M _ (vl_lo _) (vl_64 _) (by omega)).mono ?_
          rintro e w' ⟨rfl, rfl⟩
          rw [toF_vl]
          generalize r ^ M = y at *
          go_wp2
          go_loopw [14, 15, 16, 17, 18] (fun at_ _ _ _ _ wr => TnC w k n g s hf M r fa at_ wr) (fun at_ _ _ _ _ _ => n - (intOf at_).toNat)
          case atStart => exact ⟨0, by omega, by rw [Nat.zero_mul]; rfl, by rw [MS.out]; exact OO.out, HB2.out⟩
          case round =>
            obtain ⟨B, hB, rfl, hown, hbel⟩ := hrel
            have O5 := Lib.hid hown
            have B5 := Lib.hid hbel
            clear hown hbel OO HB2
            by_cases hBM : B < M
            · have hpb := PB.out B hBM
              have INB := Lib.hid (fun j hj => IN.out B j hBM hj)
              have EP := Lib.hid (show ((B + 1) * (2 * hf) : Nat) = B * (2 * hf) + d by rw [Nat.add_mul, Nat.one_mul, HD.out])
              clear IN PB
              generalize B * (2 * hf) = p0 at *
              have hp0n : p0 < n := by omega
              have hdh : d = 2 * hf := HD.out
              have hph : p0 + 2 * hf ≤ n := by omega
              clear hdh
              have e7 : IntKind.i64.wrap ((p0 : Int) + (hf : Int)) = (p0 : Int) + (hf : Int) := IntWalk.i64_in _ (by omega)
              go_wp2
              go_loopw [15, 16, 17, 18] (fun t i _ _ wr => TnD w k n g s hf B p0 r fa y t i wr) (fun _ i _ _ _ => p0 + hf - (intOf i).toNat)
              case atStart => exact ⟨0, p0, by omega, by omega, rfl, by rw [pow_zero, vl_one], O5.out, B5.out⟩
              case round =>
                obtain ⟨j, q, hj, hq, rfl, rfl, hown, hbel⟩ := hrel
                have O6 := Lib.hid hown
                have B6 := Lib.hid hbel
                have hwsz := hbel.size
                clear hown hbel O5 B5
                by_cases hjh : j < hf
                · obtain ⟨i1, i2, i3⟩ := INB.out j hjh
                  have LL := ML.out B j
                  rw [← hq] at i1 i2 i3
                  have hq2 : p0 + hf + j = q + hf := by omega
                  rw [hq2] at i2 i3
                  have hqh : q + hf < n := by omega
                  obtain ⟨q2, hq2⟩ : ∃ q2, q2 = q + hf := ⟨_, rfl⟩
                  have c1 : wr.cell? ⟨g, q, none⟩ = some (.int .u64 (vl (stage k r fa s q))) := by
                    rw [← i1]; exact Ow.cell (l := miL k r fa s B j) (cap := n) (by rw [LL]; exact O6.out) (by rw [LL]; omega)
                  have c2 : wr.cell? ⟨g, q2, none⟩ = some (.int .u64 (vl (stage k r fa s q2))) := by
                    rw [hq2, ← i2]; exact Ow.cell (l := miL k r fa s B j) (cap := n) (by rw [LL]; exact O6.out) (by rw [LL]; omega)
                  rw [← hq2] at i3
                  have LM := Lib.hid LL
                  have IS := Lib.hid i3
                  have ek : ((q : Int) + (hf : Int)).toNat = q2 := by omega
                  have ek2 : (q : Int) + (hf : Int) < (n : Int) := by omega
                  have ek3 : (0 : Int) ≤ (q : Int) + (hf : Int) := by omega
                  have ew : IntKind.i64.wrap ((q : Int) + (hf : Int)) = (q : Int) + (hf : Int) := IntWalk.i64_in _ (by omega)
                  have eq1 : (q : Int) < (p0 : Int) + (hf : Int) := by omega
                  have eqn : q < n := by omega
                  have eq2n : q2 < n := by omega
                  have HQ := Lib.hid hq
                  have HQ2 := Lib.hid hq2
                  clear i1 i2 i3 LL hq hq2
                  generalize stage k r fa s q = X at *
                  generalize stage k r fa s q2 = Y at *
                  go_wp2
                  go_quiet ((first | (go_at_call 66; exact q_same (mul_F Y (y ^ j) _))))
                  go_wp2_with fail
                  refine (add_F X (Y * y ^ j) _).mono ?_
                  rintro e w' ⟨rfl, rfl⟩
                  go_wp2_with fail
                  refine (sub_F X (Y * y ^ j) _).mono ?_
                  rintro e w' ⟨rfl, rfl⟩
                  have O7 := Lib.hid (O6.out.drewN nq)
                  have B7 := Lib.hid (below_drewN B6.out nq)
                  go_wp2_with (refine wl_storeF _ rfl (.tmp 97) (.tmp 93) rfl w.heap.size g q n n (miL k r fa s B j) (X + Y * y ^ j) rfl rfl O7.out LM.out eqn ?_)
                  intro w5 hown5 ho5 hs5
                  have O8 := Lib.hid hown5
                  have hsz7 := B7.out.size
                  have B8 := Lib.hid (B7.out.trans (ho5.below hsz7 (fun gg e => by omega)))
                  have hsz8 := B8.out.size
                  clear hown5 ho5 hs5 c1 c2
                  go_wp2_with (refine wl_storeF _ rfl (.tmp 98) (.tmp 96) rfl w.heap.size g q2 n n ((miL k r fa s B j).set q (X + Y * y ^ j)) (X - Y * y ^ j) rfl rfl O8.out (by rw [List.length_set]; exact LM.out) eq2n ?_)
                  intro w6 hown6 ho6 hs6
                  rw [IS.out] at hown6
                  have O9 := Lib.hid hown6
                  have B9 := Lib.hid (B8.out.trans (ho6.below hsz8 (fun gg e => by omega)))
                  clear hown6 ho6 hs6
                  go_wp2_with fail
                  refine (mul_F (y ^ j) y _).mono ?_
                  rintro e w' ⟨rfl, rfl⟩
                  rw [← pow_succ]
                  go_wp2
                  go_roundw
                  case rel => exact ⟨j + 1, q + 1, by omega, by have := HQ.out; omega, by go_num, rfl, O9.out, B9.out⟩
                  case measure => have := HQ.out; simp [intOf] <;> omega
                · obtain rfl : hf = j := by omega
                  rw [MN.out] at O6
                  have hnq : ¬ ((q : Int) < (p0 : Int) + (hf : Int)) := by omega
                  have hnq2 : (p0 : Int) + (hf : Int) ≤ (q : Int) := by omega
                  have HQ := Lib.hid hq
                  have e8 : IntKind.i64.wrap ((p0 : Int) + (d : Int)) = (p0 : Int) + (d : Int) := IntWalk.i64_in _ (by omega)
                  clear hq
                  go_wp2
                  go_roundw
                  case rel => exact ⟨B + 1, by omega, by rw [EP.out]; go_num, O6.out, B6.out⟩
                  case measure => have := HD.out; simp [intOf] <;> omega
            · obtain rfl : M = B := by omega
              rw [MD.out] at O5
              have hge : ((M * (2 * hf) : Nat) : Int) = (n : Int) := by rw [← HD.out, ← HSP.out]
              rw [hge]
              have e9 : IntKind.i64.wrap ((hf : Int) * 2) = (d : Int) := by rw [Int.mul_comm]; exact e1
              clear hge
              go_wp2
              go_roundw
              case rel => exact ⟨s + 1, d, by omega, HH2.out, h2n, by go_num, O5.out, B5.out⟩
              case measure => have := HD.out; simp [intOf] <;> omega
        · have hsk : s = k := by
            apply Classical.byContradiction
            intro hne
            have h2 := Nat.pow_lt_pow_right (show 1 < 2 by omega) (show s < k by omega)
            rw [← HH.out, ← HN.out] at h2
            omega
          obtain rfl : k = s := hsk.symm
          obtain rfl : n = hf := by omega
          clear hh
          go_wp2
          go_ret
          exact ⟨_, rfl, OO.out, HB2.out⟩
end Go.Proofs.YtdhmmllpldjkbaaGreatDoor.Gm
/- (Nv) -/
namespace Go.Proofs.YtdhmmllpldjkbaaGreatDoor.Gm
open Go.RowKit
set_option linter.unusedVariables false
theorem trL_fwd (k : Nat) (l : List F) : trL false k l = (List.range (2 ^ k)).map (dft (2 ^ k) (root k) (cf l)) := by
  unfold trL; exact List.map_congr_left (fun j _ => tr_fwd k _ j)
theorem nfwd_ok (k : Nat) (zs : List Int) (v : Value) (w : World) (h : Rd .u64 w v zs) (hz : B64 zs) (hk : k ≤ 10) (hl : zs.length = 2 ^ k) (hT : Tb w) :
    Calls Tryz.prog 60 #[v] w (RetLE w (trL false k (zs.map toF)) 0) := by
  rw [trL_fwd]
  have HR := Lib.hid h
  obtain ⟨a, cap, rfl, hcap, hm⟩ := h.shape
  have HL := Lib.hid hl
  clear h hl
  go_enter Tryz.func60, Tryz.ntmps60
  go_wp2_with fail
  refine (nlog_pow k _ _ hk HL.out hT).mono ?_
  rintro e w1 ⟨rfl, hb1⟩
  have B1 := Lib.hid hb1
  have hs1 := hb1.size
  clear hb1
  go_wp2_with fail
  refine (root_any k _ (by omega)).mono ?_
  rintro e w' ⟨rfl, rfl⟩
  go_wp2_with fail
  refine (turn_any k zs _ (root k) _ (HR.out.below B1.out) hz hk HL.out (rt_root k (by omega))).mono ?_
  rintro e w2 ⟨v2, rfl, ho, hb⟩
  have O2 := Lib.hid (ho.mono hs1)
  have B2 := Lib.hid (B1.out.trans (hb.mono hs1))
  clear ho hb
  go_wp2
  go_ret2
  exact ⟨_, rfl, O2.out, B2.out⟩
theorem nfwd_bad (zs : List Int) (v : Value) (w : World) (h : Rd .u64 w v zs) (hl : ∀ k : Nat, k ≤ 10 → zs.length ≠ 2 ^ k) (hT : Tb w) :
    Calls Tryz.prog 60 #[v] w (RetLE w [] 5) := by
  obtain ⟨a, cap, rfl, hcap, hm⟩ := h.shape
  have HL := Lib.hid hl
  clear h hl
  go_enter Tryz.func60, Tryz.ntmps60
  go_wp2_with fail
  refine (nlog_any _ _ (by omega) hT).mono ?_
  rintro e w1 ⟨⟨k, hk, he, rfl⟩ | ⟨_, z, rfl⟩, hb1⟩
  · exact absurd he (HL.out k hk)
  have B1 := Lib.hid hb1
  clear hb1
  go_wp2
  go_ret2
  exact ⟨_, rfl, Ow.nil _ _, B1.out⟩
/-- the first m numbers of a list times c -/
@[irreducible] def scl (l : List F) (c : F) (m : Nat) : List F := (List.range l.length).map fun p => if p < m then cf l p * c else cf l p
theorem scl_len (l : List F) (c : F) (m : Nat) : (scl l c m).length = l.length := by unfold scl; simp
theorem cf_scl (l : List F) (c : F) (m : Nat) {p : Nat} (hp : p < l.length) : cf (scl l c m) p = if p < m then cf l p * c else cf l p := by unfold scl; exact cf_ofFn _ hp
theorem scl_zero (l : List F) (c : F) : scl l c 0 = l := by
  refine ext_cf (scl_len _ _ _) (fun i hi => ?_)
  rw [scl_len] at hi
  rw [cf_scl _ _ _ hi, if_neg (by omega)]
theorem scl_step (l : List F) (c : F) {m : Nat} (hm : m < l.length) : (scl l c m).set m (cf (scl l c m) m * c) = scl l c (m + 1) := by
  refine ext_cf (by rw [List.length_set, scl_len, scl_len]) (fun p hp => ?_)
  rw [List.length_set, scl_len] at hp
  rw [cf_set _ _ _ _ (by rw [scl_len]; exact hm), cf_scl _ _ _ hp, cf_scl _ _ _ hp, cf_scl _ _ _ hm, if_neg (Nat.lt_irrefl m)]
  by_cases h : m = p
  · subst h; rw [if_pos rfl, if_pos (by omega)]
  · rw [if_neg h]
    by_cases h2 : p < m
    · rw [if_pos h2, if_pos (by omega)]
    · rw [if_neg h2, if_neg (by omega)]
theorem trL_inv (k : Nat) (l : List F) : scl ((List.range (2 ^ k)).map (dft (2 ^ k) (inv (root k)) (cf l))) (inv (cast (2 ^ k))) (2 ^ k) = trL true k l := by
  refine ext_cf (by rw [scl_len, trL_len]; simp) (fun i hi => ?_)
  rw [scl_len] at hi
  have hi' : i < 2 ^ k := by simpa using hi
  rw [cf_scl _ _ _ hi, if_pos hi', cf_trL _ _ _ hi', cf_ofFn _ hi', tr_inv]
  generalize inv (cast (2 ^ k)) = c
  grind
def InvRel (w : World) (n g cp : Nat) (l : List F) (c : F) (i : Value) (wr : World) : Prop :=
  ∃ m : Nat, m ≤ n ∧ i = .int .i64 m ∧ Ow w.heap.size wr (.slice (some ⟨g, 0, none⟩) n cp) (scl l c m) ∧ Below w.heap.size w wr
set_option maxHeartbeats 2000000 in
set_option maxRecDepth 100000 in
theorem ninv_abs (k : Nat) (zs : List Int) (v : Value) (w : World) (h : Rd .u64 w v zs) (hz : B64 zs) (hk : k ≤ 10) (hl : zs.length = 2 ^ k) (hT : Tb w) (r q c : F) (L : List F) (n : Nat) (hn : n = zs.length)
    (h1 : ∀ w, Calls Tryz.prog 35 #[.int .i64 k] w fun e w' => e = .returned (.tuple #[.int .u64 (vl r), .int .i64 0]) ∧ w = w')
    (h2 : ∀ w, Calls Tryz.prog 34 #[.int .u64 (vl r)] w fun e w' => e = .returned (.tuple #[.int .u64 (vl q), .int .i64 0]) ∧ w = w')
    (h3 : ∀ w, Calls Tryz.prog 34 #[.int .u64 (n : Int)] w fun e w' => e = .returned (.tuple #[.int .u64 (vl c), .int .i64 0]) ∧ w = w')
    (h4 : ∀ v w, Rd .u64 w v zs → Calls Tryz.prog 98 #[v, .int .i64 k, .int .u64 (vl q)] w (RetL w L)) (hL : L.length = n) :
    Calls Tryz.prog 61 #[v] w (RetLE w (scl L c n) 0) := by
  have hk2 : 2 ^ k ≤ 2 ^ 10 := Nat.pow_le_pow_right (by omega) hk
  have hk1 := Nat.two_pow_pos k
  have HR := Lib.hid h
  obtain ⟨a, cap, rfl, hcap, hm⟩ := h.shape
  have C1 := Lib.hid h1
  have C2 := Lib.hid h2
  have C3 := Lib.hid h3
  have C4 := Lib.hid h4
  have HL := Lib.hid hl
  have SL := Lib.hid (fun m => scl_len L c m)
  have SS := Lib.hid (fun m => scl_step L c (m := m))
  have SZ := Lib.hid (scl_zero L c)
  have hl1 : 1 ≤ n := by omega
  have hln : n ≤ 1024 := by omega
  have HT := Lib.hid hT
  have HNZ := Lib.hid hn
  have HN := Lib.hid hL.symm
  rw [← hn] at hcap ⊢
  have hn2 : n = 2 ^ k := by omega
  have CL := Lib.hid (fun w hT => nlog_pow k n w hk hn2 hT)
  have ew : IntKind.u64.wrap (n : Int) = (n : Int) := IntWalk.u64_in _ (by omega)
  clear h hl h1 h2 h3 h4 hL hk2 hk1 hT hn2 hn
  go_enter Tryz.func61, Tryz.ntmps61
  go_wp2_with fail
  refine (CL.out _ HT.out).mono ?_
  rintro e w1 ⟨rfl, hb1⟩
  have B1 := Lib.hid hb1
  have hs1 := hb1.size
  clear hb1
  go_wp2_with fail
  refine (C1.out _).mono ?_
  rintro e w' ⟨rfl, rfl⟩
  go_wp2_with fail
  refine (C2.out _).mono ?_
  rintro e w' ⟨rfl, rfl⟩
  go_wp2_with fail
  refine (C3.out _).mono ?_
  rintro e w' ⟨rfl, rfl⟩
  go_wp2_with fail
  refine (C4.out (.slice a n cap) _ (by have := HR.out.below B1.out; rw [HNZ.out]; exact this)).mono ?_
  rintro e w2 ⟨v2, rfl, ho, hb⟩
  obtain ⟨g, cp, rfl, hcp, hcm⟩ := ho.opened (by rw [← HN.out]; exact hl1)
  have O2 := ho.mono hs1
  rw [← HN.out] at O2 hcp
  rw [← SZ.out] at O2
  have O2 := Lib.hid O2
  have B2 := Lib.hid (B1.out.trans (hb.mono hs1))
  clear ho hb
  rw [← HN.out]
  go_wp2
  go_loopw [11, 43] (fun _ i wr => InvRel w n g cp L c i wr) (fun _ i _ => n - (intOf i).toNat)
  case atStart => exact ⟨0, by omega, rfl, O2.out, B2.out⟩
  case round =>
    obtain ⟨m, hm1, rfl, hown, hbel⟩ := hrel
    have OO := Lib.hid hown
    have HB := Lib.hid hbel
    have hwsz := hbel.size
    clear hown hbel
    by_cases hml : m < n
    · have LL := Lib.hid ((SL.out m).trans HN.out.symm)
      have hcl : wr.cell? ⟨g, m, none⟩ = some (.int .u64 (vl (cf (scl L c m) m))) := Ow.cell (l := scl L c m) (cap := cp) (by rw [LL.out]; exact OO.out) (by rw [LL.out]; omega)
      have SM := Lib.hid (SS.out m (by rw [← HN.out]; exact hml))
      generalize cf (scl L c m) m = X at *
      go_wp2_with fail
      refine (mul_F X c _).mono ?_
      rintro e w' ⟨rfl, rfl⟩
      go_wp2_with (refine wl_storeF _ rfl (.tmp 54) (.tmp 53) rfl w.heap.size g m n cp (scl L c m) (X * c) rfl rfl OO.out LL.out hml ?_)
      intro w3 hown3 ho3 hs3
      rw [SM.out] at hown3
      have hgB := OO.out.base.1
      have O3 := Lib.hid hown3
      have B3 := Lib.hid (HB.out.trans (ho3.below hwsz (fun gg e => by omega)))
      clear hown3 ho3 hs3
      go_wp2
      go_roundw
      case rel => exact ⟨m + 1, by omega, by go_num, O3.out, B3.out⟩
      case measure => simp [intOf] <;> omega
    · obtain rfl : n = m := by omega
      go_wp2
      go_ret2
      exact ⟨_, rfl, OO.out, HB.out⟩
theorem ninv_ok (k : Nat) (zs : List Int) (v : Value) (w : World) (h : Rd .u64 w v zs) (hz : B64 zs) (hk : k ≤ 10) (hl : zs.length = 2 ^ k) (hT : Tb w) :
    Calls Tryz.prog 61 #[v] w (RetLE w (trL true k (zs.map toF)) 0) := by
  have hk2 : 2 ^ k ≤ 2 ^ 10 := Nat.pow_le_pow_right (by omega) hk
  have hk1 := Nat.two_pow_pos k
  have CW : toF (zs.length : Int) = cast (2 ^ k) := by rw [cast_toF, hl]
  have hLL : ((List.range (2 ^ k)).map (dft (2 ^ k) (inv (root k)) (cf (zs.map toF)))).length = 2 ^ k := by simp
  have := ninv_abs k zs v w h hz hk hl hT (root k) (inv (root k)) (inv (cast (2 ^ k))) ((List.range (2 ^ k)).map (dft (2 ^ k) (inv (root k)) (cf (zs.map toF)))) zs.length rfl
    (fun w => root_any k w (by omega)) (fun w => by have := inv_any (vl (root k)) w (vl_lo _) (vl_64 _) (by rw [toF_vl]; exact root_ne k); rwa [toF_vl] at this)
    (fun w => by have := inv_any (zs.length : Int) w (by omega) (by omega) (by rw [CW]; exact cast_pow_ne hk); rwa [CW] at this)
    (fun v w h => turn_any k zs v (inv (root k)) w h hz hk hl (rt_inv (rt_root k (by omega)))) (by rw [hLL, hl])
  rw [hl, trL_inv] at this
  exact this
theorem ninv_bad (zs : List Int) (v : Value) (w : World) (h : Rd .u64 w v zs) (hl : ∀ k : Nat, k ≤ 10 → zs.length ≠ 2 ^ k) (hT : Tb w) :
    Calls Tryz.prog 61 #[v] w (RetLE w [] 5) := by
  obtain ⟨a, cap, rfl, hcap, hm⟩ := h.shape
  have HL := Lib.hid hl
  clear h hl
  go_enter Tryz.func61, Tryz.ntmps61
  go_wp2_with fail
  refine (nlog_any _ _ (by omega) hT).mono ?_
  rintro e w1 ⟨⟨k, hk, he, rfl⟩ | ⟨_, z, rfl⟩, hb1⟩
  · exact absurd he (HL.out k hk)
  have B1 := Lib.hid hb1
  clear hb1
  go_wp2
  go_ret2
  exact ⟨_, rfl, Ow.nil _ _, B1.out⟩
end Go.Proofs.YtdhmmllpldjkbaaGreatDoor.Gm
