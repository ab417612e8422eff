/- Plain: a run of workers, step by step. -/
import Derived.Test.YtcakeenfkdhedaaDoorGd
namespace Go.Proofs.YtcakeenfkdhedaaDoor.Gm
open Go.RowKit
set_option linter.unusedVariables false
/-- the queues, m tasks of a phase dealt -/
def dlR (W : Nat) (p : List T3) : Nat → List (List T3)
  | 0 => List.replicate W []
  | m + 1 => (dlR W p m).set (m % W) (pg (dlR W p m) (m % W) ++ [tg p m])
@[irreducible] def dl (W : Nat) (p : List T3) (m : Nat) : List (List T3) := dlR W p m
theorem dl_zero (W : Nat) (p : List T3) : dl W p 0 = List.replicate W [] := by unfold dl; rfl
theorem dl_succ (W : Nat) (p : List T3) (m : Nat) : dl W p (m + 1) = (dl W p m).set (m % W) (pg (dl W p m) (m % W) ++ [tg p m]) := by unfold dl; rfl
theorem dl_len (W : Nat) (p : List T3) (m : Nat) : (dl W p m).length = W := by
  induction m with
  | zero => rw [dl_zero]; simp
  | succ m ih => rw [dl_succ, List.length_set, ih]
theorem pg_set (qs : List (List T3)) (a i : Nat) (q : List T3) (ha : a < qs.length) : pg (qs.set a q) i = if a = i then q else pg qs i := by
  rw [pg_eq, List.getElem?_set, pg_eq]
  split
  · rename_i h; subst h; simp
  · rfl
theorem set_pg {qs : List (List T3)} {a : Nat} (ha : a < qs.length) : qs.set a (pg qs a) = qs := by
  rw [pg_lt ha]; exact List.set_getElem_self ha
/-- all but queue a -/
def restQ (qs : List (List T3)) (a : Nat) : List T3 := (qs.take a).flatten ++ (qs.drop (a + 1)).flatten
theorem flat_set {qs : List (List T3)} {a : Nat} (ha : a < qs.length) (q : List T3) : (qs.set a q).flatten.Perm (q ++ restQ qs a) := by
  rw [List.set_eq_take_append_cons_drop, if_pos ha, List.flatten_append, List.flatten_cons]
  unfold restQ
  exact List.perm_append_comm_assoc _ _ _
theorem flat_pg {qs : List (List T3)} {a : Nat} (ha : a < qs.length) : qs.flatten.Perm (pg qs a ++ restQ qs a) := by
  have := flat_set ha (pg qs a)
  rwa [set_pg ha] at this
theorem pg_len_le {qs : List (List T3)} {a : Nat} (ha : a < qs.length) : (pg qs a).length ≤ qs.flatten.length := by
  rw [(flat_pg ha).length_eq, List.length_append]; omega
theorem dl_flat {W : Nat} (hW : 1 ≤ W) (p : List T3) : ∀ m, m ≤ p.length → (dl W p m).flatten.Perm (p.take m)
  | 0, _ => by rw [dl_zero]; simp
  | m + 1, h => by
    have hm : m % W < (dl W p m).length := by rw [dl_len]; exact Nat.mod_lt _ (by omega)
    have ih := dl_flat hW p m (by omega)
    rw [dl_succ]
    refine (flat_set hm _).trans ?_
    rw [List.take_succ_eq_append_getElem (by omega), ← tg_lt (by omega), List.append_assoc]
    refine (List.perm_append_comm_assoc _ _ _).trans ?_
    refine List.perm_append_comm.trans ?_
    exact (((flat_pg hm).symm.trans ih).append_right _)
theorem dl_room {W : Nat} (hW : 1 ≤ W) {p : List T3} {m a : Nat} (hm : m ≤ p.length) (ha : a < W) : (pg (dl W p m) a).length ≤ m := by
  have := pg_len_le (qs := dl W p m) (a := a) (by rw [dl_len]; exact ha)
  have h2 := (dl_flat hW p m hm).length_eq
  rw [List.length_take] at h2
  omega
/-- a phase's queues -/
@[irreducible] def dlp (W : Nat) (ll : List (List T3)) (x : Nat) : List (List T3) := dl W (pg ll x) (pg ll x).length
theorem dlp_len (W : Nat) (ll : List (List T3)) (x : Nat) : (dlp W ll x).length = W := by unfold dlp; exact dl_len _ _ _
theorem dlp_flat {W : Nat} (hW : 1 ≤ W) (ll : List (List T3)) (x : Nat) : (dlp W ll x).flatten.Perm (pg ll x) := by
  unfold dlp
  have := dl_flat hW (pg ll x) _ (Nat.le_refl _)
  rwa [List.take_length] at this
theorem pg_out {ll : List (List T3)} {x : Nat} (h : ll.length ≤ x) : pg ll x = [] := by rw [pg_eq, List.getElem?_eq_none h]; rfl
theorem dlp_out {W : Nat} {ll : List (List T3)} {x : Nat} (h : ll.length ≤ x) : dlp W ll x = List.replicate W [] := by
  unfold dlp; rw [pg_out h]; exact dl_zero _ _
/-- where a run is -/
structure RS where
  ar : List Int
  qs : List (List T3)
  ph : Nat
  left : Nat
  log : List T3
/-- a task done -/
def doT (back : Bool) (ks : List Nat) (zs : List Int) (t : T3) : List Int := tz back (under (szs ks) t.1.toNat) (nd ks t.1.toNat) (pk ks) t.2.1.toNat t.2.2.toNat zs
/-- .. and what follows -/
def fin1 (W : Nat) (ll : List (List T3)) (s : RS) (ar : List Int) (t : T3) (qs : List (List T3)) : RS :=
  if s.left = 1 then ⟨ar, dlp W ll (s.ph + 1), s.ph + 1, (pg ll (s.ph + 1)).length, s.log ++ [t]⟩ else ⟨ar, qs, s.ph, s.left - 1, s.log ++ [t]⟩
/-- a pick -/
def stX (back : Bool) (ks : List Nat) (W : Nat) (ll : List (List T3)) (s : RS) (a v : Nat) : RS :=
  if 0 < (pg s.qs a).length then fin1 W ll s (doT back ks s.ar (tg (pg s.qs a) ((pg s.qs a).length - 1))) (tg (pg s.qs a) ((pg s.qs a).length - 1)) (s.qs.set a ((pg s.qs a).take ((pg s.qs a).length - 1)))
  else if v ≠ a ∧ 0 < (pg s.qs v).length then fin1 W ll s (doT back ks s.ar (tg (pg s.qs v) 0)) (tg (pg s.qs v) 0) (s.qs.set v (pg s.qs v).tail)
  else s
/-- the array in the middle of phase x -/
def arO (back : Bool) (ks : List Nat) (zs : List Int) (N x : Nat) (left : List T3) : List Int := if x < N then pws back ks zs x left else alT back ks zs x
/-- right phases -/
structure GL (ks : List Nat) (ll : List (List T3)) : Prop where
  shp : Shp (szs ks)
  len : ll.length = ks.length
  rp : ∀ x, x < ll.length → RP x (lnX (szs ks) x) (pg ll x)
  le : ∀ x, x < ll.length → (pg ll x).length ≤ 64
theorem rp_pos {ax lines : Int} {l : List T3} (h : RP ax lines l) (hl : 1 ≤ lines) : 1 ≤ l.length := by
  have := h.2 0 (by omega) (by omega)
  rcases l with _ | ⟨t, r⟩
  · exact absurd this (by rw [cnt_nil]; omega)
  · simp
theorem GL.pos {ks : List Nat} {ll : List (List T3)} (h : GL ks ll) {x : Nat} (hx : x < ll.length) : 1 ≤ (pg ll x).length :=
  rp_pos (h.rp x hx) (by have := lnX_pos h.shp (x := x) (by rw [szs_len, ← h.len]; exact hx); omega)
/-- a run as it must be -/
structure RI (back : Bool) (ks : List Nat) (zs : List Int) (W : Nat) (ll : List (List T3)) (s : RS) : Prop where
  w : s.qs.length = W
  ph : s.ph ≤ ll.length
  lf : s.qs.flatten.length = s.left
  pos : s.ph < ll.length → 1 ≤ s.left ∧ s.left ≤ 64
  zero : s.ph = ll.length → s.left = 0
  ok : s.ph < ll.length → LeftOk s.ph (lnX (szs ks) s.ph) s.qs.flatten
  ar : s.ar = arO back ks zs ll.length s.ph s.qs.flatten
  perm : (s.log ++ s.qs.flatten).Perm (ll.take (s.ph + 1)).flatten
  sorted : s.log.Pairwise (fun a b => a.1 ≤ b.1)
  lo : ∀ t ∈ s.log, t.1 ≤ s.ph
theorem dnT_perm {l r : List T3} (h : l.Perm r) : dnT l = dnT r := by
  funext L; unfold dnT; rw [cntL_perm h]
theorem pws_perm {l r : List T3} (back : Bool) (ks : List Nat) (zs : List Int) (x : Nat) (h : l.Perm r) : pws back ks zs x l = pws back ks zs x r := by
  unfold pws; rw [dnT_perm h]
theorem LeftOk.perm {x lines : Nat} {l r : List T3} (h : LeftOk x lines l) (hp : l.Perm r) : LeftOk x lines r :=
  ⟨fun t ht => h.1 t (hp.mem_iff.2 ht), fun k => by rw [← cntL_perm hp]; exact h.2 k⟩
theorem arO_perm {l r : List T3} (back : Bool) (ks : List Nat) (zs : List Int) (N x : Nat) (h : l.Perm r) : arO back ks zs N x l = arO back ks zs N x r := by
  unfold arO; rw [pws_perm _ _ _ _ h]
theorem tg_cons (t : T3) (l : List T3) : tg (t :: l) 0 = t := by rw [tg_eq]; rfl
/-- one task of those that are left -/
theorem LeftOk.one {x lines : Nat} {l r : List T3} {t : T3} (h : LeftOk x lines l) (hp : l.Perm (t :: r)) : LeftOk x lines r ∧ ∃ f u : Nat, t = ((x : Int), (f : Int), (u : Int)) ∧ f < u ∧ u ≤ lines := by
  have h1 := h.perm hp
  have h2 := h1.out (i := 0) (by simp)
  obtain ⟨f, u, e, h3, h4⟩ := h1.at (i := 0) (by simp)
  rw [tg_cons] at e
  exact ⟨by simpa using h2, f, u, e, h3, h4⟩
theorem pws_one {back : Bool} {ks : List Nat} {zs : List Int} {x lines : Nat} (hx : x < ks.length) {l r : List T3} {t : T3} (h : LeftOk x lines l) (hp : l.Perm (t :: r)) : doT back ks (pws back ks zs x l) t = pws back ks zs x r := by
  obtain ⟨_, f, u, e, _, _⟩ := h.one hp
  have h1 := h.perm hp
  have := (pws_step (back := back) (zs := zs) hx (i := 0) (by simp) (by rw [tg_cons]; exact e) h1.2).1
  rw [pws_perm _ _ _ _ hp]
  unfold doT
  rw [e] at this ⊢
  simpa using this
/-- after a task -/
theorem fin1_inv {back : Bool} {ks : List Nat} {zs : List Int} {W : Nat} {ll : List (List T3)} {s : RS} (hg : GL ks ll) (hzl : zs.length = pk ks) (hW : 1 ≤ W) (h : RI back ks zs W ll s) (hx : s.ph < ll.length) {t : T3} {qs : List (List T3)} (hq : qs.length = W) (hp : s.qs.flatten.Perm (t :: qs.flatten)) :
    RI back ks zs W ll (fin1 W ll s (doT back ks s.ar t) t qs) := by
  have hxk : s.ph < ks.length := by rw [← hg.len]; exact hx
  obtain ⟨ok, f, u, et, hfu, hul⟩ := (h.ok hx).one hp
  have har : doT back ks s.ar t = pws back ks zs s.ph qs.flatten := by
    rw [h.ar, arO, if_pos hx]; exact pws_one hxk (h.ok hx) hp
  have hl := hp.length_eq
  rw [List.length_cons, h.lf] at hl
  have ht1 : t.1 = s.ph := by rw [et]
  have hperm : (s.log ++ [t] ++ qs.flatten).Perm (ll.take (s.ph + 1)).flatten := by
    refine List.Perm.trans ?_ h.perm
    rw [List.append_assoc]
    exact hp.symm.append_left _
  have hsort : (s.log ++ [t]).Pairwise (fun a b => a.1 ≤ b.1) := by
    rw [List.pairwise_append]
    refine ⟨h.sorted, List.pairwise_singleton _ _, fun a ha b hb => ?_⟩
    rw [List.mem_singleton.1 hb, ht1]; exact h.lo a ha
  have hlo : ∀ a ∈ s.log ++ [t], a.1 ≤ s.ph := by
    intro a ha
    rcases List.mem_append.1 ha with ha | ha
    · exact h.lo a ha
    · rw [List.mem_singleton.1 ha, ht1]; exact Int.le_refl _
  unfold fin1
  by_cases h1 : s.left = 1
  · rw [if_pos h1]
    have hnil : qs.flatten = [] := List.eq_nil_of_length_eq_zero (by omega)
    rw [hnil] at har hperm
    rw [List.append_nil] at hperm
    rw [pws_done hxk] at har
    have hd := dlp_flat hW ll (s.ph + 1)
    refine ⟨dlp_len _ _ _, by show s.ph + 1 ≤ _; omega, hd.length_eq, fun hx2 => ⟨hg.pos hx2, hg.le _ hx2⟩, fun e => ?_, fun hx2 => ?_, ?_, ?_, hsort, fun a ha => ?_⟩
    · show (pg ll (s.ph + 1)).length = 0
      rw [pg_out (by exact Nat.le_of_eq e.symm)]; rfl
    · exact (LeftOk.start (hg.rp _ hx2)).perm hd.symm
    · show doT back ks s.ar t = arO back ks zs ll.length (s.ph + 1) (dlp W ll (s.ph + 1)).flatten
      rw [har, arO]
      split
      · rename_i hx2
        rw [pws_perm _ _ _ _ hd]
        exact (pws_start hg.shp (by rw [← hg.len]; exact hx2) (hg.rp _ hx2) hzl).symm
      · rfl
    · show ((s.log ++ [t]) ++ (dlp W ll (s.ph + 1)).flatten).Perm (ll.take (s.ph + 1 + 1)).flatten
      by_cases hx2 : s.ph + 1 < ll.length
      · rw [List.take_succ_eq_append_getElem hx2, List.flatten_append, ← pg_lt hx2]
        simp only [List.flatten_cons, List.flatten_nil, List.append_nil]
        exact hperm.append hd
      · rw [dlp_out (by omega), List.take_of_length_le (by omega)]
        rw [List.take_of_length_le (by omega)] at hperm
        simpa using hperm
    · have := hlo a ha
      show a.1 ≤ ((s.ph + 1 : Nat) : Int)
      omega
  · rw [if_neg h1]
    have hp1 := h.pos hx
    refine ⟨hq, h.ph, by show qs.flatten.length = s.left - 1; omega, fun _ => ⟨by show 1 ≤ s.left - 1; omega, by show s.left - 1 ≤ 64; omega⟩, fun e => ?_, fun _ => ok, ?_, hperm, hsort, hlo⟩
    · exact absurd e (Nat.ne_of_lt hx)
    · show doT back ks s.ar t = arO back ks zs ll.length s.ph qs.flatten
      rw [har, arO, if_pos hx]
theorem pop_perm {qs : List (List T3)} {a : Nat} (ha : a < qs.length) (h : 0 < (pg qs a).length) : qs.flatten.Perm (tg (pg qs a) ((pg qs a).length - 1) :: (qs.set a ((pg qs a).take ((pg qs a).length - 1))).flatten) := by
  refine (flat_pg ha).trans ?_
  refine List.Perm.trans ?_ ((flat_set ha _).symm.cons _)
  have e : pg qs a = (pg qs a).take ((pg qs a).length - 1) ++ [tg (pg qs a) ((pg qs a).length - 1)] := by
    rw [tg_lt (by omega), ← List.take_succ_eq_append_getElem (by omega), show (pg qs a).length - 1 + 1 = (pg qs a).length by omega, List.take_length]
  generalize (pg qs a).take ((pg qs a).length - 1) = u at *
  generalize tg (pg qs a) ((pg qs a).length - 1) = t at *
  rw [e]
  simp
theorem steal_perm {qs : List (List T3)} {a : Nat} (ha : a < qs.length) (h : 0 < (pg qs a).length) : qs.flatten.Perm (tg (pg qs a) 0 :: (qs.set a (pg qs a).tail).flatten) := by
  refine (flat_pg ha).trans ?_
  refine List.Perm.trans ?_ ((flat_set ha _).symm.cons _)
  generalize pg qs a = q at *
  rcases q with _ | ⟨t, r⟩
  · exact absurd h (by simp)
  · rw [tg_cons]; simp
theorem stX_inv {back : Bool} {ks : List Nat} {zs : List Int} {W : Nat} {ll : List (List T3)} {s : RS} (hg : GL ks ll) (hzl : zs.length = pk ks) (hW : 1 ≤ W) (h : RI back ks zs W ll s) (hx : s.ph < ll.length) {a v : Nat} (ha : a < W) (hv : v < W) :
    RI back ks zs W ll (stX back ks W ll s a v) := by
  have hwa : a < s.qs.length := by rw [h.w]; exact ha
  have hwv : v < s.qs.length := by rw [h.w]; exact hv
  unfold stX
  split
  · rename_i h1
    exact fin1_inv hg hzl hW h hx (by rw [List.length_set, h.w]) (pop_perm hwa h1)
  · split
    · rename_i h1
      exact fin1_inv hg hzl hW h hx (by rw [List.length_set, h.w]) (steal_perm hwv h1.2)
    · exact h
theorem flat_le {ll : List (List T3)} (h : ∀ l ∈ ll, l.length ≤ 64) : ll.flatten.length ≤ ll.length * 64 := by
  induction ll with
  | nil => simp
  | cons l r ih =>
    rw [List.flatten_cons, List.length_append, List.length_cons]
    have h1 := h l (by simp)
    have h2 := ih (fun x hx => h x (by simp [hx]))
    omega
theorem RI.log_le {back : Bool} {ks : List Nat} {zs : List Int} {W : Nat} {ll : List (List T3)} {s : RS} (h : RI back ks zs W ll s) (hg : GL ks ll) : s.log.length ≤ 1000000 := by
  have h1 := h.perm.length_eq
  rw [List.length_append] at h1
  have h2 := flat_le (ll := ll.take (s.ph + 1)) (fun l hl => by
    obtain ⟨i, hi, rfl⟩ := List.getElem_of_mem (List.mem_of_mem_take hl)
    rw [← pg_lt hi]; exact hg.le i hi)
  have h3 := hg.shp.len3
  rw [szs_len, ← hg.len] at h3
  rw [List.length_take] at h2
  omega
/-- the start -/
def st0 (W : Nat) (ll : List (List T3)) (zs : List Int) : RS := ⟨zs, dlp W ll 0, 0, (pg ll 0).length, []⟩
theorem st0_inv {back : Bool} {ks : List Nat} {zs : List Int} {W : Nat} {ll : List (List T3)} (hg : GL ks ll) (hzl : zs.length = pk ks) (hW : 1 ≤ W) (hN : 1 ≤ ll.length) : RI back ks zs W ll (st0 W ll zs) := by
  have hd := dlp_flat hW ll 0
  have h0 : 0 < ll.length := hN
  refine ⟨dlp_len _ _ _, Nat.zero_le _, hd.length_eq, fun _ => ⟨hg.pos h0, hg.le _ h0⟩, fun e => ?_, fun _ => (LeftOk.start (hg.rp _ h0)).perm hd.symm, ?_, ?_, List.Pairwise.nil, fun t ht => absurd ht (by simp [st0])⟩
  · exact absurd e (by show ¬ (0 = ll.length); omega)
  · show zs = arO back ks zs ll.length 0 (dlp W ll 0).flatten
    rw [arO, if_pos h0, pws_perm _ _ _ _ hd, pws_start hg.shp (by rw [← hg.len]; exact h0) (hg.rp _ h0) hzl, alT_zero]
  · show ([] ++ (dlp W ll 0).flatten).Perm (ll.take (0 + 1)).flatten
    rw [List.nil_append, List.take_succ_eq_append_getElem h0, ← pg_lt h0]
    simpa using hd
/-- a pick as it comes -/
def stXP (back : Bool) (ks : List Nat) (W : Nat) (ll : List (List T3)) (s : RS) (p : Int × Int) : RS :=
  if s.ph < ll.length ∧ 0 ≤ p.1 ∧ p.1 < W ∧ 0 ≤ p.2 ∧ p.2 < W then stX back ks W ll s p.1.toNat p.2.toNat else s
theorem stXP_inv {back : Bool} {ks : List Nat} {zs : List Int} {W : Nat} {ll : List (List T3)} {s : RS} (hg : GL ks ll) (hzl : zs.length = pk ks) (hW : 1 ≤ W) (h : RI back ks zs W ll s) (p : Int × Int) : RI back ks zs W ll (stXP back ks W ll s p) := by
  unfold stXP
  split
  · rename_i h1
    exact stX_inv hg hzl hW h h1.1 (a := p.1.toNat) (v := p.2.toNat) (by omega) (by omega)
  · exact h
/-- what Step answers -/
def stXE (W : Nat) (ll : List (List T3)) (s : RS) (p : Int × Int) : Int := if s.ph = ll.length then 6 else if 0 ≤ p.1 ∧ p.1 < W ∧ 0 ≤ p.2 ∧ p.2 < W then 0 else 1
end Go.Proofs.YtcakeenfkdhedaaDoor.Gm
