/- Plain and laws of memory for shifts: a list scattered; make as an equation. -/
import Derived.Test.YtdhmmllpldjkbaaGreatDoorGd
import Derived.Test.YtdhmmllpldjkbaaGreatDoorPla
namespace Go.Proofs.YtdhmmllpldjkbaaGreatDoor.Gm
open Go.RowKit
set_option linter.unusedVariables false
/-- numbers scattered: place p holds value number t p, once that was laid -/
@[irreducible] def scat (n : Nat) (t : Nat → Nat) (val : Nat → Int) (m : Nat) : List Int := (List.range n).map fun p => if t p < m then val (t p) else 0
theorem scat_len (n : Nat) (t : Nat → Nat) (val : Nat → Int) (m : Nat) : (scat n t val m).length = n := by unfold scat; simp
theorem gd_scat (n : Nat) (t : Nat → Nat) (val : Nat → Int) (m : Nat) {p : Nat} (hp : p < n) : gd (scat n t val m) p = if t p < m then val (t p) else 0 := by
  unfold scat; rw [gd_eq, List.getElem?_map, List.getElem?_range hp]; rfl
theorem gd_ext {l m : List Int} (hl : l.length = m.length) (h : ∀ i, i < l.length → gd l i = gd m i) : l = m := by
  apply List.ext_getElem?
  intro i
  by_cases hi : i < l.length
  · have := h i hi
    rw [gd_eq, gd_eq, List.getElem?_eq_getElem hi, List.getElem?_eq_getElem (by omega)] at this
    rw [List.getElem?_eq_getElem hi, List.getElem?_eq_getElem (by omega)]
    exact congrArg some this
  · rw [List.getElem?_eq_none (by omega), List.getElem?_eq_none (by omega)]
theorem scat_zero (n : Nat) (t : Nat → Nat) (val : Nat → Int) : scat n t val 0 = List.replicate n 0 := by
  refine gd_ext (by rw [scat_len]; simp) (fun i hi => ?_)
  rw [scat_len] at hi
  rw [gd_scat _ _ _ _ hi, if_neg (by omega), gd_replicate]
theorem scat_step {n : Nat} {s t : Nat → Nat} (val : Nat → Int) {m : Nat} (hm : m < n) (hs : s m < n) (h1 : t (s m) = m) (h2 : ∀ p, p < n → s (t p) = p) : (scat n t val m).set (s m) (val m) = scat n t val (m + 1) := by
  refine gd_ext (by rw [List.length_set, scat_len, scat_len]) (fun p hp => ?_)
  rw [List.length_set, scat_len] at hp
  rw [gd_set _ _ _ _ (by rw [scat_len]; exact hs), gd_scat _ _ _ _ hp, gd_scat _ _ _ _ hp]
  by_cases h : s m = p
  · rw [if_pos h, ← h, h1, if_pos (by omega)]
  · have : t p ≠ m := fun e => h (by rw [← e]; exact h2 p hp)
    rw [if_neg h]
    by_cases h3 : t p < m
    · rw [if_pos h3, if_pos (by omega)]
    · rw [if_neg h3, if_neg (by omega)]
theorem scat_64 {n : Nat} {t : Nat → Nat} {val : Nat → Int} (h : ∀ i, 0 ≤ val i ∧ val i < 18446744073709551616) (m : Nat) : B64 (scat n t val m) := by
  intro z hz
  unfold scat at hz
  obtain ⟨p, _, rfl⟩ := List.mem_map.1 hz
  split
  · exact h _
  · omega
/-- one on -/
theorem on_inv {n m : Nat} (hm : m < n) : ((m + 1) % n + (n - 1)) % n = m := by
  rw [Nat.mod_add_mod, show m + 1 + (n - 1) = m + n by omega, Nat.add_mod_right, Nat.mod_eq_of_lt hm]
theorem on_inv2 {n p : Nat} (hp : p < n) : ((p + (n - 1)) % n + 1) % n = p := by
  rw [Nat.mod_add_mod, show p + (n - 1) + 1 = p + n by omega, Nat.add_mod_right, Nat.mod_eq_of_lt hp]
/-- turned round -/
theorem rd_inv {n m : Nat} (hm : m < n) : (n - (n - m) % n) % n = m := by
  by_cases h : m = 0
  · subst h; rw [Nat.sub_zero, Nat.mod_self, Nat.sub_zero, Nat.mod_self]
  · rw [Nat.mod_eq_of_lt (show n - m < n by omega), show n - (n - m) = m by omega, Nat.mod_eq_of_lt hm]
theorem dft_on {w : F} {n : Nat} (hw : w ^ n = 1) (hn : 1 ≤ n) (a : Nat → F) (j : Nat) : dft n w (fun p => a ((p + (n - 1)) % n)) j = dft n w a j * w ^ j := by
  have hx : (w ^ j) ^ n = 1 := by rw [← pow_mul, Nat.mul_comm, pow_mul, hw, one_pow]
  show S n (fun p => a ((p + (n - 1)) % n) * (w ^ j) ^ p) = S n (fun i => a i * (w ^ j) ^ i) * w ^ j
  generalize w ^ j = x at *
  rw [← S_rot n (n - 1) (fun i => a i * x ^ i), ← S_mul_right]
  refine S_congr (fun p hp => ?_)
  show a ((p + (n - 1)) % n) * x ^ p = a ((p + (n - 1)) % n) * x ^ ((p + (n - 1)) % n) * x
  rw [pow_modn hx]
  have : x ^ (p + (n - 1)) * x = x ^ p := by rw [← pow_succ, show p + (n - 1) + 1 = p + n by omega, pow_add, hx]; grind
  generalize a ((p + (n - 1)) % n) = y
  rw [← this]
  grind
theorem parseval {w v : F} {k : Nat} (h : Rt w k) (hv : w * v = 1) (a b : Nat → F) :
    S (2 ^ k) (fun j => dft (2 ^ k) w a j * dft (2 ^ k) w (fun p => b ((2 ^ k - p) % 2 ^ k)) j) = S (2 ^ k) (fun i => a i * b i) * cast (2 ^ k) := by
  have hn := Nat.two_pow_pos k
  have e1 := dft_back h hv (cyc (2 ^ k) a (fun p => b ((2 ^ k - p) % 2 ^ k))) hn
  have e2 : cyc (2 ^ k) a (fun p => b ((2 ^ k - p) % 2 ^ k)) 0 = S (2 ^ k) (fun i => a i * b i) := S_congr (fun i hi => by
    show a i * b ((2 ^ k - (0 + (2 ^ k - i)) % 2 ^ k) % 2 ^ k) = _
    rw [Nat.zero_add, rd_inv hi])
  have e3 : dft (2 ^ k) v (dft (2 ^ k) w (cyc (2 ^ k) a (fun p => b ((2 ^ k - p) % 2 ^ k)))) 0 = S (2 ^ k) (fun j => dft (2 ^ k) w a j * dft (2 ^ k) w (fun p => b ((2 ^ k - p) % 2 ^ k)) j) := by
    rw [dft_eq]
    exact S_congr (fun j _ => by rw [cyc_dft h.full, Nat.zero_mul, pow_zero]; grind)
  rw [← e3, e1, e2]
  grind
/-- make of so many numbers, as an equation -/
theorem run_mk (n : Nat) (hn : n ≤ 1000000) (w : World) : Sem.run Tryz.prog (Instr.makeSlice 44 (.int .i64 n) (.int .i64 n)) w = .ok (.slice (some ⟨w.heap.size, 0, none⟩) n n) (w.alloc (.cells (madeCells #[.int .u64 0] n) 51)) := by
  obtain ⟨i0, hi, hz0, hz1, hz2⟩ := info_parts info_u64
  have hr := run_make (P := Tryz.prog) w 44 51 i0 (.int .u64 0) Tryz.underlying44 hi hz0 .i64 .i64 n n (by omega) (Int.le_refl _) (by rw [hz2]; omega) (by omega)
  simp only [Int.toNat_natCast, hz1, Nat.mul_one] at hr
  exact hr
theorem oz_made (B n : Nat) (w : World) (hB : B ≤ w.heap.size) (hn : n ≤ 1000000) : Oz .u64 51 B (w.alloc (.cells (madeCells #[.int .u64 0] n) 51)) (.slice (some ⟨w.heap.size, 0, none⟩) n n) (List.replicate n 0) := by
  have := World.ownsRow_lit w (madeCells #[.int .u64 0] n) (e := 51) (size := 1) n hB (by unfold maxLen; omega) (by rw [size_madeCells]; simp)
  unfold Oz
  rw [List.length_replicate, List.map_replicate]
  rw [toList_madeCells_one] at this
  exact this
theorem only_setRow (w : World) (g : Nat) (cs : Array Value) : Only (fun k => k = g) w (w.setRow g cs) := by
  refine ⟨rfl, rfl, rfl, ?_, fun k _ hk => ?_⟩
  · simp [World.setRow]
  · simp only [World.setRow, Array.getElem?_modify]
    rw [if_neg (fun e => hk e.symm)]
theorem wpList_copy_spliceO {P : Program} {w : World} {ops : Array Oper} {rest : List Oper} {o : Oper} {a : Act} {Q : Exit → Act → World → Prop} (hgd : o.guard = none) (d s : Operand) (dT sT : TypeId)
    (ho : o.op = .call { callee := .builtin .copy, args := #[d, s], argTypes := #[dT, sT] }) (elem : TypeId) (hu : P.underlying dT = some (.slice elem)) (hsz : (P.info? elem).map (·.size) = some 1)
    (dp sp : Option Addr) (dLen dCap sLen sCap : Nat) (hd : a.eval d = .slice dp dLen dCap) (hs : a.eval s = .slice sp sLen sCap)
    (g off : Nat) (cur : List Value) (t : TypeId) (hg : w.heap[g]? = some (.cells cur.toArray t (0, 0))) (cs : List Value) (hn : cs.length = Nat.min sLen dLen)
    (hpos : 0 < cs.length → dp = some ⟨g, off, none⟩ ∧ ∃ ad, sp = some ad ∧ ∀ j v, cs[j]? = some v → w.cell? (ad.add j) = some v)
    (hfit : off + cs.length ≤ cur.length) (h1 : ∀ v ∈ cs, v.oneCell' = true)
    (h : ∀ w', Hid (w'.heap[g]? = some (.cells (splice cur off cs).toArray t (0, 0))) → Only (fun k => k = g) w w' → wpList P ops Q rest (a.put o.dst (goInt cs.length)) w') :
    wpList P ops Q (o :: rest) a w := by
  by_cases h0 : cs.length = 0
  · obtain rfl : cs = [] := List.eq_nil_of_length_eq_zero h0
    refine wpList_copy_nothing hgd d s dT sT ho elem hu hsz dp sp dLen dCap sLen sCap hd hs (by simpa using hn.symm) ?_
    exact h w (show _ = _ by simpa [splice] using hg) (Only.refl _ _)
  · obtain ⟨rfl, ad, rfl, hsrc⟩ := hpos (by omega)
    refine wpList_copy_own hgd d s dT sT ho elem hu hsz g off dLen dCap ad sLen sCap hd hs cur.toArray t hg cs hn hsrc (by simpa using hfit) h1 ?_
    exact h _ (show _ = _ by simpa [splice] using setRow_heap w g _ _ t _ hg) (only_setRow _ _ _)
/-- copy into a list of the call's own, with the sharper word on what has turned -/
theorem wl_copyO (k : IntKind) (te ts : TypeId) (hu : Tryz.prog.underlying ts = some (.slice te)) (hsz : (Tryz.prog.info? te).map (·.size) = some 1)
    {ops : Array Oper} {rest : List Oper} {o : Oper} {a : Act} {Q : Exit → Act → World → Prop} (w : World) (hgd : o.guard = none) (d s : Operand)
    (ho : o.op = .call { callee := .builtin .copy, args := #[d, s], argTypes := #[ts, ts] })
    (B g n cap : Nat) (l zs : List Int) (v : Value) (hd : a.eval d = .slice (some ⟨g, 0, none⟩) n cap) (hs : a.eval s = v)
    (hown : Oz k te B w (.slice (some ⟨g, 0, none⟩) n cap) l) (hn : l.length = n) (hrd : Rd k w v zs)
    (h : ∀ z w', Oz k te B w' (.slice (some ⟨g, 0, none⟩) n cap) (zs.take n ++ l.drop (zs.take n).length) → Only (fun j => j = g) w w' → wpList Tryz.prog ops Q rest (a.put o.dst z) w') :
    wpList Tryz.prog ops Q (o :: rest) a w := by
  subst hn
  obtain ⟨sp, scap, b, off, rfl, h1, h2, h3, h4⟩ := hrd
  rcases hown.2 with ⟨e0, _⟩ | ⟨g', cap', cur, e, hb, hg, hnc, hm, hsc, ht⟩
  · injection e0 with e1; cases e1
  · injection e with e1 e2 e3
    injection e1 with e4
    injection e4 with e5
    subst e5; subst e3
    have hcl : cur.toList.length = cap := by rw [Array.length_toList]; omega
    have hlen2 := hown.1
    obtain ⟨ys, hys⟩ : ∃ ys, ys = zs.take l.length := ⟨_, rfl⟩
    have hyl : ys.length = min l.length zs.length := by rw [hys, List.length_take]
    rw [← hys] at h
    have hcs : (ys.map (Value.int k)).length = ys.length := List.length_map _
    refine wpList_copy_spliceO hgd d s ts ts ho te hu hsz (some ⟨g, 0, none⟩) sp l.length cap zs.length scap hd hs g 0 cur.toList te (by simpa using hg) (ys.map (Value.int k)) (by rw [hcs, hyl]; exact Nat.min_comm _ _) ?_ (by rw [hcs, hcl]; omega) ?_ ?_
    · intro hp
      rcases h3 with h3 | h3
      · subst h3; simp at hyl; rw [hcs, hyl] at hp; exact absurd hp (Nat.lt_irrefl 0)
      · refine ⟨rfl, _, h3, fun j u hj => ?_⟩
        have hjl : j < ys.length := by
          have := (List.getElem?_eq_some_iff.1 hj).1
          omega
        have e : ((⟨b, off, none⟩ : Addr).add j) = ⟨b, off + j, none⟩ := by unfold Addr.add; by_cases h0 : j = 0 <;> simp [h0]
        rw [e, h4 j (by omega), gd_eq]
        rw [hys, List.getElem?_map, List.getElem?_take_of_lt (by omega), List.getElem?_eq_getElem (by omega)] at hj
        rw [List.getElem?_eq_getElem (by omega)]
        exact hj
    · intro u hu'
      obtain ⟨x, _, rfl⟩ := List.mem_map.1 hu'
      rfl
    · intro w' hw' hbel'
      refine h _ w' ?_ hbel'
      have hl : (ys ++ l.drop ys.length).length = l.length := by rw [List.length_append, List.length_drop]; omega
      unfold Oz
      rw [hl]
      refine ⟨by simp; omega, .inr ⟨g, cap, _, rfl, hb, hw'.out, hnc, hm, ?_, ?_⟩⟩
      · rw [List.size_toArray, length_splice _ _ _ (by rw [hcs, hcl]; omega), hcl, Nat.mul_one]
      · rw [List.toList_toArray, Nat.mul_one]
        rw [Nat.mul_one] at ht
        unfold splice
        rw [List.take_zero, List.nil_append, Nat.zero_add, hcs, List.map_append, List.map_drop, ← ht]
        rw [List.take_append, hcs, List.take_of_length_le (by rw [hcs]; omega)]
        rw [List.drop_take]
end Go.Proofs.YtdhmmllpldjkbaaGreatDoor.Gm
