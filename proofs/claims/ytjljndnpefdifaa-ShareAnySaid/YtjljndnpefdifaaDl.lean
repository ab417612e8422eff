/- slices.Delete of one number out of a list of the call's own. -/
import Derived.Test.YtjljndnpefdifaaOn
import Derived.Lib.SliceRun
import Derived.Deep.RegionLaw
import Derived.Shelf.RegionOpenPlain
namespace Go.Proofs.Ytjljndnpefdifaa.Gm
open Go.RowKit
set_option linter.unusedVariables false
theorem setCs_size : ∀ (vs : List Value) (cs : Array Value) (o : Nat), (setCs cs o vs).size = cs.size
  | [], _, _ => rfl
  | v :: r, cs, o => by rw [setCs, setCs_size r]; simp
theorem setCs_get : ∀ (vs : List Value) (cs : Array Value) (o t : Nat), o + vs.length ≤ cs.size → (setCs cs o vs)[t]? = if o ≤ t ∧ t < o + vs.length then vs[t - o]? else cs[t]?
  | [], cs, o, t, _ => by rw [if_neg (by intro h; have := h.2; simp only [List.length_nil] at this; omega)]; rfl
  | v :: r, cs, o, t, h => by
    have h' : o + 1 + r.length ≤ cs.size := by simp only [List.length_cons] at h; omega
    rw [setCs, setCs_get r _ (o + 1) t (by simpa using h')]
    simp only [List.length_cons]
    by_cases h1 : o + 1 ≤ t ∧ t < o + 1 + r.length
    · rw [if_pos h1, if_pos (by omega)]
      obtain ⟨s, rfl⟩ : ∃ s, t = o + 1 + s := ⟨t - (o + 1), by omega⟩
      rw [show o + 1 + s - o = s + 1 by omega, show o + 1 + s - (o + 1) = s by omega]
      rfl
    · rw [if_neg h1, Array.getElem?_setIfInBounds]
      by_cases h2 : o = t
      · subst h2
        rw [if_pos rfl, if_pos (by omega), if_pos (by omega)]
        simp
      · rw [if_neg h2, if_neg (by omega)]
theorem zero_int (w : World) : (zeroValue 3).run Try.prog w = .ok (.int .i64 0) w := by rfl
set_option maxHeartbeats 4000000 in
set_option maxRecDepth 1000000 in
theorem delete_own (B g n cap i : Nat) (l : List Int) (w : World) (h : Oz .i64 3 B w (.slice (some ⟨g, 0, none⟩) n cap) l) (hn : l.length = n) (hi : i < n) (hcm : cap ≤ 9223372036854775807) (z : Int) (hz : z = i) :
    Calls Try.prog 38 #[.slice (some ⟨g, 0, none⟩) n cap, .int .i64 z, .int .i64 (z + 1)] w fun e w' => e = .returned (.slice (some ⟨g, 0, none⟩) (n - 1) cap) ∧ Oz .i64 3 B w' (.slice (some ⟨g, 0, none⟩) (n - 1) cap) (l.take i ++ l.drop (i + 1)) ∧ Only (fun k => k = g) w w' := by
  subst hz
  subst hn
  obtain ⟨i0, hi0, hz0, hz1, hz2⟩ := info_parts info_int
  rcases h.2 with ⟨e0, _⟩ | ⟨g', cap', cur, e, hb, hg, hnc, hmx, hs, ht⟩
  · cases e0
  · injection e with e1 e2 e3
    injection e1 with e4
    injection e4 with e5
    subst e5; subst e3
    rw [Nat.mul_one] at hs ht
    have hblk : Blk w g 3 cur := hg
    have hcur : ∀ t, t < l.length → cur[t]? = some (.int .i64 (gd l t)) := fun t ht' => by
      have h1 : (cur.toList.take l.length)[t]? = (l.map (Value.int .i64))[t]? := by rw [← ht]
      rw [List.getElem?_take_of_lt ht', List.getElem?_map, List.getElem?_eq_getElem ht', Array.getElem?_toList] at h1
      rw [h1, gd_eq, List.getElem?_eq_getElem ht']; rfl
    obtain ⟨news, hnews⟩ : ∃ news, news = (l.drop (i + 1)).map (Value.int .i64) := ⟨_, rfl⟩
    have hlen : news.length = l.length - (i + 1) := by rw [hnews]; simp
    have hget : ∀ t, t < l.length - (i + 1) → news[t]? = some (.int .i64 (gd l (i + 1 + t))) := by
      intro t ht'
      rw [hnews, List.getElem?_map, List.getElem?_drop, List.getElem?_eq_getElem (by omega), gd_eq, List.getElem?_eq_getElem (by omega)]; rfl
    obtain ⟨A, hA, hsrc⟩ : ∃ A : Addr, (if cap = i + 1 then some (⟨g, 0, none⟩ : Addr) else some ⟨g, i + 1, none⟩) = some A ∧ Hid (∀ t u, news[t]? = some u → w.drew.cell? (A.add t) = some u) := by
      by_cases hc : cap = i + 1
      · refine ⟨⟨g, 0, none⟩, by simp [hc], fun t u hu => ?_⟩
        have h0 : news.length = 0 := by rw [hlen]; omega
        rw [List.length_eq_zero_iff.1 h0] at hu
        simp at hu
      · refine ⟨⟨g, i + 1, none⟩, by simp [hc], fun t u hu => ?_⟩
        have ht' : t < l.length - (i + 1) := by
          have := (List.getElem?_eq_some_iff.1 hu).1
          rwa [hlen] at this
        rw [hget t ht'] at hu
        have e : ((⟨g, i + 1, none⟩ : Addr).add t) = ⟨g, i + 1 + t, none⟩ := by unfold Addr.add; by_cases h0 : t = 0 <;> simp [h0]
        rw [e]
        have : w.drew.cell? ⟨g, i + 1 + t, none⟩ = cur[i + 1 + t]? := hblk.cell _
        rw [this, hcur _ (by omega)]
        exact hu
    have s1 : Hid (news.length = (l.length - (i + 1)) * 1) := by rw [Nat.mul_one]; exact hlen
    have s2 : Hid (∀ u ∈ news, u.oneCell' = true) := by
      intro u hu
      rw [hnews] at hu
      obtain ⟨x, _, rfl⟩ := List.mem_map.1 hu
      rfl
    have s3 : Hid (∀ t, t < news.length → (w.drew.cell? ⟨g, 0 + i * 1 + t, none⟩).isSome = true ∧ w.drew.frozen? ⟨g, 0 + i * 1 + t, none⟩ = false) := by
      intro t ht'
      rw [hlen] at ht'
      rw [Nat.mul_one, Nat.zero_add]
      have : w.drew.cell? ⟨g, i + t, none⟩ = cur[i + t]? := hblk.cell _
      exact ⟨by rw [this, hcur _ (by omega)]; rfl, hblk.frozen _⟩
    obtain ⟨W1, hW1⟩ : ∃ W1, W1 = w.drew.setCells g (0 + i * 1) news := ⟨_, rfl⟩
    have hB1 : Blk W1 g 3 (setCs cur i news) := by
      rw [hW1, Nat.mul_one, Nat.zero_add]
      exact Blk.setCells news i w.drew cur hblk
    have hO1 : Only (fun k => k = g) w W1 := by
      rw [hW1]
      exact only_setCells _ _ _ _ ((Only.refl _ w).drew)
    have hsz1 : (setCs cur i news).size = cap := by rw [setCs_size, hs]
    have hcl : ∀ ty, (Builtin.clear_ #[37] ty #[.slice (some ⟨g, l.length - 1, none⟩) 1 (cap - (l.length - 1))]).run Try.prog W1 = .ok (.tuple #[]) (W1.setCells g (l.length - 1) (List.replicate 1 (.int .i64 0))) :=
      fun ty => Lib.run_clear_slice W1 _ _ ty _ Try.underlying37 zero_int rfl rfl g (l.length - 1) _ _ (by omega) (fun t ht' => by
        have : W1.cell? ⟨g, l.length - 1 + t, none⟩ = (setCs cur i news)[l.length - 1 + t]? := hB1.cell _
        rw [this, Array.getElem?_eq_getElem (by rw [hsz1]; omega)]; rfl) (fun t ht' => hB1.frozen _)
    have hfin : Oz .i64 3 B (W1.setCells g (l.length - 1) (List.replicate 1 (.int .i64 0))) (.slice (some ⟨g, 0, none⟩) (l.length - 1) cap) (l.take i ++ l.drop (i + 1)) := by
      have hl : (l.take i ++ l.drop (i + 1)).length = l.length - 1 := by rw [List.length_append, List.length_take, List.length_drop]; omega
      unfold Oz
      rw [hl]
      have hB2 : Blk (W1.setCells g (l.length - 1) (List.replicate 1 (.int .i64 0))) g 3 (setCs (setCs cur i news) (l.length - 1) (List.replicate 1 (.int .i64 0))) := Blk.setCells _ _ _ _ hB1
      refine ⟨by rw [List.length_map, hl, Nat.mul_one], .inr ⟨g, cap, _, rfl, hb, hB2, by omega, hmx, by rw [setCs_size, hsz1, Nat.mul_one], ?_⟩⟩
      rw [Nat.mul_one]
      apply List.ext_getElem?
      intro t
      by_cases htl : t < l.length - 1
      · rw [List.getElem?_take_of_lt htl, Array.getElem?_toList, setCs_get _ _ _ _ (by rw [hsz1]; simp; omega), if_neg (by omega), setCs_get _ _ _ _ (by rw [hs, hlen]; omega), List.getElem?_map]
        by_cases hti : t < i
        · rw [if_neg (by omega), hcur _ (by omega), List.getElem?_append_left (by rw [List.length_take]; omega), List.getElem?_take_of_lt hti, List.getElem?_eq_getElem (by omega), gd_eq, List.getElem?_eq_getElem (by omega)]; rfl
        · rw [if_pos (by rw [hlen]; omega), hget _ (by omega), List.getElem?_append_right (by rw [List.length_take]; omega), List.length_take, List.getElem?_drop, List.getElem?_eq_getElem (by omega), gd_eq]
          rw [List.getElem?_eq_getElem (by omega)]
          simp only [Option.map_some, Option.getD_some]
          congr 3
          omega
      · rw [List.getElem?_eq_none (by simp; omega), List.getElem?_eq_none (by rw [List.length_map, hl]; omega)]
    have hO2 : Only (fun k => k = g) w (W1.setCells g (l.length - 1) (List.replicate 1 (.int .i64 0))) := only_setCells _ _ _ _ hO1
    have HF := Lib.hid hfin
    have HO := Lib.hid hO2
    have hW : Hid (W1 = w.drew.setCells g (0 + i * 1) news) := hW1
    clear hW1 hB1 hO1 hget hnews hlen hfin hO2 hblk hcur ht hg h hsz1 hs e2
    have hic : i ≤ cap := by omega
    have hjc : i + 1 ≤ cap := by omega
    have e1 : IntKind.i64.wrap ((i : Int) + 1) = (i : Int) + 1 := IntWalk.i64_in _ (by omega)
    obtain ⟨n, hnn⟩ : ∃ n, n = l.length := ⟨_, rfl⟩
    rw [← hnn] at hi hnc s1 hcl HF HO ⊢
    clear hnn
    have mixed : Try.prog.follows Departure.mixedOrders = true := by kernel_rfl
    have hi2 : (i : Int) + 1 ≤ (n : Int) := by omega
    have hi3 : (0 : Int) ≤ (i : Int) + 1 := by omega
    go_enter Try.func38, Try.ntmps38
    go_wp2_with fail
    go_region_law_o (refine step_append_room rfl (.tmp 22) (.tmp 25) 37 rfl 3 i0 1 Try.underlying37 hi0 hz1 g 0 i cap (by simp [Act.eval, Act.put]) A (n - (i + 1)) (cap - (i + 1)) news (by simp [Act.eval, Act.put]) s1.out hsrc.out s2.out (by omega) s3.out ?_; rw [← hW.out])
    rw [show i + (n - (i + 1)) = n - 1 by omega]
    clear s1 hsrc s2 s3 hA hW mixed hi2 hi3
    obtain ⟨p, rfl⟩ : ∃ p, n = p + 1 := ⟨n - 1, by omega⟩
    simp only [Nat.add_sub_cancel] at HF HO hcl ⊢
    have hl1 : (p : Int) ≤ (p : Int) + 1 := by omega
    have hl2 : (p : Int) + 1 ≤ (cap : Int) := by omega
    have hl3 : p + 1 ≤ cap := hnc
    go_wp2
    go_ret
    exact ⟨rfl, HF.out, HO.out⟩
end Go.Proofs.Ytjljndnpefdifaa.Gm
