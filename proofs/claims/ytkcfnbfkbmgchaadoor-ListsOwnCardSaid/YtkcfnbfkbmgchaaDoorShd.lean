/- goldkeep.shaped; copies into lists of the call's own. -/
import Derived.Test.YtkcfnbfkbmgchaaDoorAp
import Derived.Test.YtkcfnbfkbmgchaaDoorPla
namespace Go.Proofs.YtkcfnbfkbmgchaaDoor.Gm
open Go.RowKit
set_option linter.unusedVariables false
/-- copy into a list of the call's own -/
theorem wl_copyG (k : IntKind) (te ts : TypeId) (hu : Tryd.prog.underlying ts = some (.slice te)) (hsz : (Tryd.prog.info? te).map (·.size) = some 1)
    {ops : Array Oper} {rest : List Oper} {o : Oper} {a : Act} {Q : Exit → Act → World → Prop} (w : World) (hgd : o.guard = none) (d s : Operand)
    (ho : o.op = .call { callee := .builtin .copy, args := #[d, s], argTypes := #[ts, ts] })
    (B g n cap : Nat) (l zs : List Int) (v : Value) (W : World) (hd : a.eval d = .slice (some ⟨g, 0, none⟩) n cap) (hs : a.eval s = v)
    (hown : Oz k te B w (.slice (some ⟨g, 0, none⟩) n cap) l) (hn : l.length = n) (hrd : Rd k w v zs) (hbel : Below B W w)
    (h : ∀ z w', Oz k te B w' (.slice (some ⟨g, 0, none⟩) n cap) (zs.take n ++ l.drop (zs.take n).length) → Below B W w' → wpList Tryd.prog ops Q rest (a.put o.dst z) w') :
    wpList Tryd.prog ops Q (o :: rest) a w := by
  subst hn
  obtain ⟨sp, scap, b, off, rfl, h1, h2, h3, h4⟩ := hrd
  rcases hown.2 with ⟨e0, _⟩ | ⟨g', cap', cur, e, hb, hg, hnc, hm, hsc, ht⟩
  · injection e0 with e1; cases e1
  · injection e with e1 e2 e3
    injection e1 with e4
    injection e4 with e5
    subst e5; subst e3
    have hcl : cur.toList.length = cap := by rw [Array.length_toList]; omega
    have hlen2 := hown.1
    obtain ⟨ys, hys⟩ : ∃ ys, ys = zs.take l.length := ⟨_, rfl⟩
    have hyl : ys.length = min l.length zs.length := by rw [hys, List.length_take]
    rw [← hys] at h
    have hcs : (ys.map (Value.int k)).length = ys.length := List.length_map _
    refine wpList_copy_splice hgd d s ts ts ho te hu hsz (some ⟨g, 0, none⟩) sp l.length cap zs.length scap hd hs g 0 cur.toList te (by simpa using hg) (ys.map (Value.int k)) (by rw [hcs, hyl]; exact Nat.min_comm _ _) ?_ (by rw [hcs, hcl]; omega) ?_ B W hbel hb ?_
    · intro hp
      rcases h3 with h3 | h3
      · subst h3; simp at hyl; rw [hcs, hyl] at hp; exact absurd hp (Nat.lt_irrefl 0)
      · refine ⟨rfl, _, h3, fun j u hj => ?_⟩
        have hjl : j < ys.length := by
          have := (List.getElem?_eq_some_iff.1 hj).1
          omega
        have e : ((⟨b, off, none⟩ : Addr).add j) = ⟨b, off + j, none⟩ := by unfold Addr.add; by_cases h0 : j = 0 <;> simp [h0]
        rw [e, h4 j (by omega), gd_eq]
        rw [hys, List.getElem?_map, List.getElem?_take_of_lt (by omega), List.getElem?_eq_getElem (by omega)] at hj
        rw [List.getElem?_eq_getElem (by omega)]
        exact hj
    · intro u hu'
      obtain ⟨x, _, rfl⟩ := List.mem_map.1 hu'
      rfl
    · intro w' hw' hbel'
      refine h _ w' ?_ hbel'
      have hl : (ys ++ l.drop ys.length).length = l.length := by rw [List.length_append, List.length_drop]; omega
      unfold Oz
      rw [hl]
      refine ⟨by simp; omega, .inr ⟨g, cap, _, rfl, hb, hw'.out, hnc, hm, ?_, ?_⟩⟩
      · rw [List.size_toArray, length_splice _ _ _ (by rw [hcs, hcl]; omega), hcl, Nat.mul_one]
      · rw [List.toList_toArray, Nat.mul_one]
        rw [Nat.mul_one] at ht
        unfold splice
        rw [List.take_zero, List.nil_append, Nat.zero_add, hcs, List.map_append, List.map_drop, ← ht]
        rw [List.take_append, hcs, List.take_of_length_le (by rw [hcs]; omega)]
        rw [List.drop_take]
/-- a list brought to so many numbers -/
def siz (zs : List Int) (n : Nat) : List Int := zs.take n ++ List.replicate (n - min n zs.length) 0
theorem siz_len (zs : List Int) (n : Nat) : (siz zs n).length = n := by
  unfold siz
  rw [List.length_append, List.length_replicate, List.length_take]; omega
theorem siz_64 {zs : List Int} (h : B64 zs) (n : Nat) : B64 (siz zs n) := by
  intro z hz
  rcases List.mem_append.1 hz with hz | hz
  · exact h z (List.mem_of_mem_take hz)
  · have := List.eq_of_mem_replicate hz
    omega
/-- a call's end: a list of integers of its own, a bool -/
def RetZB (w : World) (l : List Int) (b : Bool) (e : Ending) (w' : World) : Prop := ∃ v, e = .returned (.tuple #[v, .bool b]) ∧ Oz .u64 25 w.heap.size w' v l ∧ Below w.heap.size w w'
def NoShape (zs : List Int) : Prop := Bad zs ∨ Big zs ∨ ∃ ds, zs = zi ds ∧ Shp ds ∧ 64 < pr ds
theorem shaped_no (zs ys : List Int) (v v2 : Value) (w : World) (h : Rd .i64 w v zs) (hw : W64 zs) (hn : NoShape zs) :
    Calls Tryd.prog 44 #[v, v2] w (RetZB w [] false) := by
  have CS := Lib.hid (rshape_any zs v w h hw)
  clear h hw
  rcases hn with hb | hb | ⟨ds, rfl, hs, h64⟩
  · have HB := Lib.hid (CS.out.mono (R' := fun e w' => e = _ ∧ w = w') (fun e w' he => ⟨he.1.bad hb, he.2⟩))
    clear CS hb
    go_enter Tryd.func44, Tryd.ntmps44
    go_wp2_with fail
    refine HB.out.mono ?_
    rintro e w' ⟨rfl, rfl⟩
    go_wp2
    go_ret2
    exact ⟨_, rfl, Oz.nil _ _ _ _, Below.refl _ _⟩
  · have HB := Lib.hid (CS.out.mono (R' := fun e w' => e = _ ∧ w = w') (fun e w' he => ⟨he.1.big hb, he.2⟩))
    clear CS hb
    go_enter Tryd.func44, Tryd.ntmps44
    go_wp2_with fail
    refine HB.out.mono ?_
    rintro e w' ⟨rfl, rfl⟩
    go_wp2
    go_ret2
    exact ⟨_, rfl, Oz.nil _ _ _ _, Below.refl _ _⟩
  · have HB := Lib.hid (CS.out.mono (R' := fun e w' => e = _ ∧ w = w') (fun e w' he => ⟨he.1.ok hs, he.2⟩))
    have h64i : (64 : Int) < (pr ds : Int) := by omega
    generalize pr ds = n at *
    clear CS
    go_enter Tryd.func44, Tryd.ntmps44
    go_wp2_with fail
    refine HB.out.mono ?_
    rintro e w' ⟨rfl, rfl⟩
    go_wp2
    go_ret2
    exact ⟨_, rfl, Oz.nil _ _ _ _, Below.refl _ _⟩
theorem shaped_yes (ds : List Nat) (zs : List Int) (v v2 : Value) (w : World) (h : Rd .i64 w v (zi ds)) (h2 : Rd .u64 w v2 zs) (hw : W64 (zi ds)) (hs : Shp ds) (h64 : pr ds ≤ 64) :
    Calls Tryd.prog 44 #[v, v2] w (RetZB w (siz zs (pr ds)) true) := by
  have CS := Lib.hid ((rshape_any (zi ds) v w h hw).mono (R' := fun e w' => e = _ ∧ w = w') (fun e w' he => ⟨he.1.ok hs, he.2⟩))
  have HR := Lib.hid h2
  obtain ⟨a, cap, rfl, hcap, hm⟩ := h2.shape
  clear h hw h2
  have h64i : decide ((64 : Int) < (pr ds : Int)) = false := by rw [decide_eq_false_iff_not]; omega
  have h64n : decide (64 < pr ds) = false := by rw [decide_eq_false_iff_not]; omega
  have hnm : pr ds ≤ 1000000 := by omega
  generalize pr ds = n at *
  go_enter Tryd.func44, Tryd.ntmps44
  go_wp2_with fail
  refine CS.out.mono ?_
  rintro e w' ⟨rfl, rfl⟩
  go_wp2_with (refine wl_make _ rfl (.tmp 20) (.tmp 20) rfl w.heap.size _ _ n w rfl rfl rfl rfl hnm (Below.refl _ _) (Nat.le_refl _) ?_)
  intro g w1 _ hown1 hbel1
  have O1 := hown1.oz
  rw [List.map_replicate, vl_zero] at O1
  have O1 := Lib.hid O1
  have B1 := Lib.hid hbel1
  have R1 := Lib.hid (HR.out.below hbel1)
  have hsz := hbel1.size
  clear hown1 hbel1
  go_wp2_with (refine wl_copyG .u64 25 22 Tryd.underlying22 (by kernel_rfl) _ rfl (.tmp 22) (.tmp 23) rfl w.heap.size g n n (List.replicate n 0) zs _ w rfl rfl O1.out (by simp) R1.out B1.out ?_)
  intro z w2 hown2 hbel2
  have O2 := Lib.hid hown2
  have B2 := Lib.hid hbel2
  clear hown2 hbel2
  go_wp2
  go_ret2
  exact ⟨_, rfl, O2.out, B2.out⟩
theorem shape_split (zs : List Int) : NoShape zs ∨ ∃ ds, zs = zi ds ∧ Shp ds ∧ pr ds ≤ 64 := by
  rcases shape_cases zs with h | h | ⟨ds, rfl, hs⟩
  · exact .inl (.inl h)
  · exact .inl (.inr (.inl h))
  · by_cases h : 64 < pr ds
    · exact .inl (.inr (.inr ⟨ds, rfl, hs, h⟩))
    · exact .inr ⟨ds, rfl, hs, by omega⟩
end Go.Proofs.YtkcfnbfkbmgchaaDoor.Gm
