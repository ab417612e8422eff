/- copy into a list of the call's own. -/
import Derived.Test.YtkcfnbfkbmgchaaDoorOz
import Derived.Laws.CopyOwn
namespace Go.Proofs.YtkcfnbfkbmgchaaDoor.Gm
open Go.RowKit
theorem U_eq (l : List F) : U l = (l.map vl).map (Value.int .u64) := by unfold U; rw [List.map_map]; rfl
theorem Ow.oz {B : Nat} {w : World} {v : Value} {l : List F} (h : Ow B w v l) : Oz .u64 25 B w v (l.map vl) := by
  unfold Oz; unfold Ow at h; rw [List.length_map, ← U_eq]; exact h
theorem Oz.ow {B : Nat} {w : World} {v : Value} {l : List F} (h : Oz .u64 25 B w v (l.map vl)) : Ow B w v l := by
  unfold Oz at h; unfold Ow; rw [List.length_map, ← U_eq] at h; exact h
theorem wl_copyZ (k : IntKind) (te ts : TypeId) (hu : Tryd.prog.underlying ts = some (.slice te)) (hsz : (Tryd.prog.info? te).map (·.size) = some 1)
    {ops : Array Oper} {rest : List Oper} {o : Oper} {a : Act} {Q : Exit → Act → World → Prop} (w : World) (hgd : o.guard = none) (d s : Operand)
    (ho : o.op = .call { callee := .builtin .copy, args := #[d, s], argTypes := #[ts, ts] })
    (B g n cap : Nat) (l zs : List Int) (v : Value) (W : World) (hd : a.eval d = .slice (some ⟨g, 0, none⟩) n cap) (hs : a.eval s = v)
    (hown : Oz k te B w (.slice (some ⟨g, 0, none⟩) n cap) l) (hn : l.length = n) (hrd : Rd k w v zs) (hle : zs.length ≤ n) (hbel : Below B W w)
    (h : ∀ w', Oz k te B w' (.slice (some ⟨g, 0, none⟩) n cap) (zs ++ l.drop zs.length) → Below B W w' → wpList Tryd.prog ops Q rest (a.put o.dst (goInt zs.length)) w') :
    wpList Tryd.prog ops Q (o :: rest) a w := by
  subst hn
  obtain ⟨sp, scap, b, off, rfl, h1, h2, h3, h4⟩ := hrd
  rcases hown.2 with ⟨e0, _⟩ | ⟨g', cap', cur, e, hb, hg, hnc, hm, hsc, ht⟩
  · injection e0 with e1; cases e1
  · injection e with e1 e2 e3
    injection e1 with e4
    injection e4 with e5
    subst e5; subst e3
    have hcl : cur.toList.length = cap := by rw [Array.length_toList]; omega
    have hlen2 := hown.1
    have hcs : (zs.map (Value.int k)).length = zs.length := List.length_map _
    refine wpList_copy_splice hgd d s ts ts ho te hu hsz (some ⟨g, 0, none⟩) sp l.length cap zs.length scap hd hs g 0 cur.toList te (by simpa using hg) (zs.map (Value.int k)) (by rw [hcs]; exact (Nat.min_eq_left hle).symm) ?_ (by rw [hcs, hcl]; omega) ?_ B W hbel hb ?_
    · intro hp
      rcases h3 with h3 | h3
      · subst h3; simp at hp
      · refine ⟨rfl, _, h3, fun j u hj => ?_⟩
        have hjl : j < zs.length := by
          have := (List.getElem?_eq_some_iff.1 hj).1
          omega
        have e : ((⟨b, off, none⟩ : Addr).add j) = ⟨b, off + j, none⟩ := by unfold Addr.add; by_cases h0 : j = 0 <;> simp [h0]
        rw [e, h4 j hjl, gd_eq]
        rw [List.getElem?_map, List.getElem?_eq_getElem hjl] at hj
        rw [List.getElem?_eq_getElem hjl]
        exact hj
    · intro u hu'
      obtain ⟨x, _, rfl⟩ := List.mem_map.1 hu'
      rfl
    · intro w' hw' hbel'
      rw [hcs]
      refine h w' ?_ hbel'
      have hl : (zs ++ l.drop zs.length).length = l.length := by rw [List.length_append, List.length_drop]; omega
      unfold Oz
      rw [hl]
      refine ⟨by simp; omega, .inr ⟨g, cap, _, rfl, hb, hw'.out, hnc, hm, ?_, ?_⟩⟩
      · rw [List.size_toArray, length_splice _ _ _ (by rw [hcs, hcl]; omega), hcl, Nat.mul_one]
      · rw [List.toList_toArray, Nat.mul_one]
        rw [Nat.mul_one] at ht
        unfold splice
        rw [List.take_zero, List.nil_append, Nat.zero_add, hcs, List.map_append, List.map_drop, ← ht]
        rw [List.take_append, hcs, List.take_of_length_le (by rw [hcs]; omega)]
        rw [List.drop_take]
end Go.Proofs.YtkcfnbfkbmgchaaDoor.Gm
