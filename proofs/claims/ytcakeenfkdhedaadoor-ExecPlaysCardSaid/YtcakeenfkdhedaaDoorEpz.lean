/- The walk of ExecPlays: all roads. -/
import Derived.Test.YtcakeenfkdhedaaDoorEp
import Derived.Test.YtcakeenfkdhedaaDoorIpr
namespace Go.Proofs.YtcakeenfkdhedaaDoor.Gm
open Go.RowKit
set_option linter.unusedVariables false
theorem ck_ex (ds : List Nat) (ll : List (List T3)) : ∃ n, ChkN ds ll n := by
  by_cases h1 : ll.length = ds.length
  · by_cases h2 : ∀ x, x < ds.length → RP x (lnX ds x) (pg ll x)
    · by_cases h3 : ∀ i, i < ll.length → (pg ll i).length ≤ 64
      · exact ⟨0, .inr ⟨h1, h2, .inr ⟨rfl, h3⟩⟩⟩
      · exact ⟨2, .inr ⟨h1, h2, .inl ⟨rfl, Classical.byContradiction fun h => h3 fun i hi => Nat.le_of_not_lt fun h4 => h ⟨i, hi, h4⟩⟩⟩⟩
    · exact ⟨5, .inl ⟨rfl, .inr (Classical.byContradiction fun h => h2 fun x hx => Classical.byContradiction fun h4 => h ⟨x, hx, h4⟩)⟩⟩
  · exact ⟨5, .inl ⟨rfl, .inl h1⟩⟩
theorem ck_uniq {ds : List Nat} {ll : List (List T3)} {n m : Int} (h : ChkN ds ll n) (k : ChkN ds ll m) : n = m := by
  rcases h with ⟨rfl, h⟩ | ⟨h1, h2, h3⟩ <;> rcases k with ⟨rfl, k⟩ | ⟨k1, k2, k3⟩
  · rfl
  · rcases h with h | ⟨x, hx, h⟩
    · exact absurd k1 h
    · exact absurd (k2 x hx) h
  · rcases k with k | ⟨x, hx, k⟩
    · exact absurd h1 k
    · exact absurd (h2 x hx) k
  · rcases h3 with ⟨rfl, i, hi, h⟩ | ⟨rfl, h⟩ <;> rcases k3 with ⟨rfl, j, hj, k⟩ | ⟨rfl, k⟩
    · rfl
    · have := k i hi; omega
    · have := h j hj; omega
    · rfl
theorem ep_bad (zs az : List Int) (ll : List (List T3)) (wk n : Int) (back : Bool) (lp : List (Int × Int)) (v v2 v3 v5 : Value) (w : World) (h : Rd .i64 w v zs) (h2 : Rd .u64 w v2 az) (h3 : RPs w v3 ll) (h5 : Rpi w v5 lp) (hw : W64 zs) (hp : lp.length ≤ 200) (hn : n = 1 ∧ Bad zs ∨ n = 2 ∧ Big zs) :
    Calls Tryd.prog 4 #[v, v2, v3, .int .i64 wk, .bool back, v5] w (RetV w (.bool true)) := by
  obtain ⟨a5, c5, b5, o5, rfl, _⟩ := h5
  have hn0 : (n == 0) = false := by rcases hn with ⟨rfl, _⟩ | ⟨rfl, _⟩ <;> rfl
  refine ep_err zs az ll wk n 0 n back lp.length c5 a5 v v2 v3 w h h2 h3 ?_ (by omega) hp ((rshape_any zs v w h hw).mono fun e w' he => ⟨?_, he.2⟩) (fun v v2 w h _ => (rphases_bad zs v v2 w n h hw hn).mono fun e w' q => ⟨q.1, by rw [q.2]; exact Below.refl _ _⟩)
    (fun w h _ _ => xnew_err v v2 v3 wk n back w hn0 (xcheck_plan v v2 v3 wk n w hn0 ((pcheck_bad zs v v3 w n h hw hn).mono fun e w' q => ⟨q.1, by rw [q.2]; exact Below.refl _ _⟩)))
  · rcases hn with ⟨rfl, _⟩ | ⟨rfl, _⟩
    · exact .inl rfl
    · exact .inr (.inl rfl)
  · rcases hn with ⟨rfl, hb⟩ | ⟨rfl, hb⟩
    · exact he.1.bad hb
    · exact he.1.big hb
theorem ep_any (zs az : List Int) (ll : List (List T3)) (wk : Int) (back : Bool) (lp : List (Int × Int)) (v v2 v3 v5 : Value) (w : World) (h : Rd .i64 w v zs) (h2 : Rd .u64 w v2 az) (h3 : RPs w v3 ll) (h5 : Rpi w v5 lp) (hw : W64 zs) (hzb : B64 az) (hT : Tb w) (hl : ∀ i, i < ll.length → (pg ll i).length ≤ 5864062014634) :
    Calls Tryd.prog 4 #[v, v2, v3, .int .i64 wk, .bool back, v5] w (RetV w (.bool true)) := by
  by_cases hp : 200 < lp.length
  · exact ep_many zs wk back lp v v2 v3 v5 w h h5 hw (.inr hp)
  have hp : lp.length ≤ 200 := Nat.le_of_not_lt hp
  rcases shape_cases zs with hb | hb | ⟨ds, rfl, hs⟩
  · exact ep_bad zs az ll wk 1 back lp v v2 v3 v5 w h h2 h3 h5 hw hp (.inl ⟨rfl, hb⟩)
  · exact ep_bad zs az ll wk 2 back lp v v2 v3 v5 w h h2 h3 h5 hw hp (.inr ⟨rfl, hb⟩)
  · by_cases h64 : 64 < pr ds
    · exact ep_many (zi ds) wk back lp v v2 v3 v5 w h h5 hw (.inl ⟨ds, rfl, hs, h64⟩)
    have h64 : pr ds ≤ 64 := Nat.le_of_not_lt h64
    obtain ⟨n, hn⟩ := ck_ex ds ll
    have CR : ∀ v v2 w, Rd .i64 w v (zi ds) → RPs w v2 ll → Calls Tryd.prog 13 #[v, v2] w (RetV w (.int .i64 n)) := fun v v2 w h h2 => (rphases_any ds ll v v2 w h h2 hw hs hl).mono fun e w' ⟨m, he, hm, hb⟩ => ⟨by rw [he, ck_uniq hm hn], hb⟩
    have CC : ∀ v v2 w, Rd .i64 w v (zi ds) → RPs w v2 ll → Calls Tryd.prog 12 #[v, v2] w (RetV w (.int .i64 n)) := fun v v2 w h h2 => (pcheck_any ds ll v v2 w h h2 hw hs hl).mono fun e w' ⟨m, he, hm, hb⟩ => ⟨by rw [he, ck_uniq hm hn], hb⟩
    have h5' := h5
    obtain ⟨a5, c5, b5, o5, rfl, _⟩ := h5'
    have err : (n = 1 ∨ n = 2 ∨ n = 5) → Calls Tryd.prog 4 #[v, v2, v3, .int .i64 wk, .bool back, .slice a5 lp.length c5] w (RetV w (.bool true)) := fun h1 => by
      have hn0 : (n == 0) = false := by rcases h1 with rfl | rfl | rfl <;> rfl
      exact ep_err (zi ds) az ll wk n (pr ds) 0 back lp.length c5 a5 v v2 v3 w h h2 h3 h1 (by omega) hp ((rshape_any (zi ds) v w h hw).mono fun e w' he => ⟨he.1.ok hs, he.2⟩) CR
        (fun w h _ h3 => xnew_err v v2 v3 wk n back w hn0 (xcheck_plan v v2 v3 wk n w hn0 (CC v v3 w h h3)))
    rcases hn with ⟨rfl, _⟩ | ⟨hlen, hrp, ⟨rfl, _⟩ | ⟨rfl, hle⟩⟩
    · exact err (.inr (.inr rfl))
    · exact err (.inr (.inl rfl))
    · by_cases ha : az.length = pr ds
      · by_cases hk : wk < 1 ∨ 8 < wk
        · exact ep_wk ds az ll wk back lp.length c5 a5 v v2 v3 w h h2 h3 hw hs h64 hp ha hk CR (fun w h h2 h3 => xnew_err v v2 v3 wk 1 back w rfl (xcheck_wk ds az v v2 v3 wk w h h2 hw hs ha hk (CC v v3 w h h3)))
        · obtain ⟨ks, rfl, _⟩ := shp_ks hs
          obtain ⟨W, rfl⟩ : ∃ W : Nat, wk = (W : Int) := ⟨wk.toNat, by omega⟩
          exact ep_ok ks ll az W back lp v v2 v3 _ w h h2 h3 h5 hw ⟨hs, by rw [hlen, szs_len], fun x hx => hrp x (by rw [← hlen]; exact hx), hle⟩ h64 ha hzb hT (by omega) (by omega) hp CR
      · exact ep_len ds az ll wk back lp.length c5 a5 v v2 v3 w h h2 h3 hw hs h64 hp ha CR (fun w h h2 h3 => xnew_err v v2 v3 wk 5 back w rfl (xcheck_len ds az v v2 v3 wk w h h2 hw hs ha (CC v v3 w h h3)))
end Go.Proofs.YtcakeenfkdhedaaDoor.Gm
