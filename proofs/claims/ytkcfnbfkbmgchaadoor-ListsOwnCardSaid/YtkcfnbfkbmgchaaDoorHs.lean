/- Shapes: the reference's Shape, many.Check. -/
import Derived.Test.YtkcfnbfkbmgchaaDoorPla
import Derived.Test.YtkcfnbfkbmgchaaDoorPa
import Derived.Test.YtkcfnbfkbmgchaaDoorIn
import Derived.Laws.BitsAllLaws
import Derived.Laws.BitsLemmas
namespace Go.Proofs.YtkcfnbfkbmgchaaDoor.Gm
open Go.RowKit
def W64 (l : List Int) : Prop := ∀ a ∈ l, (Lit.int .i64 a).wf = true
theorem W64.get {l : List Int} (h : W64 l) {i : Nat} (hi : i < l.length) : -9223372036854775808 ≤ gd l i ∧ gd l i ≤ 9223372036854775807 := by
  have h1 := h (gd l i) (by rw [gd_eq, List.getElem?_eq_getElem hi]; exact List.getElem_mem hi)
  simpa [Lit.wf, IntKind.min, IntKind.max, IntKind.signed, IntKind.bits] using h1
/-- naturals as integers -/
def zi (l : List Nat) : List Int := l.map (fun n : Nat => (n : Int))
theorem zi_len (l : List Nat) : (zi l).length = l.length := by simp [zi]
theorem gd_zi (l : List Nat) (i : Nat) : gd (zi l) i = (nd l i : Int) := by
  rw [gd_eq, nd_eq, zi, List.getElem?_map]
  cases l[i]? <;> rfl
theorem gd_memZ {l : List Int} {i : Nat} (h : i < l.length) : gd l i ∈ l := by
  rw [gd_eq, List.getElem?_eq_getElem h]; exact List.getElem_mem h
/-- not a shape: a wrong count of axes, or a size that is no power of two -/
def Bad (zs : List Int) : Prop := ¬ (1 ≤ zs.length ∧ zs.length ≤ 3) ∨ ∃ d ∈ zs, ¬ pw d
/-- too large a shape -/
def Big (zs : List Int) : Prop := ∃ ds, zs = zi ds ∧ 1 ≤ ds.length ∧ ds.length ≤ 3 ∧ (∀ d ∈ ds, ∃ k, d = 2 ^ k) ∧ 1024 < pr ds
theorem pw_nat {d : Int} (h : pw d) : ∃ k : Nat, d = ((2 ^ k : Nat) : Int) := by obtain ⟨k, hk⟩ := h; exact ⟨k, by rw [hk]; simp⟩
theorem to_nat {zs : List Int} (h : ∀ d ∈ zs, pw d) : ∃ ds, zs = zi ds ∧ ∀ d ∈ ds, ∃ k, d = 2 ^ k := by
  induction zs with
  | nil => exact ⟨[], rfl, by simp⟩
  | cons z zs ih =>
    obtain ⟨ds, h1, h2⟩ := ih (fun d hd => h d (by simp [hd]))
    obtain ⟨k, hk⟩ := pw_nat (h z (by simp))
    exact ⟨2 ^ k :: ds, by rw [h1, hk]; rfl, fun d hd => by rcases List.mem_cons.1 hd with rfl | hd; exact ⟨k, rfl⟩; exact h2 d hd⟩
theorem pw_of {ds : List Nat} (h : ∀ d ∈ ds, ∃ k, d = 2 ^ k) : ∀ d ∈ zi ds, pw d := by
  intro d hd
  obtain ⟨n, hn, rfl⟩ := List.mem_map.1 hd
  obtain ⟨k, rfl⟩ := h n hn
  exact ⟨k, by simp⟩
theorem shape_cases (zs : List Int) : Bad zs ∨ Big zs ∨ ∃ ds, zs = zi ds ∧ Shp ds := by
  by_cases h : 1 ≤ zs.length ∧ zs.length ≤ 3
  · by_cases h2 : ∀ d ∈ zs, pw d
    · obtain ⟨ds, rfl, h3⟩ := to_nat h2
      rw [zi_len] at h
      by_cases h4 : pr ds ≤ 1024
      · exact .inr (.inr ⟨ds, rfl, h.1, h.2, h3, h4⟩)
      · exact .inr (.inl ⟨ds, rfl, h.1, h.2, h3, by omega⟩)
    · exact .inl (.inr (by
        apply Classical.byContradiction
        intro hn
        exact h2 (fun d hd => Classical.byContradiction fun hp => hn ⟨d, hd, hp⟩)))
  · exact .inl (.inl h)
theorem zi_inj {a b : List Nat} (h : zi a = zi b) : a = b := by
  have := congrArg (List.map Int.toNat) h
  simpa [zi, List.map_map, Function.comp_def] using this
theorem Bad.not_shp {ds : List Nat} (h : Bad (zi ds)) (h1 : 1 ≤ ds.length) (h3 : ds.length ≤ 3) (hp : ∀ d ∈ ds, ∃ k, d = 2 ^ k) : False := by
  rcases h with h | ⟨d, hd, h⟩
  · rw [zi_len] at h; exact h ⟨h1, h3⟩
  · exact h (pw_of hp d hd)
/-- the answer on a shape -/
def ShAns (zs : List Int) (e : Ending) : Prop :=
  (Bad zs ∧ e = .returned (.tuple #[.int .i64 0, .int .i64 1])) ∨ (Big zs ∧ e = .returned (.tuple #[.int .i64 0, .int .i64 2])) ∨ ∃ ds, zs = zi ds ∧ Shp ds ∧ e = .returned (.tuple #[.int .i64 (pr ds), .int .i64 0])
theorem ShAns.bad {zs : List Int} {e : Ending} (h : ShAns zs e) (hb : Bad zs) : e = .returned (.tuple #[.int .i64 0, .int .i64 1]) := by
  rcases h with ⟨_, h⟩ | ⟨⟨ds, rfl, h1, h2, h3, _⟩, _⟩ | ⟨ds, rfl, h1, _⟩
  · exact h
  · exact (hb.not_shp h1 h2 h3).elim
  · exact (hb.not_shp h1.len0 h1.len3 h1.pow).elim
theorem ShAns.big {zs : List Int} {e : Ending} (h : ShAns zs e) (hb : Big zs) : e = .returned (.tuple #[.int .i64 0, .int .i64 2]) := by
  obtain ⟨ds, rfl, h1, h2, h3, h4⟩ := hb
  rcases h with ⟨h, _⟩ | ⟨_, h⟩ | ⟨ds', e1, h5, _⟩
  · exact (h.not_shp h1 h2 h3).elim
  · exact h
  · have := zi_inj e1; subst this; have := h5.le; omega
theorem ShAns.ok {ds : List Nat} {e : Ending} (h : ShAns (zi ds) e) (hs : Shp ds) : e = .returned (.tuple #[.int .i64 (pr ds), .int .i64 0]) := by
  rcases h with ⟨h, _⟩ | ⟨⟨ds', e1, h1, h2, h3, h4⟩, _⟩ | ⟨ds', e1, h5, h⟩
  · exact (h.not_shp hs.len0 hs.len3 hs.pow).elim
  · have := zi_inj e1; subst this; have := hs.le; omega
  · have := zi_inj e1; subst this; exact h
theorem take_pw {zs : List Int} {k : Nat} (hk : k < zs.length) (h : ∀ d ∈ zs.take k, pw d) (h2 : pw (gd zs k)) : ∀ d ∈ zs.take (k + 1), pw d := by
  intro d hd
  rw [List.take_succ_eq_append_getElem hk] at hd
  rcases List.mem_append.1 hd with hd | hd
  · exact h d hd
  · rw [List.mem_singleton] at hd
    rw [hd]
    rw [gd_eq, List.getElem?_eq_getElem hk] at h2
    exact h2
set_option maxHeartbeats 2000000 in
theorem rshape_any (zs : List Int) (v : Value) (w : World) (h : Rd .i64 w v zs) (hw : W64 zs) :
    Calls Tryd.prog 35 #[v] w fun e w' => ShAns zs e ∧ w = w' := by
  obtain ⟨a, cap, b, off, rfl, hcap, hm, hx, hc⟩ := h.opened
  have HC := Lib.hid hc
  clear hc h
  by_cases hlen : 1 ≤ zs.length ∧ zs.length ≤ 3
  · obtain ⟨hl1, hl3⟩ := hlen
    rcases hx with hx | rfl
    · exfalso; omega
    go_enter Tryd.func35, Tryd.ntmps35
    go_wp2_with fail
    refine (in_yes (zs.length : Int) 1 3 _ (by omega) (by omega)).mono ?_
    rintro e w' ⟨rfl, rfl⟩
    go_wp2
    go_loop [4, 5] (fun i _ => ∃ k : Nat, k ≤ zs.length ∧ i = .int .i64 k ∧ ∀ d ∈ zs.take k, pw d) (fun i _ => zs.length - (intOf i).toNat)
    case atStart => exact ⟨0, by omega, rfl, by simp⟩
    case round =>
      obtain ⟨k, hk, rfl, hp⟩ := hrel
      have HP := Lib.hid hp
      clear hp
      by_cases hkl : k < zs.length
      · have hcell := HC.out k hkl
        have hb := hw.get hkl
        have TP := Lib.hid (take_pw hkl HP.out)
        have MM := Lib.hid (gd_memZ hkl)
        generalize gd zs k = d at *
        go_wp2
        go_loop [5] (fun m => ∃ z : Int, m = .int .i64 z ∧ z ≤ 9223372036854775807 ∧ -9223372036854775808 ≤ z ∧ (pw d ↔ pw z)) (fun m => (intOf m).toNat)
        case atStart => exact ⟨d, rfl, hb.2, hb.1, Iff.rfl⟩
        case round =>
          obtain ⟨z, rfl, hz1, hz2, hz⟩ := hrel
          have HZ := Lib.hid hz
          clear hz
          by_cases h1 : 1 < z
          · by_cases h2 : z % 2 = 0
            · have ht : z.tmod 2 = 0 := by rw [Int.tmod_eq_emod_of_nonneg (by omega)]; exact h2
              have hz' := Lib.hid (show pw d ↔ pw (z / 2) by rw [HZ.out, ← pw_double (d := z / 2), show z / 2 * 2 = z by omega])
              have H2 := Lib.hid h2
              clear h2
              go_wp2
              go_round
              case rel => exact ⟨z / 2, rfl, by omega, by omega, hz'.out⟩
              case measure => simp [intOf]; omega
            · have ht : z.tmod 2 = 1 := by rw [Int.tmod_eq_emod_of_nonneg (by omega)]; omega
              have NP := Lib.hid (show ¬ pw d from fun hp => by have := (pw_odd h2).1 (HZ.out.1 hp); omega)
              have hz1 : (z == 1) = false := by simp; omega
              clear h2
              go_wp2
              go_ret2
              exact ⟨.inl ⟨.inr ⟨d, MM.out, NP.out⟩, rfl⟩, rfl⟩
          · by_cases h2 : z = 1
            · subst h2
              have PP := Lib.hid (TP.out (HZ.out.2 pw_one))
              go_wp2
              go_round
              case rel => exact ⟨k + 1, by omega, by go_num, PP.out⟩
              case measure => simp [intOf]; omega
            · have hz1 : (z == 1) = false := by simpa using h2
              have NP := Lib.hid (show ¬ pw d from fun hp => h2 ((pw_low (by omega)).1 (HZ.out.1 hp)))
              go_wp2
              go_ret2
              exact ⟨.inl ⟨.inr ⟨d, MM.out, NP.out⟩, rfl⟩, rfl⟩
      · obtain rfl : k = zs.length := by omega
        rw [List.take_length] at HP
        obtain ⟨ds, hds, hpd⟩ := to_nat HP.out
        subst hds
        have hpos : ∀ d ∈ ds, 1 ≤ d := fun d hd => by obtain ⟨k, rfl⟩ := hpd d hd; exact Nat.two_pow_pos k
        have HPD := Lib.hid hpd
        have HPS := Lib.hid hpos
        rw [zi_len] at hl1 hl3
        have LZ := Lib.hid (zi_len ds)
        clear hpd hpos
        rw [LZ.out]
        go_wp2
        go_loop [6, 7] (fun n i => ∃ k : Nat, k ≤ ds.length ∧ i = .int .i64 k ∧ n = .int .i64 (pr (ds.take k)) ∧ pr (ds.take k) ≤ 1024) (fun _ i => ds.length - (intOf i).toNat)
        case atStart => exact ⟨0, by omega, rfl, rfl, by simp [pr]⟩
        case round =>
          obtain ⟨k, hk, rfl, rfl, hle⟩ := hrel
          by_cases hkl : k < ds.length
          · have hcell := HC.out k (by rw [LZ.out]; exact hkl)
            rw [gd_zi] at hcell
            have PT := Lib.hid (pr_take_succ ds k hkl)
            have hd1 := HPS.out _ (nd_mem hkl)
            have TL := Lib.hid (pr_take_le HPS.out (k + 1))
            have TN := Lib.hid (pr_pos (l := ds.take k) (fun d hd => HPS.out d (List.mem_of_mem_take hd)))
            have hn1 := TN.out
            have SPL := Lib.hid (pr_take_le HPS.out (k + 1))
            have hbw : ((nd ds k : Nat) : Int) ≤ 9223372036854775807 := by
              have := hw.get (i := k) (by rw [LZ.out]; exact hkl)
              rw [gd_zi] at this
              exact this.2
            generalize pr (ds.take k) = p at *
            generalize nd ds k = d at *
            by_cases hbig : 1024 < d
            · have BB := Lib.hid (show 1024 < pr ds by have h1 := SPL.out; rw [PT.out] at h1; have := Nat.le_mul_of_pos_left d hn1; omega)
              go_wp2
              go_ret2
              exact ⟨.inr (.inl ⟨⟨ds, rfl, hl1, hl3, HPD.out, BB.out⟩, rfl⟩), rfl⟩
            · have hmul := Nat.mul_le_mul hle (show d ≤ 1024 by omega)
              have hm0 : (0 : Int) ≤ (p : Int) * (d : Int) := by rw [← Int.natCast_mul]; exact Int.natCast_nonneg _
              have hm1 : (p : Int) * (d : Int) ≤ 1048576 := by rw [← Int.natCast_mul]; omega
              by_cases hbg : 1024 < p * d
              · have hbi : (1024 : Int) < (p : Int) * (d : Int) := by rw [← Int.natCast_mul]; omega
                have BB := Lib.hid (show 1024 < pr ds by have h1 := SPL.out; rw [PT.out] at h1; omega)
                clear hbg hmul
                go_wp2
                go_ret2
                exact ⟨.inr (.inl ⟨⟨ds, rfl, hl1, hl3, HPD.out, BB.out⟩, rfl⟩), rfl⟩
              · have hbi : (p : Int) * (d : Int) ≤ 1024 := by rw [← Int.natCast_mul]; omega
                have HLE := Lib.hid (show p * d ≤ 1024 by omega)
                clear hbg hmul
                go_wp2
                go_round
                case rel => exact ⟨k + 1, by omega, by go_num, by rw [PT.out, Int.natCast_mul], by rw [PT.out]; exact HLE.out⟩
                case measure => simp [intOf]; omega
          · obtain rfl : k = ds.length := by omega
            rw [List.take_length] at hle ⊢
            go_wp2
            go_ret2
            exact ⟨.inr (.inr ⟨ds, rfl, ⟨hl1, hl3, HPD.out, hle⟩, rfl⟩), rfl⟩
  · have HL := Lib.hid hlen
    have hlo : (zs.length : Int) < 1 ∨ 3 < (zs.length : Int) := by omega
    have HLO := Lib.hid hlo
    clear hlo hlen
    go_enter Tryd.func35, Tryd.ntmps35
    go_wp2_with fail
    refine (in_no (zs.length : Int) 1 3 _ HLO.out).mono ?_
    rintro e w' ⟨rfl, rfl⟩
    go_wp2
    go_ret2
    exact ⟨.inl ⟨.inl HL.out, rfl⟩, rfl⟩
end Go.Proofs.YtkcfnbfkbmgchaaDoor.Gm
