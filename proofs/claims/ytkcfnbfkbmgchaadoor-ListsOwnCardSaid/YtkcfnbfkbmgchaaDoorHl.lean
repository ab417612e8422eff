/- Places of an array: the reference's Places, Place. -/
import Derived.Test.YtkcfnbfkbmgchaaDoorHs
import Derived.Test.YtkcfnbfkbmgchaaDoorOn
import Derived.Deep.RegionHeld3
import Derived.Deep.AppendLies
namespace Go.Proofs.YtkcfnbfkbmgchaaDoor.Gm
open Go.RowKit
/-- a call's end: a list of integers of its own -/
def RetI (w : World) (l : List Int) (e : Ending) (w' : World) : Prop := ∃ v, e = .returned v ∧ Oz .i64 3 w.heap.size w' v l ∧ Below w.heap.size w w'
theorem zi_snoc (l : List Nat) (n : Nat) : zi (l ++ [n]) = zi l ++ [(n : Int)] := by simp [zi]
theorem plcs_take (l : List Nat) (k i : Nat) (hi : i < l.length) : (plcs l k).take (i + 1) = (plcs l k).take i ++ [k / under l i % nd l i] := by
  rw [List.take_succ_eq_append_getElem (by rw [plcs_len]; exact hi)]
  congr 2
  rw [← nd_lt (by rw [plcs_len]; exact hi), nd_plcs l k i hi]
def PlcRel (w : World) (l : List Nat) (k : Nat) (out i : Value) (wr : World) : Prop :=
  ∃ m : Nat, m ≤ l.length ∧ i = .int .i64 m ∧ Oz .i64 3 w.heap.size wr out (zi ((plcs l k).take m)) ∧ Below w.heap.size w wr
theorem nat_quo (k u : Nat) : ((k : Int)).tdiv (u : Int) = ((k / u : Nat) : Int) := rfl
theorem nat_rem (k u : Nat) : ((k : Int)).tmod (u : Int) = ((k % u : Nat) : Int) := rfl
theorem wrap_nat {n : Nat} (h : n ≤ 9223372036854775807) : IntKind.i64.wrap (n : Int) = (n : Int) := IntWalk.i64_in _ (by omega)
set_option maxHeartbeats 2000000 in
theorem rplaces_any (ds : List Nat) (k : Nat) (z : Int) (v : Value) (w : World) (h : Rd .i64 w v (zi ds)) (hs : Shp ds) (hk : k ≤ 1048576) (hz : z = k) :
    Calls Tryd.prog 77 #[v, .int .i64 z] w (RetI w (zi (plcs ds k))) := by
  subst hz
  obtain ⟨a, cap, b, off, rfl, hcap, hm, hx, hc⟩ := h.opened
  have HC := Lib.hid hc
  have hl0 := hs.len0
  have hl3 := hs.len3
  have HS := Lib.hid hs
  rw [zi_len] at hcap hx
  have LZ := Lib.hid (zi_len ds)
  clear hc h hs
  rcases hx with hx | rfl
  · exfalso; omega
  go_enter Tryd.func77, Tryd.ntmps77
  rw [LZ.out]
  go_wp2
  go_loopw [5, 6] (fun out i wr => PlcRel w ds k out i wr) (fun _ i _ => ds.length - (intOf i).toNat)
  case atStart => exact ⟨0, by omega, rfl, Oz.nil _ _ _ _, Below.refl _ _⟩
  case round =>
    obtain ⟨m, hm1, rfl, hout, hbel⟩ := hrel
    have OO := Lib.hid hout
    have HB := Lib.hid hbel
    have hwsz := hbel.size
    clear hout hbel
    by_cases hml : m < ds.length
    · have hcw := HC.out m (by rw [LZ.out]; exact hml)
      rw [gd_zi] at hcw
      have hcm : wr.cell? ⟨b, off + m, none⟩ = some (.int .i64 (nd ds m : Int)) := (HB.out.cell (p := ⟨b, off + m, none⟩) (World.block_lt_of_cell? _ _ hcw)).trans hcw
      have hbw := World.block_lt_of_cell? _ _ hcw
      simp only at hbw
      have FX := Lib.hid (show some b ≠ u5.ownBlock from fun e => by have := (OO.out.lt _ e.symm).1; omega)
      have U1 := Lib.hid (HS.out.under1 m)
      have UL := Lib.hid (HS.out.underle m)
      have N1 := Lib.hid (HS.out.nd1 hml)
      have NL := Lib.hid (HS.out.ndle hml)
      have PT := Lib.hid (plcs_take ds k m hml)
      have TL := Lib.hid (show (zi ((plcs ds k).take m)).length = m by rw [zi_len, List.length_take, plcs_len]; omega)
      clear hcw
      obtain ⟨wo, hwo⟩ : ∃ wo : World, wo = wr := ⟨_, rfl⟩
      subst hwo
      go_wp2
      go_loop [7, 8] (fun u j => ∃ t : Nat, m + 1 + t ≤ ds.length ∧ j = .int .i64 ((m : Int) + 1 + (t : Int)) ∧ u = .int .i64 (pr ((ds.drop (m + 1)).take t))) (fun _ j => ds.length - (intOf j).toNat)
      case atStart => exact ⟨0, by omega, by simp, rfl⟩
      case round =>
        obtain ⟨t, ht, rfl, rfl⟩ := hrel
        have hpl : pr ((ds.drop (m + 1)).take t) ≤ 1024 := Nat.le_trans (pr_take_le (fun d hd => HS.out.pos d (List.mem_of_mem_drop hd)) t) (Nat.le_trans (pr_drop_le HS.out.pos _) HS.out.le)
        by_cases htl : m + 1 + t < ds.length
        · have hcw := HC.out (m + 1 + t) (by rw [LZ.out]; exact htl)
          rw [gd_zi] at hcw
          have hct : wo.cell? ⟨b, off + (m + 1 + t), none⟩ = some (.int .i64 (nd ds (m + 1 + t) : Int)) := (HB.out.cell (p := ⟨b, off + (m + 1 + t), none⟩) (World.block_lt_of_cell? _ _ hcw)).trans hcw
          have hdl := HS.out.ndle htl
          have hd1 := HS.out.nd1 htl
          have PS := Lib.hid (show pr ((ds.drop (m + 1)).take (t + 1)) = pr ((ds.drop (m + 1)).take t) * nd ds (m + 1 + t) by
            rw [pr_take_succ _ _ (by rw [List.length_drop]; omega)]
            congr 1
            rw [nd_eq, nd_eq, List.getElem?_drop])
          clear hcw
          generalize nd ds (m + 1 + t) = d at *
          generalize pr ((ds.drop (m + 1)).take t) = p at *
          have hmul := Nat.mul_le_mul hpl hdl
          have hm0 : (0 : Int) ≤ (p : Int) * (d : Int) := by rw [← Int.natCast_mul]; exact Int.natCast_nonneg _
          have hm1 : (p : Int) * (d : Int) ≤ 1048576 := by rw [← Int.natCast_mul]; omega
          have hti : ((m : Int) + 1 + (t : Int)).toNat = m + 1 + t := by omega
          clear hmul
          go_wp2
          go_round
          case rel => exact ⟨t + 1, by omega, by simp [Int.add_assoc], by rw [PS.out, Int.natCast_mul]⟩
          case measure => simp [intOf]; omega
        · have htt : t = ds.length - (m + 1) := by omega
          have hu : pr ((ds.drop (m + 1)).take t) = under ds m := by
            unfold under; rw [List.take_of_length_le (by rw [List.length_drop]; omega)]
          rw [hu] at hpl ⊢
          clear hu htt
          have hu1 := U1.out
          have hn1 := N1.out
          generalize under ds m = u at *
          generalize nd ds m = d at *
          have hu0 : ¬ u = 0 := by omega
          have hd0 : ¬ d = 0 := by omega
          have hqle := Nat.div_le_self k u
          have e1 := nat_quo k u
          have e2 : IntKind.i64.wrap ((k / u : Nat) : Int) = ((k / u : Nat) : Int) := wrap_nat (by omega)
          have e3 := nat_rem (k / u) d
          generalize k / u = q at *
          generalize q % d = r at *
          have hll : (zi ((plcs ds k).take m)).length ≤ 1000000 := by rw [TL.out]; omega
          go_wp2
          go_region_held3 (fun w' => w'.cell? ⟨b, off + m, none⟩ = some (.int .i64 (d : Int))) (first | go_keep | (rw [G1.cell_far _ (by simp <;> omega) FX.out]; assumption)) (first | (refine st_app_int _ (by rfl) (.tmp 29) (.tmp 38) (by rfl) w.heap.size u5 (zi ((plcs ds k).take m)) (r : Int) w _ (by rfl) (by rfl) (OO.out.below (by repeat (first | exact Below.refl _ _ | refine Below.drew ?_ | refine Below.alloc ?_ (by first | exact Nat.le_refl _ | (simp; done) | (simp; omega)) _))) (by first | exact heap_alloc_new _ _) (by repeat (first | exact HB.out | refine Below.drew ?_ | refine Below.alloc ?_ (by first | omega | (simp; omega)) _)) (by simp; omega) hll ?_; intro v1 w1 O1 B1 G1 A1))
          all_goals
            (go_wp2
             go_roundw
             case rel => exact ⟨m + 1, by omega, by go_num, by rw [PT.out, zi_snoc]; exact O1, B1⟩
             case measure => simp [intOf] <;> omega)
    · obtain rfl : m = ds.length := by omega
      rw [List.take_of_length_le (by rw [plcs_len]; exact Nat.le_refl _)] at OO
      go_wp2
      go_ret
      exact ⟨_, rfl, OO.out, HB.out⟩
def PlRel (w : World) (ds p : List Nat) (n i : Value) (wr : World) : Prop :=
  ∃ m : Nat, m ≤ ds.length ∧ i = .int .i64 m ∧ n = .int .i64 (plf ds p m) ∧ Below w.heap.size w wr
set_option maxHeartbeats 2000000 in
theorem rplace_any (ds p : List Nat) (v v2 : Value) (w : World) (h : Rd .i64 w v (zi ds)) (h2 : Rd .i64 w v2 (zi p)) (hs : Shp ds) (hp : p.length = ds.length) (hlt : ∀ i, i < ds.length → nd p i < nd ds i) :
    Calls Tryd.prog 78 #[v, v2] w (RetV w (.int .i64 (plc ds p))) := by
  obtain ⟨a, cap, b, off, rfl, hcap, hm, hx, hc⟩ := h.opened
  obtain ⟨a2, cap2, b2, off2, rfl, hcap2, hm2, hx2, hc2⟩ := h2.opened
  have HC := Lib.hid hc
  have HC2 := Lib.hid hc2
  have hl0 := hs.len0
  have hl3 := hs.len3
  have HS := Lib.hid hs
  have HL := Lib.hid hlt
  have HP := Lib.hid hp
  rw [zi_len] at hcap hx hcap2 hx2
  rw [hp] at hcap2 hx2
  have LZ := Lib.hid (zi_len ds)
  have LZ2 := Lib.hid (show (zi p).length = ds.length by rw [zi_len, hp])
  have PF := Lib.hid (plf_full ds p hp)
  clear hc h hc2 h2 hs hlt hp
  rcases hx with hx | rfl
  · exfalso; omega
  rcases hx2 with hx2 | rfl
  · exfalso; omega
  go_enter Tryd.func78, Tryd.ntmps78
  rw [LZ.out, LZ2.out]
  go_wp2
  go_loopw [5, 6] (fun n i wr => PlRel w ds p n i wr) (fun _ i _ => ds.length - (intOf i).toNat)
  case atStart => exact ⟨0, by omega, rfl, rfl, Below.refl _ _⟩
  case round =>
    obtain ⟨m, hm1, rfl, rfl, hbel⟩ := hrel
    have HB := Lib.hid hbel
    clear hbel
    by_cases hml : m < ds.length
    · have hcw := HC.out m (by rw [LZ.out]; exact hml)
      have hcw2 := HC2.out m (by rw [LZ2.out]; exact hml)
      rw [gd_zi] at hcw hcw2
      have hcm : wr.cell? ⟨b, off + m, none⟩ = some (.int .i64 (nd ds m : Int)) := (HB.out.cell (p := ⟨b, off + m, none⟩) (World.block_lt_of_cell? _ _ hcw)).trans hcw
      have hcm2 : wr.cell? ⟨b2, off2 + m, none⟩ = some (.int .i64 (nd p m : Int)) := (HB.out.cell (p := ⟨b2, off2 + m, none⟩) (World.block_lt_of_cell? _ _ hcw2)).trans hcw2
      have hle1 : plf ds p m ≤ 1024 := by
        have h1 := plf_lt HL.out m (by omega)
        have h2 := pr_take_le HS.out.pos m
        have h3 := HS.out.le
        omega
      have hle2 : plf ds p (m + 1) ≤ 1024 := by
        have h1 := plf_lt HL.out (m + 1) (by omega)
        have h2 := pr_take_le HS.out.pos (m + 1)
        have h3 := HS.out.le
        omega
      have PS := Lib.hid (show plf ds p (m + 1) = plf ds p m * nd ds m + nd p m from rfl)
      rw [PS.out] at hle2
      clear hcw hcw2
      generalize plf ds p m = q at *
      generalize nd ds m = d at *
      generalize nd p m = y at *
      have hm0 : (0 : Int) ≤ (q : Int) * (d : Int) := by rw [← Int.natCast_mul]; exact Int.natCast_nonneg _
      have hm1 : (q : Int) * (d : Int) + (y : Int) ≤ 1024 := by rw [← Int.natCast_mul]; omega
      have e1 : IntKind.i64.wrap ((q : Int) * (d : Int)) = (q : Int) * (d : Int) := IntWalk.i64_in _ (by omega)
      have e2 : IntKind.i64.wrap ((q : Int) * (d : Int) + (y : Int)) = (q : Int) * (d : Int) + (y : Int) := IntWalk.i64_in _ (by omega)
      go_wp2
      go_quiet (fail)
      go_wp2
      go_roundw
      case rel => exact ⟨m + 1, by omega, by go_num, by rw [PS.out, Int.natCast_add, Int.natCast_mul], below_drewN HB.out _⟩
      case measure => simp [intOf] <;> omega
    · obtain rfl : m = ds.length := by omega
      rw [PF.out]
      go_wp2
      go_ret
      exact ⟨rfl, HB.out⟩
end Go.Proofs.YtkcfnbfkbmgchaaDoor.Gm
