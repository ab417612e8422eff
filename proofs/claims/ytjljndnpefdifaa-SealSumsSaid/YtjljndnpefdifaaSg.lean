/- seal.places, seal.at. -/
import Derived.Test.YtjljndnpefdifaaAd
namespace Go.Proofs.Ytjljndnpefdifaa.Gm
open Go.RowKit
set_option linter.unusedVariables false
/-- the places of k, from behind: the first m are not yet laid -/
@[irreducible] def plS (ds : List Nat) (k m : Nat) : List Nat := (List.range ds.length).map fun x => if x < m then 0 else nd (plcs ds k) x
theorem plS_len (ds : List Nat) (k m : Nat) : (plS ds k m).length = ds.length := by unfold plS; simp
theorem nd_plS (ds : List Nat) (k m : Nat) {x : Nat} (hx : x < ds.length) : nd (plS ds k m) x = if x < m then 0 else nd (plcs ds k) x := by
  unfold plS
  rw [nd_eq, List.getElem?_map, List.getElem?_range hx]; rfl
theorem nd_replicate (n x : Nat) : nd (List.replicate n 0) x = 0 := by
  rw [nd_eq, List.getElem?_replicate]
  split <;> rfl
theorem plS_start (ds : List Nat) (k : Nat) : plS ds k ds.length = List.replicate ds.length 0 :=
  ext_nd (by rw [plS_len, List.length_replicate]) (fun x hx => by rw [plS_len] at hx; rw [nd_plS _ _ _ hx, if_pos hx, nd_replicate])
theorem plS_full (ds : List Nat) (k : Nat) : plS ds k 0 = plcs ds k :=
  ext_nd (by rw [plS_len, plcs_len]) (fun x hx => by rw [plS_len] at hx; rw [nd_plS _ _ _ hx, if_neg (by omega)])
theorem plS_step (ds : List Nat) (k : Nat) {m : Nat} (hm : m < ds.length) : (plS ds k (m + 1)).set m (k / under ds m % nd ds m) = plS ds k m :=
  ext_nd (by rw [List.length_set, plS_len, plS_len]) (fun x hx => by
    rw [List.length_set, plS_len] at hx
    rw [nd_set _ _ _ _ (by rw [plS_len]; exact hm), nd_plS _ _ _ hx, nd_plS _ _ _ hx]
    by_cases h : m = x
    · subst h; rw [if_pos rfl, if_neg (by omega), nd_plcs _ _ _ hx]
    · rw [if_neg h]
      by_cases h2 : x < m
      · rw [if_pos (by omega), if_pos h2]
      · rw [if_neg (by omega), if_neg h2])
theorem zi_set (l : List Nat) (i y : Nat) : (zi l).set i (y : Int) = zi (l.set i y) := by unfold zi; rw [List.map_set]
theorem zi_replicate (n : Nat) : zi (List.replicate n 0) = List.replicate n 0 := by unfold zi; rw [List.map_replicate]; rfl
def PsRel (w : World) (ds : List Nat) (k g N : Nat) (t i : Value) (wr : World) : Prop :=
  ∃ m : Nat, m ≤ N ∧ i = .int .i64 ((m : Int) - 1) ∧ t = .int .i64 (k / pr (ds.drop m) : Nat) ∧ Oz .i64 3 w.heap.size wr (.slice (some ⟨g, 0, none⟩) N N) (zi (plS ds k m)) ∧ Only (fun _ => False) w wr
set_option maxHeartbeats 2000000 in
set_option maxRecDepth 100000 in
theorem places_any (ds : List Nat) (k : Nat) (z : Int) (v : Value) (w : World) (h : Rd .i64 w v (zi ds)) (hs : Shp ds) (hk : k ≤ 1048576) (hz : z = k) :
    Calls Try.prog 56 #[v, .int .i64 z] w (RetI w (zi (plcs ds k))) := by
  subst hz
  obtain ⟨a, cap, b, off, rfl, hcap, hm, hx, hc⟩ := h.opened
  have hl0 := hs.len0
  have hl3 := hs.len3
  have HS := Lib.hid hs
  have LZ := Lib.hid (zi_len ds)
  rw [LZ.out] at hcap hx hc ⊢
  have HC := Lib.hid (show ∀ x, x < ds.length → w.cell? ⟨b, off + x, none⟩ = some (.int .i64 (nd ds x : Int)) from fun x hx => by rw [hc x hx, gd_zi])
  obtain rfl := hx.resolve_left (by omega)
  have P0 := Lib.hid (show List.replicate ds.length (0 : Int) = zi (plS ds k ds.length) by rw [plS_start, zi_replicate])
  have P1 := Lib.hid (fun m (hm : m < ds.length) => (show (zi (plS ds k (m + 1))).set m ((k / under ds m % nd ds m : Nat) : Int) = zi (plS ds k m) by rw [zi_set, plS_step _ _ hm]))
  have P2 := Lib.hid (show zi (plS ds k 0) = zi (plcs ds k) by rw [plS_full])
  have PL := Lib.hid (fun m => (show (zi (plS ds k m)).length = ds.length by rw [zi_len, plS_len]))
  have N1 := Lib.hid (fun m (hm : m < ds.length) => HS.out.nd1 hm)
  have NL := Lib.hid (fun m (hm : m < ds.length) => HS.out.ndle hm)
  have U1 := Lib.hid (fun m => HS.out.under1 m)
  have PD := Lib.hid (fun m (hm : m < ds.length) => (show k / under ds m / nd ds m = k / pr (ds.drop m) by rw [pr_drop ds m hm, Nat.mul_comm]; exact Nat.div_div_eq_div_mul _ _ _))
  have PE := Lib.hid (show k = k / pr (ds.drop ds.length) by rw [List.drop_length]; exact (Nat.div_one k).symm)
  obtain ⟨N, hN⟩ : ∃ N, N = ds.length := ⟨_, rfl⟩
  rw [← hN] at hcap hl0 hl3 HC P0 P1 PL N1 NL PD PE ⊢
  clear h hs hc hN LZ hx
  go_enter Try.func56, Try.ntmps56
  go_wp2_with (refine wl_make_int _ rfl (.tmp 8) (.tmp 8) rfl w.heap.size _ _ N w rfl rfl rfl rfl (by omega) (Below.refl _ _) (Nat.le_refl _) ?_)
  intro g w1 _ hown1 hbel1
  rw [P0.out] at hown1
  have O1 := Lib.hid hown1
  have B1 := Lib.hid hbel1
  have hs1 := hbel1.size
  clear hown1 hbel1
  go_wp2
  go_loopw [1, 6] (fun t i wr => ∃ m : Nat, m ≤ N ∧ i = .int .i64 ((m : Int) - 1) ∧ t = .int .i64 (k / pr (ds.drop m) : Nat) ∧ Oz .i64 3 w.heap.size wr (.slice (some ⟨g, 0, none⟩) N N) (zi (plS ds k m)) ∧ Below w.heap.size w wr) (fun _ i _ => (intOf i + 1).toNat)
  case atStart => exact ⟨N, by omega, rfl, by rw [← PE.out], O1.out, B1.out⟩
  case round =>
    obtain ⟨m, hm1, rfl, rfl, ho, hbel⟩ := hrel
    have OO := Lib.hid ho
    have HB := Lib.hid hbel
    have hwsz := hbel.size
    have hgl := ho.base.1
    clear ho hbel
    rcases m with _ | x
    · go_wp2
      go_ret
      rw [P2.out] at OO
      exact ⟨_, rfl, OO.out, HB.out⟩
    · have hxl : x < N := by omega
      have c3 : wr.cell? ⟨b, off + x, none⟩ = some (.int .i64 (nd ds x : Int)) := cell_below HB.out (HC.out x hxl)
      have hbw := World.block_lt_of_cell? _ _ (HC.out x hxl)
      simp only at hbw
      have hn1 := N1.out x hxl
      have hu1 := U1.out x
      have P1x := Lib.hid (P1.out x hxl)
      have PDx := Lib.hid (PD.out x hxl)
      have PLx := Lib.hid (PL.out (x + 1))
      have e0 : (((x + 1 : Nat) : Int) - 1) = (x : Int) := by omega
      rw [show k / pr (ds.drop (x + 1)) = k / under ds x from rfl]
      rw [e0]
      generalize nd ds x = d at *
      generalize under ds x = u at *
      have hd0 : ¬ d = 0 := by omega
      have hqle := Nat.div_le_self k u
      generalize k / u = q at *
      have e3 := nat_rem q d
      have e4 : ((q : Nat) : Int) % (d : Int) = ((q % d : Nat) : Int) := rfl
      have e1 := nat_quo q d
      have e2 : IntKind.i64.wrap ((q / d : Nat) : Int) = ((q / d : Nat) : Int) := wrap_nat (by have := Nat.div_le_self q d; omega)
      generalize q / d = q2 at *
      generalize q % d = r at *
      go_wp2_with (refine wl_storeI .i64 3 _ rfl (.tmp 25) (.tmp 24) (fun _ => rfl) rfl w.heap.size g x N N (zi (plS ds k (x + 1))) (r : Int) rfl rfl OO.out PLx.out hxl ?_)
      intro w5 hown5 ho5 hs6
      try rw [P1x.out] at hown5
      have O5 := Lib.hid hown5
      have c4 := cell_only ho5 c3 (by omega)
      have B5 := Lib.hid (HB.out.trans (ho5.below (by omega) (fun gg e => by omega)))
      clear hown5 ho5 c3
      go_wp2
      go_roundw
      case rel => exact ⟨x, by omega, by go_num, by rw [← PDx.out], O5.out, B5.out⟩
      case measure => simp [intOf] <;> omega
def AtRel (w : World) (ds p : List Nat) (n i : Value) : Prop :=
  ∃ m : Nat, m ≤ ds.length ∧ i = .int .i64 m ∧ n = .int .i64 (plf ds p m)
set_option maxHeartbeats 2000000 in
theorem at_places (ds p : List Nat) (v v2 : Value) (w : World) (h : Rd .i64 w v (zi ds)) (h2 : Rd .i64 w v2 (zi p)) (hs : Shp ds) (hp : p.length = ds.length) (hlt : ∀ i, i < ds.length → nd p i < nd ds i) :
    Calls Try.prog 57 #[v, v2] w fun e w' => e = .returned (.int .i64 (plc ds p)) ∧ Below w.heap.size w w' := by
  obtain ⟨a, cap, b, off, rfl, hcap, hm, hx, hc⟩ := h.opened
  obtain ⟨a2, cap2, b2, off2, rfl, hcap2, hm2, hx2, hc2⟩ := h2.opened
  have HC := Lib.hid hc
  have HC2 := Lib.hid hc2
  have hl0 := hs.len0
  have hl3 := hs.len3
  have HS := Lib.hid hs
  have HL := Lib.hid hlt
  have HP := Lib.hid hp
  rw [zi_len] at hcap hx hcap2 hx2
  rw [hp] at hcap2 hx2
  have LZ := Lib.hid (zi_len ds)
  have LZ2 := Lib.hid (show (zi p).length = ds.length by rw [zi_len, hp])
  have PF := Lib.hid (plf_full ds p hp)
  clear hc h hc2 h2 hs hlt hp
  rcases hx with hx | rfl
  · exfalso; omega
  rcases hx2 with hx2 | rfl
  · exfalso; omega
  go_enter Try.func57, Try.ntmps57
  rw [LZ.out, LZ2.out]
  go_wp2
  go_loopw [5, 6, 7, 10] (fun n _ _ i wr => PlRel w ds p n i wr) (fun _ _ _ i _ => ds.length - (intOf i).toNat)
  case atStart => exact ⟨0, by omega, rfl, rfl, Below.refl _ _⟩
  case round =>
    obtain ⟨m, hm1, rfl, rfl, hbel⟩ := hrel
    have HB := Lib.hid hbel
    clear hbel
    by_cases hml : m < ds.length
    · have hcw := HC.out m (by rw [LZ.out]; exact hml)
      have hcw2 := HC2.out m (by rw [LZ2.out]; exact hml)
      rw [gd_zi] at hcw hcw2
      have hcm : wr.cell? ⟨b, off + m, none⟩ = some (.int .i64 (nd ds m : Int)) := (HB.out.cell (p := ⟨b, off + m, none⟩) (World.block_lt_of_cell? _ _ hcw)).trans hcw
      have hcm2 : wr.cell? ⟨b2, off2 + m, none⟩ = some (.int .i64 (nd p m : Int)) := (HB.out.cell (p := ⟨b2, off2 + m, none⟩) (World.block_lt_of_cell? _ _ hcw2)).trans hcw2
      have hle1 : plf ds p m ≤ 1024 := by
        have h1 := plf_lt HL.out m (by omega)
        have h2 := pr_take_le HS.out.pos m
        have h3 := HS.out.le
        omega
      have hle2 : plf ds p (m + 1) ≤ 1024 := by
        have h1 := plf_lt HL.out (m + 1) (by omega)
        have h2 := pr_take_le HS.out.pos (m + 1)
        have h3 := HS.out.le
        omega
      have PS := Lib.hid (show plf ds p (m + 1) = plf ds p m * nd ds m + nd p m from rfl)
      rw [PS.out] at hle2
      clear hcw hcw2
      generalize plf ds p m = q at *
      generalize nd ds m = d at *
      generalize nd p m = y at *
      have hm0 : (0 : Int) ≤ (q : Int) * (d : Int) := by rw [← Int.natCast_mul]; exact Int.natCast_nonneg _
      have hm1 : (q : Int) * (d : Int) + (y : Int) ≤ 1024 := by rw [← Int.natCast_mul]; omega
      have e1 : IntKind.i64.wrap ((q : Int) * (d : Int)) = (q : Int) * (d : Int) := IntWalk.i64_in _ (by omega)
      have e2 : IntKind.i64.wrap ((q : Int) * (d : Int) + (y : Int)) = (q : Int) * (d : Int) + (y : Int) := IntWalk.i64_in _ (by omega)
      go_wp2
      try go_quiet (fail)
      try go_wp2
      go_roundw
      case rel => exact ⟨m + 1, by omega, by go_num, by rw [PS.out, Int.natCast_add, Int.natCast_mul], by (first | exact HB.out | exact below_drewN HB.out _)⟩
      case measure => simp [intOf] <;> omega
    · obtain rfl : m = ds.length := by omega
      rw [PF.out]
      go_wp2
      go_ret
      exact ⟨rfl, HB.out⟩
end Go.Proofs.Ytjljndnpefdifaa.Gm
