/- A run's step. -/
import Derived.Test.YtcakeenfkdhedaaDoorEn
namespace Go.Proofs.YtcakeenfkdhedaaDoor.Gm
open Go.RowKit
set_option linter.unusedVariables false
theorem Only.cell' {S : Nat → Prop} {w w' : World} (ho : Only S w w') {b o : Nat} {v : Value} (hc : w.cell? ⟨b, o, none⟩ = some v) (hS : ¬ S b) : w'.cell? ⟨b, o, none⟩ = some v := by
  have hlt : b < w.heap.size := World.block_lt_of_cell? w ⟨b, o, none⟩ hc
  exact (World.cell?_of_block (w := w) (w' := w') (a := ⟨b, o, none⟩) (ho.block b hlt hS)).trans hc
theorem Tb.only {S : Nat → Prop} {w w' : World} (h : Tb w) (ho : Only S w w') (hS : ¬ S 3) : Tb w' := fun j hj => ho.cell' (h j hj) hS
/-- a pick's value -/
def pkv (a v : Int) : Value := .agg #[.int .i64 a, .int .i64 v]
theorem xstep_done (r : Rn) (s : RS) (C M : Nat → Prop) (w : World) (a v : Int) (h : RunAt w C M r s) (hx : s.ph = r.ll.length) :
    Calls Tryd.prog 20 #[.pointer (some ⟨r.R, 0, none⟩), pkv a v] w fun e w' => e = .returned (.int .i64 6) ∧ Below w.heap.size w w' := by
  have hal := (Below.refl w.heap.size w).alloc (Nat.le_refl _) (.cells #[.int .i64 a, .int .i64 v] 43)
  have CC := Lib.hid (xdone_any r s C M _ (h.bel hal))
  rw [decide_eq_true hx] at CC
  have HAL := Lib.hid hal
  obtain ⟨var, vlog, h⟩ := h
  obtain ⟨qa, qc, qe, _⟩ := own_shape h.dq
  have c4 : (w.alloc (.cells #[.int .i64 a, .int .i64 v] 43)).cell? ⟨r.R, 4, none⟩ = some (.slice qa r.W qc) := by rw [← qe]; exact (h.run.alloc _).cell 4
  clear h hx hal qe
  generalize r.R = R at *
  generalize r.W = W at *
  unfold pkv
  go_enter Tryd.func20, Tryd.ntmps20
  go_wp2_with fail
  refine CC.out.mono ?_
  rintro e w' ⟨rfl, hb⟩
  go_wp2
  go_ret
  exact ⟨rfl, HAL.out.trans (hb.mono (by simp))⟩
theorem xstep_bad (r : Rn) (s : RS) (C M : Nat → Prop) (w : World) (a v : Int) (h : RunAt w C M r s) (hx : s.ph < r.ll.length) (hbad : ¬ (0 ≤ a ∧ a < r.W ∧ 0 ≤ v ∧ v < r.W)) :
    Calls Tryd.prog 20 #[.pointer (some ⟨r.R, 0, none⟩), pkv a v] w fun e w' => e = .returned (.int .i64 1) ∧ Below w.heap.size w w' := by
  have hal := (Below.refl w.heap.size w).alloc (Nat.le_refl _) (.cells #[.int .i64 a, .int .i64 v] 43)
  have CC := Lib.hid (xdone_any r s C M _ (h.bel hal))
  rw [decide_eq_false (by omega)] at CC
  have HAL := Lib.hid hal
  obtain ⟨var, vlog, h⟩ := h
  obtain ⟨qa, qc, qe, _⟩ := own_shape h.dq
  have c4 : (w.alloc (.cells #[.int .i64 a, .int .i64 v] 43)).cell? ⟨r.R, 4, none⟩ = some (.slice qa r.W qc) := by rw [← qe]; exact (h.run.alloc _).cell 4
  have KB := Lib.hid (Blk.new w 43 #[.int .i64 a, .int .i64 v])
  clear h hx hal qe
  generalize r.R = R at *
  generalize r.W = W at *
  rcases (show a < 0 ∨ (0 ≤ a ∧ (W : Int) ≤ a) ∨ (0 ≤ a ∧ a < W ∧ v < 0) ∨ (0 ≤ a ∧ a < W ∧ 0 ≤ v ∧ (W : Int) ≤ v) by omega) with h1 | ⟨h1, h2⟩ | ⟨h1, h2, h3⟩ | ⟨h1, h2, h3, h4⟩
  all_goals
    clear hbad
    unfold pkv
    go_enter Tryd.func20, Tryd.ntmps20
    go_wp2_with fail
    refine CC.out.mono ?_
    rintro e w' ⟨rfl, hb⟩
    have K1 := KB.out.below hb (by simp)
    have b0 : w'.cell? ⟨w.heap.size, 0, none⟩ = some (.int .i64 a) := K1.cell 0
    have b1 : w'.cell? ⟨w.heap.size, 1, none⟩ = some (.int .i64 v) := K1.cell 1
    have HB := Lib.hid hb
    clear K1 hb c4
  · have g1 : decide (a < 0) = true := decide_eq_true (by omega)
    go_wp2
    go_ret
    exact ⟨rfl, HAL.out.trans (HB.out.mono (by simp))⟩
  · have g1 : decide (a < 0) = false := decide_eq_false (by omega)
    have g2 : decide ((W : Int) ≤ a) = true := decide_eq_true (by omega)
    go_wp2
    go_ret
    exact ⟨rfl, HAL.out.trans (HB.out.mono (by simp))⟩
  · have g1 : decide (a < 0) = false := decide_eq_false (by omega)
    have g2 : decide ((W : Int) ≤ a) = false := decide_eq_false (by omega)
    have g3 : decide (v < 0) = true := decide_eq_true (by omega)
    go_wp2
    go_ret
    exact ⟨rfl, HAL.out.trans (HB.out.mono (by simp))⟩
  · have g1 : decide (a < 0) = false := decide_eq_false (by omega)
    have g2 : decide ((W : Int) ≤ a) = false := decide_eq_false (by omega)
    have g3 : decide (v < 0) = false := decide_eq_false (by omega)
    have g4 : decide ((W : Int) ≤ v) = true := decide_eq_true (by omega)
    go_wp2
    go_ret
    exact ⟨rfl, HAL.out.trans (HB.out.mono (by simp))⟩
theorem flat_nil {qs : List (List T3)} (h : qs.flatten.length = 0) : qs = List.replicate qs.length [] := by
  have h1 : qs.flatten = [] := List.eq_nil_of_length_eq_zero h
  rw [List.flatten_eq_nil_iff] at h1
  exact List.eq_replicate_iff.2 ⟨rfl, h1⟩
/-- a phase is dealt, or all is done -/
theorem xdeal_any (r : Rn) (s : RS) (C M : Nat → Prop) (w : World) (h : RunAt w C M r s) (hg : GL r.ks r.ll) (hx : s.ph ≤ r.ll.length) (hq : s.qs = List.replicate r.W []) (h0 : s.left = 0) (hW : 1 ≤ r.W) (hW8 : r.W ≤ 8) :
    Calls Tryd.prog 56 #[.pointer (some ⟨r.R, 0, none⟩)] w fun e w' => e = .returned (.tuple #[]) ∧ RunTo C M r ⟨s.ar, dlp r.W r.ll s.ph, s.ph, (pg r.ll s.ph).length, s.log⟩ w w' := by
  rcases Nat.lt_or_ge s.ph r.ll.length with h1 | h1
  · exact xdeal_go r s C M w h h1 hq hW hW8 (hg.pos h1) (hg.le _ h1)
  · refine (xdeal_done r s C M w h (by omega)).mono ?_
    rintro e w' ⟨rfl, hb⟩
    refine ⟨rfl, M, ?_, Only.of_below (S := M) hb (fun k hk hk' => absurd hk (by omega)), fun k hk => .inl hk⟩
    rw [dlp_out h1, pg_out h1]
    have := h.bel hb
    obtain ⟨ar, qs, ph, left, log⟩ := s
    simp only at hq h0
    subst hq
    subst h0
    exact this
/-- the task of a step, done -/
theorem xdo_any (back : Bool) (ks : List Nat) (zs ar : List Int) (N x : Nat) (l r : List T3) (a b c : Int) (hs : Shp (szs ks)) (hzl : zs.length = pk ks) (hzb : B64 zs) (hw : W64 (zi (szs ks))) (hx : x < ks.length) (hxN : x < N) (har : ar = arO back ks zs N x l) (hok : LeftOk x (lnX (szs ks) x) l) (hp : l.Perm ((a, b, c) :: r)) (v v2 : Value) (w : World) (h : Rd .i64 w v (zi (szs ks))) (h2 : Rd .u64 w v2 ar) (hT : Tb w) :
    Calls Tryd.prog 43 #[v, v2, .agg #[.int .i64 a, .int .i64 b, .int .i64 c], .bool back] w (RetZE w (doT back ks ar (a, b, c)) 0) := by
  obtain ⟨_, f, u, et, hfu, hul⟩ := hok.one hp
  simp only [Prod.mk.injEq] at et
  obtain ⟨rfl, rfl, rfl⟩ := et
  have har2 : ar = pws back ks zs x l := by rw [har, arO, if_pos hxN]
  have := do_ok (szs ks) ar x (nd ks x) f u _ back v v2 w h h2 hw hs (by rw [har2]; exact pws_64 hzl hzb _ _) (by rw [har2]; exact pws_len _ _ _ _ _) (by rw [szs_len]; exact hx) (nd_szs ks hx) hfu (by rw [← lnX_szs hs hx]; exact hul) hT rfl
  rw [show pr (szs ks) = pk ks from rfl] at this
  simp only [doT, Int.toNat_natCast]
  exact this
end Go.Proofs.YtcakeenfkdhedaaDoor.Gm
