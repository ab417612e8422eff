/- goldkeep.spoil: the list's own block alone turns. (Printed by wip/mk_XSq2.py.) -/
import Derived.Test.YtcakeenfkdhedaaDoorDq
import Derived.Test.YtcakeenfkdhedaaDoorSk
namespace Go.Proofs.YtcakeenfkdhedaaDoor.Gm
open Go.RowKit
set_option linter.unusedVariables false
def SpR (te : TypeId) (w : World) (g cap K : Nat) (i : Value) (wr : World) : Prop := ∃ (m : Nat) (cs : Array Value), m ≤ cap ∧ i = .int .i64 m ∧ Blk wr g te cs ∧ cs.size = K ∧ Only (fun k => k = g) w wr
/-- a row of tasks, whatever is in it -/
def RwT (w : World) (v : Value) : Prop := v = .slice none 0 0 ∨ ∃ g n cap cur, v = .slice (some ⟨g, 0, none⟩) n cap ∧ Blk w g 56 cur ∧ n ≤ cap ∧ cur.size = cap * 3 ∧ cap ≤ maxLen
def KeepT (w w' : World) : Prop := ∀ g cur, Blk w g 56 cur → ∃ cur', Blk w' g 56 cur' ∧ cur'.size = cur.size
theorem KeepT.refl (w : World) : KeepT w w := fun g cur h => ⟨cur, h, rfl⟩
theorem KeepT.trans {a b c : World} (h : KeepT a b) (k : KeepT b c) : KeepT a c := fun g cur hg => by
  obtain ⟨c1, h1, e1⟩ := h g cur hg
  obtain ⟨c2, h2, e2⟩ := k g c1 h1
  exact ⟨c2, h2, e2.trans e1⟩
theorem KeepT.rw_ {w w' : World} (h : KeepT w w') {v : Value} (hv : RwT w v) : RwT w' v := by
  rcases hv with hv | ⟨g, n, cap, cur, e, h1, h2, h3, h4⟩
  · exact .inl hv
  · obtain ⟨c, hc, ec⟩ := h g cur h1
    exact .inr ⟨g, n, cap, c, e, hc, h2, by rw [ec, h3], h4⟩
theorem Ot.rwT {B : Nat} {w : World} {v : Value} {l : List T3} (h : Ot B w v l) : RwT w v := by
  rcases h.2 with ⟨rfl, _⟩ | ⟨g, cap, cur, rfl, _, h2, h3, h4, h5, _⟩
  · exact .inl rfl
  · exact .inr ⟨g, _, cap, cur, rfl, h2, h3, h5, h4⟩
theorem setCsz : ∀ (vs : List Value) (cs : Array Value) (o : Nat), (setCs cs o vs).size = cs.size
  | [], _, _ => rfl
  | v :: r, cs, o => by show (setCs _ _ r).size = _; rw [setCsz r]; simp

set_option maxHeartbeats 2000000 in
set_option maxRecDepth 100000 in
theorem spoilU (B n : Nat) (xs : List Value) (v : Value) (y : Int) (w : World) (h : w.ownsRow B 52 1 v n xs) :
    Calls Tryd.prog 34 #[v, .int .u64 y] w fun e w' => e = .returned (.tuple #[]) ∧ Only (fun k => v.ownBlock = some k) w w' := by
  rcases h.2 with ⟨rfl, rfl⟩ | ⟨g, cap, cur, rfl, h1, h2, h3, h4, h5, h6⟩
  · clear h
    go_enter Tryd.func34, Tryd.ntmps34
    go_wp2
    go_loop [4, 11] (fun _ i => i = .int .i64 0) (fun _ _ => 0)
    case atStart => rfl
    case round =>
      obtain rfl := hrel
      go_wp2
      go_end0
      exact ⟨rfl, Only.refl _ _⟩
  · have H2 := Lib.hid (show Blk w g 52 cur from h2)
    have H5 := Lib.hid h5
    have hcap : cap ≤ 9223372036854775807 := by unfold maxLen at h4; omega
    clear h2 h6 h5 h
    have H20 := H2
    go_enter Tryd.func34, Tryd.ntmps34
    go_wp2
    go_loopw [4, 11] (fun _ i wr => SpR 52 w g cap cur.size i wr) (fun _ i _ => cap - (intOf i).toNat)
    case atStart => exact ⟨0, cur, by omega, rfl, H20.out, rfl, Only.refl _ _⟩
    case round =>
      obtain ⟨m, cs, hm, rfl, hb, hcK, ho⟩ := hrel
      have HB := Lib.hid hb
      have HO := Lib.hid ho
      have HK := Lib.hid hcK
      clear hb ho hcK
      by_cases hml : m < cap
      · go_wp2_with (refine wl_storeBlk1 52 (fun _ => rfl) _ rfl (.tmp 17) (.tmp 16) rfl g m 52 cs .u64 y rfl rfl HB.out (by rw [HK.out, H5.out, Nat.mul_one]; exact hml) ?_)
        intro w2 hb2 ho2 hs2
        have HB2 := Lib.hid hb2
        have HO2 := Lib.hid (HO.out.trans ho2)
        clear hb2 ho2
        go_wp2
        go_roundw
        case rel => exact ⟨m + 1, _, by omega, by go_num, HB2.out, by first | (rw [Array.size_setIfInBounds]; exact HK.out) | (rw [setCsz]; exact HK.out), HO2.out⟩
        case measure => simp [intOf] <;> omega
      · obtain rfl : cap = m := by omega
        go_wp2
        go_end0
        exact ⟨rfl, HO.out.mono fun k _ e => by rw [e]; rfl⟩

set_option maxHeartbeats 2000000 in
set_option maxRecDepth 100000 in
theorem spoilI (B n : Nat) (xs : List Value) (v : Value) (y : Int) (w : World) (h : w.ownsRow B 3 1 v n xs) :
    Calls Tryd.prog 35 #[v, .int .i64 y] w fun e w' => e = .returned (.tuple #[]) ∧ Only (fun k => v.ownBlock = some k) w w' := by
  rcases h.2 with ⟨rfl, rfl⟩ | ⟨g, cap, cur, rfl, h1, h2, h3, h4, h5, h6⟩
  · clear h
    go_enter Tryd.func35, Tryd.ntmps35
    go_wp2
    go_loop [4, 11] (fun _ i => i = .int .i64 0) (fun _ _ => 0)
    case atStart => rfl
    case round =>
      obtain rfl := hrel
      go_wp2
      go_end0
      exact ⟨rfl, Only.refl _ _⟩
  · have H2 := Lib.hid (show Blk w g 3 cur from h2)
    have H5 := Lib.hid h5
    have hcap : cap ≤ 9223372036854775807 := by unfold maxLen at h4; omega
    clear h2 h6 h5 h
    have H20 := H2
    go_enter Tryd.func35, Tryd.ntmps35
    go_wp2
    go_loopw [4, 11] (fun _ i wr => SpR 3 w g cap cur.size i wr) (fun _ i _ => cap - (intOf i).toNat)
    case atStart => exact ⟨0, cur, by omega, rfl, H20.out, rfl, Only.refl _ _⟩
    case round =>
      obtain ⟨m, cs, hm, rfl, hb, hcK, ho⟩ := hrel
      have HB := Lib.hid hb
      have HO := Lib.hid ho
      have HK := Lib.hid hcK
      clear hb ho hcK
      by_cases hml : m < cap
      · go_wp2_with (refine wl_storeBlk1 3 (fun _ => rfl) _ rfl (.tmp 17) (.tmp 16) rfl g m 3 cs .i64 y rfl rfl HB.out (by rw [HK.out, H5.out, Nat.mul_one]; exact hml) ?_)
        intro w2 hb2 ho2 hs2
        have HB2 := Lib.hid hb2
        have HO2 := Lib.hid (HO.out.trans ho2)
        clear hb2 ho2
        go_wp2
        go_roundw
        case rel => exact ⟨m + 1, _, by omega, by go_num, HB2.out, by first | (rw [Array.size_setIfInBounds]; exact HK.out) | (rw [setCsz]; exact HK.out), HO2.out⟩
        case measure => simp [intOf] <;> omega
      · obtain rfl : cap = m := by omega
        go_wp2
        go_end0
        exact ⟨rfl, HO.out.mono fun k _ e => by rw [e]; rfl⟩

set_option maxHeartbeats 2000000 in
set_option maxRecDepth 100000 in
theorem spoilP (B n : Nat) (xs : List Value) (v : Value) (w : World) (h : w.ownsRow B 63 1 v n xs) :
    Calls Tryd.prog 37 #[v, .slice none 0 0] w fun e w' => e = .returned (.tuple #[]) ∧ Only (fun k => v.ownBlock = some k) w w' := by
  rcases h.2 with ⟨rfl, rfl⟩ | ⟨g, cap, cur, rfl, h1, h2, h3, h4, h5, h6⟩
  · clear h
    go_enter Tryd.func37, Tryd.ntmps37
    go_wp2
    go_loop [4, 11] (fun _ i => i = .int .i64 0) (fun _ _ => 0)
    case atStart => rfl
    case round =>
      obtain rfl := hrel
      go_wp2
      go_end0
      exact ⟨rfl, Only.refl _ _⟩
  · have H2 := Lib.hid (show Blk w g 63 cur from h2)
    have H5 := Lib.hid h5
    have hcap : cap ≤ 9223372036854775807 := by unfold maxLen at h4; omega
    clear h2 h6 h5 h
    have H20 := H2
    go_enter Tryd.func37, Tryd.ntmps37
    go_wp2
    go_loopw [4, 11] (fun _ i wr => SpR 63 w g cap cur.size i wr) (fun _ i _ => cap - (intOf i).toNat)
    case atStart => exact ⟨0, cur, by omega, rfl, H20.out, rfl, Only.refl _ _⟩
    case round =>
      obtain ⟨m, cs, hm, rfl, hb, hcK, ho⟩ := hrel
      have HB := Lib.hid hb
      have HO := Lib.hid ho
      have HK := Lib.hid hcK
      clear hb ho hcK
      by_cases hml : m < cap
      · go_wp2_with (refine wl_storeS 63 (fun _ => rfl) _ rfl (.tmp 17) (.tmp 16) rfl g m 63 cs none 0 0 rfl rfl HB.out (by rw [HK.out, H5.out, Nat.mul_one]; exact hml) ?_)
        intro w2 hb2 ho2 hs2
        have HB2 := Lib.hid hb2
        have HO2 := Lib.hid (HO.out.trans ho2)
        clear hb2 ho2
        go_wp2
        go_roundw
        case rel => exact ⟨m + 1, _, by omega, by go_num, HB2.out, by first | (rw [Array.size_setIfInBounds]; exact HK.out) | (rw [setCsz]; exact HK.out), HO2.out⟩
        case measure => simp [intOf] <;> omega
      · obtain rfl : cap = m := by omega
        go_wp2
        go_end0
        exact ⟨rfl, HO.out.mono fun k _ e => by rw [e]; rfl⟩

set_option maxHeartbeats 2000000 in
set_option maxRecDepth 100000 in
theorem spoilT (v : Value) (x0 x1 x2 : Int) (w : World) (h : RwT w v) :
    Calls Tryd.prog 36 #[v, .agg #[.int .i64 x0, .int .i64 x1, .int .i64 x2]] w fun e w' => e = .returned (.tuple #[]) ∧ Only (fun k => v.ownBlock = some k) w w' ∧ KeepT w w' := by
  rcases h with rfl | ⟨g, n, cap, cur, rfl, h2, h3, h5, h4⟩
  · go_enter Tryd.func36, Tryd.ntmps36
    go_wp2
    go_loop [4, 11] (fun _ i => i = .int .i64 0) (fun _ _ => 0)
    case atStart => rfl
    case round =>
      obtain rfl := hrel
      go_wp2
      go_end0
      exact ⟨rfl, (Only.refl _ _).alloc _, fun g cur hg => ⟨cur, hg.alloc _, rfl⟩⟩
  · have H2 := Lib.hid (show Blk w g 56 cur from h2)
    have H5 := Lib.hid h5
    have hcap : cap ≤ 9223372036854775807 := by unfold maxLen at h4; omega
    clear h2 h5
    have hgl : g < w.heap.size := H2.out.lt
    have H20 := Lib.hid (H2.out.alloc (.cells #[.int .i64 x0, .int .i64 x1, .int .i64 x2] 56))
    have KB := Lib.hid (Blk.new w 56 #[.int .i64 x0, .int .i64 x1, .int .i64 x2])
    go_enter Tryd.func36, Tryd.ntmps36
    go_wp2
    obtain ⟨w0, hw0⟩ : ∃ w0, w0 = w.alloc (.cells #[.int .i64 x0, .int .i64 x1, .int .i64 x2] 56) := ⟨_, rfl⟩
    obtain ⟨bb, hbb⟩ : ∃ bb, bb = w.heap.size := ⟨_, rfl⟩
    rw [← hbb, ← hw0] at KB
    rw [← hw0] at H20
    have HW0 := Lib.hid hw0
    have hgb : bb ≠ g := by omega
    rw [← hw0, ← hbb]
    clear hw0 hbb
    go_loopw [4, 11] (fun _ i wr => SpR 56 w0 g cap cur.size i wr) (fun _ i _ => cap - (intOf i).toNat)
    case atStart => exact ⟨0, cur, by omega, rfl, H20.out, rfl, Only.refl _ _⟩
    case round =>
      obtain ⟨m, cs, hm, rfl, hb, hcK, ho⟩ := hrel
      have HB := Lib.hid hb
      have HO := Lib.hid ho
      have HK := Lib.hid hcK
      clear hb ho hcK
      by_cases hml : m < cap
      · have b0 : wr.cell? ⟨bb, 0, none⟩ = some (.int .i64 x0) := ((KB.out.only HO.out hgb)).cell 0
        have b1 : wr.cell? ⟨bb, 1, none⟩ = some (.int .i64 x1) := ((KB.out.only HO.out hgb)).cell 1
        have b2 : wr.cell? ⟨bb, 2, none⟩ = some (.int .i64 x2) := ((KB.out.only HO.out hgb)).cell 2
        have hsz : m * 3 + 3 ≤ cs.size := by rw [HK.out, H5.out]; omega
        have T1 := Lib.hid (tk_one x0 x1 x2)
        go_wp2_with (refine wl_storeBlk 56 3 (by kernel_rfl) _ rfl (.tmp 17) (.tmp 16) rfl g (m * 3) 56 cs #[.int .i64 x0, .int .i64 x1, .int .i64 x2] rfl rfl HB.out rfl hsz T1.out ?_)
        intro w2 hb2 ho2 hs2
        have HB2 := Lib.hid hb2
        have HO2 := Lib.hid (HO.out.trans ho2)
        clear hb2 ho2
        go_wp2
        go_roundw
        case rel => exact ⟨m + 1, _, by omega, by go_num, HB2.out, by first | (rw [Array.size_setIfInBounds]; exact HK.out) | (rw [setCsz]; exact HK.out), HO2.out⟩
        case measure => simp [intOf] <;> omega
      · obtain rfl : cap = m := by omega
        go_wp2
        go_end0
        refine ⟨rfl, by rw [HW0.out] at HO; exact ((Only.refl (fun k => k = g) w).alloc _).trans HO.out |>.mono fun k _ e => by rw [e]; rfl, fun k c hk => ?_⟩
        by_cases hkg : k = g
        · subst hkg
          have e : c = cur := by
            have h1 := H2.out
            unfold Blk at h1 hk
            rw [h1] at hk
            injection hk with hk
            injection hk with hk
            exact hk.symm
          exact ⟨cs, HB.out, by rw [e, HK.out]⟩
        · have h1 := hk.alloc (.cells #[.int .i64 x0, .int .i64 x1, .int .i64 x2] 56)
          rw [← HW0.out] at h1
          exact ⟨c, h1.only HO.out hkg, rfl⟩
end Go.Proofs.YtcakeenfkdhedaaDoor.Gm
