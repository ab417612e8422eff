/- many.all, many.Along, many.Forward, many.Inverse. -/
import Derived.Test.YtkcfnbfkbmgchaaDoorFm
import Derived.Test.YtkcfnbfkbmgchaaDoorAp
namespace Go.Proofs.YtkcfnbfkbmgchaaDoor.Gm
open Go.RowKit
set_option linter.unusedVariables false
theorem one_form (ds : List Nat) (zs : List Int) (v v2 : Value) (w : World) (h : Rd .i64 w v (zi ds)) (h2 : Rd .u64 w v2 zs) (hw : W64 (zi ds)) (hs : Shp ds) (t : TypeId) :
    Calls Tryd.prog 79 #[v, .slice (some ⟨w.heap.size, 0, none⟩) 1 1] (w.alloc (.cells #[v2] t)) fun e w' => (zs.length = pr ds ∧ e = .returned (.int .i64 0) ∨ zs.length ≠ pr ds ∧ e = .returned (.int .i64 5)) ∧ Below w.heap.size w w' := by
  have hal := (Below.refl w.heap.size w).alloc (Nat.le_refl _) (.cells #[v2] t)
  obtain ⟨a, cap, rfl, hcap, hm⟩ := h2.shape
  have := form_ok ds [zs.length] w.heap.size v _ (h.below hal) hw hs (by simp) (by intro d hd; simp at hd; subst hd; omega) (fun i hi => by
    have : i = 0 := by simpa using hi
    subst this
    exact ⟨a, cap, by rw [World.cell?_alloc_at _ _ _ _ rfl, nd_zero]; rfl⟩)
  refine this.mono ?_
  rintro e w' (⟨h1, rfl, hb⟩ | ⟨⟨d, hd, h1⟩, rfl, hb⟩)
  · exact ⟨.inl ⟨h1 _ (by simp), rfl⟩, hal.trans (hb.mono (by simp))⟩
  · have : d = zs.length := by simpa using hd
    subst this
    exact ⟨.inr ⟨h1, rfl⟩, hal.trans (hb.mono (by simp))⟩
set_option maxHeartbeats 4000000 in
set_option maxRecDepth 100000 in
theorem all_ok (ks : List Nat) (zs : List Int) (back : Bool) (v v2 : Value) (w : World) (h : Rd .i64 w v (zi (szs ks))) (h2 : Rd .u64 w v2 zs) (hw : W64 (zi (szs ks))) (hs : Shp (szs ks)) (hz : B64 zs) (hl : zs.length = pk ks) (hT : Tb w) :
    Calls Tryd.prog 81 #[v, v2, .bool back] w (RetLE w (WL back ks (zs.map toF)) 0) := by
  have h0 : 1 ≤ ks.length := by have := hs.len0; rwa [szs_len] at this
  have h3 : ks.length ≤ 3 := by have := hs.len3; rwa [szs_len] at this
  have X := Lib.hid h
  have Y := Lib.hid h2
  have T := Lib.hid hT
  have HW := Lib.hid (alT_whole (back := back) (zs := zs) h0)
  have HZ := Lib.hid (alT_zero back ks zs)
  have HS := Lib.hid (fun x => (alT_succ back ks zs x).symm)
  have HL := Lib.hid (fun x => alT_len (back := back) hl x)
  have HB := Lib.hid (fun x => alT_64 (back := back) hl hz x)
  have CF := Lib.hid (fun w v v2 h h2 t => one_form (szs ks) zs v v2 w h h2 hw hs t)
  have CA := Lib.hid (fun x (hx : x < ks.length) L v v2 w h h2 (hL : L.length = pk ks) hz hT => along_any (szs ks) L x (nd ks x) back v v2 (x : Int) w h h2 hs hz hL (by rw [szs_len]; exact hx) (nd_szs ks hx) hT rfl)
  obtain ⟨a, cap, rfl, hcap, hm⟩ := h.shape
  obtain ⟨a2, cap2, rfl, hcap2, hm2⟩ := h2.shape
  have HPK := Lib.hid hl
  have LZ := Lib.hid (show (zi (szs ks)).length = ks.length by rw [zi_len, szs_len])
  obtain ⟨N, hN⟩ : ∃ N, N = ks.length := ⟨_, rfl⟩
  rw [LZ.out] at hcap ⊢
  rw [← hN] at h0 h3 HW CA hcap LZ ⊢
  have X2 := Lib.hid (show Rd .i64 w (.slice a N cap) (zi (szs ks)) by rw [← LZ.out]; exact X.out)
  clear h h2 hw hz hl hT hN X
  go_enter Tryd.func81, Tryd.ntmps81
  go_wp2_with fail
  refine (CF.out _ _ _ X2.out Y.out _).mono ?_
  rintro e w1 ⟨⟨hx, rfl⟩ | ⟨hne, _⟩, hb⟩
  rotate_left
  · exact absurd HPK.out hne
  clear hx
  have X3 := Lib.hid (X2.out.below hb)
  have Y3 := Lib.hid (Y.out.below hb)
  have T3 := Lib.hid (T.out.below hb)
  have B3 := Lib.hid hb
  clear hb
  go_wp2
  go_loopw [1, 9, 19] (fun av _ i wr => AnRel w back ks zs N av i wr) (fun _ _ i _ => N - (intOf i).toNat)
  case atStart => exact ⟨0, by omega, rfl, by rw [HZ.out]; exact Y3.out, fun h => absurd h (by omega), B3.out⟩
  case round =>
    obtain ⟨m, hm1, rfl, hr, ho, hbel⟩ := hrel
    have OR := Lib.hid hr
    have OO := Lib.hid ho
    have HBL := Lib.hid hbel
    have hwsz := hbel.size
    clear hr ho hbel
    by_cases hml : m < N
    · have XM := Lib.hid (X2.out.below HBL.out)
      have TM := Lib.hid (T.out.below HBL.out)
      have CM := Lib.hid (CA.out m hml (alT back ks zs m) _ _ _ XM.out OR.out (HL.out m) (HB.out m) TM.out)
      have HSm := HS.out m
      have CM2 := CM.out
      rw [show pr (szs ks) = pk ks from rfl, HSm] at CM2
      have CM2 := Lib.hid CM2
      clear CM HSm
      go_wp2_with fail
      refine CM2.out.mono ?_
      rintro e w4 ⟨v4, rfl, ho4, hb4⟩
      have O4 := Lib.hid (ho4.mono hwsz)
      have B4 := Lib.hid (HBL.out.trans (hb4.mono hwsz))
      clear ho4 hb4
      go_wp2
      go_roundw
      case rel => exact ⟨m + 1, by omega, by go_num, O4.out.rd, fun _ => O4.out, B4.out⟩
      case measure => simp [intOf] <;> omega
    · obtain rfl : N = m := by omega
      have O5 := OO.out h0
      rw [HW.out] at O5
      have O5 := Lib.hid O5.ow
      go_wp2
      go_ret2
      exact ⟨_, rfl, O5.out, HBL.out⟩
theorem all_bad (zs ys : List Int) (n : Int) (back : Bool) (v v2 : Value) (w : World) (h : Rd .i64 w v zs) (h2 : Rd .u64 w v2 ys) (hw : W64 zs) (hn : n = 1 ∧ Bad zs ∨ n = 2 ∧ Big zs) :
    Calls Tryd.prog 81 #[v, v2, .bool back] w (RetLE w [] n) := by
  have hn0 : (n != 0) = true := by rcases hn with ⟨rfl, _⟩ | ⟨rfl, _⟩ <;> rfl
  have CF := Lib.hid (fun w lv h => form_bad zs n v lv w h hw hn)
  have X := Lib.hid h
  obtain ⟨a2, cap2, rfl, hcap2, hm2⟩ := h2.shape
  clear h h2 hw hn
  go_enter Tryd.func81, Tryd.ntmps81
  go_wp2_with fail
  have hal := fun t => (Below.refl w.heap.size w).alloc (Nat.le_refl _) (.cells #[.slice a2 ys.length cap2] t)
  refine (CF.out _ _ (X.out.below (hal _))).mono ?_
  rintro e w1 ⟨rfl, hb⟩
  have B1 := Lib.hid ((hal _).trans (hb.mono (by simp)))
  clear hb hal
  go_wp2
  go_ret2
  exact ⟨_, rfl, Ow.nil _ _, B1.out⟩
theorem all_len (ds : List Nat) (zs : List Int) (back : Bool) (v v2 : Value) (w : World) (h : Rd .i64 w v (zi ds)) (h2 : Rd .u64 w v2 zs) (hw : W64 (zi ds)) (hs : Shp ds) (hne : zs.length ≠ pr ds) :
    Calls Tryd.prog 81 #[v, v2, .bool back] w (RetLE w [] 5) := by
  have CF := Lib.hid (fun w h h2 t => one_form ds zs v v2 w h h2 hw hs t)
  have X := Lib.hid h
  have Y := Lib.hid h2
  have HN := Lib.hid hne
  obtain ⟨a2, cap2, rfl, hcap2, hm2⟩ := h2.shape
  clear h h2 hw hs hne
  go_enter Tryd.func81, Tryd.ntmps81
  go_wp2_with fail
  refine (CF.out _ X.out Y.out _).mono ?_
  rintro e w1 ⟨⟨he, _⟩ | ⟨_, rfl⟩, hb⟩
  · exact absurd he HN.out
  have B1 := Lib.hid hb
  clear hb
  go_wp2
  go_ret2
  exact ⟨_, rfl, Ow.nil _ _, B1.out⟩
theorem fwd_of {v v2 : Value} {w : World} {L : List F} {n : Int} (h : Calls Tryd.prog 81 #[v, v2, .bool false] w (RetLE w L n)) : Calls Tryd.prog 40 #[v, v2] w (RetLE w L n) := by
  have H := Lib.hid h
  clear h
  go_enter Tryd.func40, Tryd.ntmps40
  go_wp2_with fail
  refine H.out.mono ?_
  rintro e w1 ⟨v1, rfl, ho, hb⟩
  have O1 := Lib.hid ho
  have B1 := Lib.hid hb
  clear ho hb
  go_wp2
  go_ret2
  exact ⟨_, rfl, O1.out, B1.out⟩
theorem inv_of {v v2 : Value} {w : World} {L : List F} {n : Int} (h : Calls Tryd.prog 81 #[v, v2, .bool true] w (RetLE w L n)) : Calls Tryd.prog 41 #[v, v2] w (RetLE w L n) := by
  have H := Lib.hid h
  clear h
  go_enter Tryd.func41, Tryd.ntmps41
  go_wp2_with fail
  refine H.out.mono ?_
  rintro e w1 ⟨v1, rfl, ho, hb⟩
  have O1 := Lib.hid ho
  have B1 := Lib.hid hb
  clear ho hb
  go_wp2
  go_ret2
  exact ⟨_, rfl, O1.out, B1.out⟩
/-- a call's end: a list of integers of its own, an error's number -/
def RetZE (w : World) (l : List Int) (n : Int) (e : Ending) (w' : World) : Prop := ∃ v, e = .returned (.tuple #[v, .int .i64 n]) ∧ Oz .u64 25 w.heap.size w' v l ∧ Below w.heap.size w w'
set_option maxRecDepth 100000 in
theorem malong_ok (ds : List Nat) (zs : List Int) (x k : Nat) (back : Bool) (v v2 : Value) (z : Int) (w : World) (h : Rd .i64 w v (zi ds)) (h2 : Rd .u64 w v2 zs) (hw : W64 (zi ds)) (hs : Shp ds) (hz : B64 zs) (hl : zs.length = pr ds)
    (hxl : x < ds.length) (hk : nd ds x = 2 ^ k) (hT : Tb w) (ez : z = x) :
    Calls Tryd.prog 39 #[v, v2, .int .i64 z, .bool back] w (RetZE w (tz back (under ds x) k (pr ds) 0 (pr (ds.take x) * under ds x) zs) 0) := by
  subst ez
  have CF := Lib.hid (fun w v h h2 t => one_form ds zs v v2 w h h2 hw hs t)
  have CA := Lib.hid (fun v w h h2 hT => along_any ds zs x k back v v2 (x : Int) w h h2 hs hz hl hxl hk hT rfl)
  have X := Lib.hid h
  have Y := Lib.hid h2
  have T := Lib.hid hT
  have HL := Lib.hid hl
  obtain ⟨a, cap, rfl, hcap, hm⟩ := h.shape
  have LZ := Lib.hid (zi_len ds)
  obtain ⟨a2, cap2, rfl, hcap2, hm2⟩ := h2.shape
  rw [zi_len] at hcap
  have hd3 := hs.len3
  obtain ⟨N, hN⟩ : ∃ N, N = ds.length := ⟨_, rfl⟩
  have X2 := Lib.hid (show Rd .i64 w (.slice a N cap) (zi ds) by rw [hN, ← LZ.out]; exact X.out)
  rw [LZ.out]
  rw [← hN] at hxl hd3 hcap ⊢
  clear h h2 hw hs hz hl hk hT hN X
  go_enter Tryd.func39, Tryd.ntmps39
  go_wp2_with fail
  refine (CF.out _ _ X2.out Y.out _).mono ?_
  rintro e w1 ⟨⟨hx, rfl⟩ | ⟨hne, _⟩, hb⟩
  rotate_left
  · exact absurd HL.out hne
  clear hx
  have X3 := Lib.hid (X2.out.below hb)
  have Y3 := Lib.hid (Y.out.below hb)
  have T3 := Lib.hid (T.out.below hb)
  have hs1 := hb.size
  have B3 := Lib.hid hb
  clear hb
  go_wp2_with fail
  refine (CA.out _ _ X3.out Y3.out T3.out).mono ?_
  rintro e w4 ⟨v4, rfl, ho4, hb4⟩
  have O4 := Lib.hid (ho4.mono hs1)
  have B4 := Lib.hid (B3.out.trans (hb4.mono hs1))
  clear ho4 hb4
  go_wp2
  go_ret2
  exact ⟨_, rfl, O4.out, B4.out⟩
end Go.Proofs.YtkcfnbfkbmgchaaDoor.Gm
