/- desk.product, desk.great. (Printed by wip/mk_dke.py.) -/
import Derived.Test.YtdhmmllpldjkbaaGreatDoorDkd
namespace Go.Proofs.YtdhmmllpldjkbaaGreatDoor.Gm
open Go.RowKit
set_option linter.unusedVariables false
theorem dnums_ok (ws : List ByteArray) (ns : List Nat) (hn : NumsW ws ns) (v : Value) (w : World) (h : Rs w v ws) (hl : ws.length ≤ 1000000) :
    Calls Tryz.prog 29 #[v] w fun e w' => ∃ v', e = .returned (.tuple #[v', .bool true]) ∧ Rd .u64 w' v' (nz ns) ∧ Below w.heap.size w w' := by
  refine (dnums_any ws v w h hl).mono ?_
  rintro e w' ⟨hb, ⟨ms, v', hm, rfl, ho⟩ | ⟨hno, rfl⟩⟩
  · obtain rfl := hn.uniq hm
    exact ⟨v', rfl, ho.rd, hb⟩
  · exact absurd hn (hno ns)
theorem dnums_bad (ws : List ByteArray) (hn : ∀ ns, ¬ NumsW ws ns) (v : Value) (w : World) (h : Rs w v ws) (hl : ws.length ≤ 1000000) :
    Calls Tryz.prog 29 #[v] w fun e w' => e = .returned (.tuple #[.slice none 0 0, .bool false]) ∧ Below w.heap.size w w' := by
  refine (dnums_any ws v w h hl).mono ?_
  rintro e w' ⟨hb, ⟨ms, v', hm, rfl, ho⟩ | ⟨hno, rfl⟩⟩
  · exact absurd hm (hn ms)
  · exact ⟨rfl, hb⟩
theorem rnums_ok (ws : List ByteArray) (ns : List Nat) (hn : NumsW ws ns) (v : Value) (w : World) (h : Rs w v ws) (hl : ws.length ≤ 1000000) (hz : ∀ x ∈ ws, x.size ≤ 10000000) (hT : Tp w) :
    Calls Tryz.prog 39 #[v] w fun e w' => ∃ v', e = .returned (.tuple #[v', .bool true]) ∧ Rd .u64 w' v' (nz ns) ∧ Below w.heap.size w w' := by
  refine (rnums_any ws v w h hl hz hT).mono ?_
  rintro e w' ⟨hb, ⟨ms, v', hm, rfl, ho⟩ | ⟨hno, rfl⟩⟩
  · obtain rfl := hn.uniq hm
    exact ⟨v', rfl, ho.rd, hb⟩
  · exact absurd hn (hno ns)
theorem rnums_bad (ws : List ByteArray) (hn : ∀ ns, ¬ NumsW ws ns) (v : Value) (w : World) (h : Rs w v ws) (hl : ws.length ≤ 1000000) (hz : ∀ x ∈ ws, x.size ≤ 10000000) (hT : Tp w) :
    Calls Tryz.prog 39 #[v] w fun e w' => e = .returned (.tuple #[.slice none 0 0, .bool false]) ∧ Below w.heap.size w w' := by
  refine (rnums_any ws v w h hl hz hT).mono ?_
  rintro e w' ⟨hb, ⟨ms, v', hm, rfl, ho⟩ | ⟨hno, rfl⟩⟩
  · exact absurd hm (hn ms)
  · exact ⟨rfl, hb⟩
theorem pr_none (vb : ByteArray) (ws : List ByteArray) (hi : IxS ws ⟨#[47]⟩ (-1)) (hl : ws.length ≤ 1000000) (v : Value) (w : World) (h : Rs w v ws) (hT : Tp w) :
    Calls Tryz.prog 27 #[.string vb, v] w (RetV w (.string (erB 3))) := by
  have C := Lib.hid (sidx_any ws ⟨#[47]⟩ (-1) hi v w h (by omega))
  have D := Lib.hid (failed_is 3 (by omega) (by omega) w hT)
  generalize erB 3 = r at *
  clear h hT hi
  go_enter Tryz.func27, Tryz.ntmps27
  go_wp2_with fail
  refine C.out.mono ?_
  rintro e w' ⟨rfl, rfl⟩
  go_wp2_with fail
  refine D.out.mono ?_
  rintro e w' ⟨rfl, hb⟩
  have B := Lib.hid hb
  clear hb
  go_wp2
  go_ret
  exact ⟨rfl, B.out⟩
set_option maxRecDepth 100000 in
theorem pr_bb (vb : ByteArray) (ws : List ByteArray) (k : Nat) (hi : IxS ws ⟨#[47]⟩ (k : Int)) (hl : ws.length ≤ 1000000) (ha : ∀ ns, ¬ NumsW (ws.take k) ns) (hc : ∀ ns, ¬ NumsW (ws.drop (k + 1)) ns) (v : Value) (w : World) (h : Rs w v ws) (hT : Tp w) :
    Calls Tryz.prog 27 #[.string vb, v] w (RetV w (.string (erB 3))) := by
  have hkl : k < ws.length := by
    rcases hi with ⟨m, e, h1, _⟩ | ⟨e, _⟩
    · have := (List.getElem?_eq_some_iff.1 h1).1
      omega
    · omega
  have C := Lib.hid (sidx_any ws ⟨#[47]⟩ (k : Int) hi v w h (by omega))
  obtain ⟨va, hsa, hra⟩ := h.to k (by omega)
  obtain ⟨vc, hsc, hrc⟩ := h.from (k + 1) (by omega)
  rw [show ((k + 1 : Nat) : Int) = (k : Int) + 1 by omega] at hsc
  have ek : IntKind.i64.wrap ((k : Int) + 1) = (k : Int) + 1 := IntWalk.i64_in _ (by omega)
  have gk : decide ((k : Int) < 0) = false := decide_eq_false (by omega)
  have RA := Lib.hid hra
  have RC := Lib.hid hrc
  have la : (ws.take k).length ≤ 1000000 := by rw [List.length_take]; omega
  have lc : (ws.drop (k + 1)).length ≤ 1000000 := by rw [List.length_drop]; omega
  have TP := Lib.hid hT
  clear h hT hi hra hrc
  have Ha := Lib.hid ha
  have Hc := Lib.hid hc
  have D := Lib.hid (fun w hT => failed_is 3 (by omega) (by omega) w hT)
  clear ha hc
  generalize erB 3 = r at *
  go_enter Tryz.func27, Tryz.ntmps27
  go_wp2_with fail
  refine C.out.mono ?_
  rintro e w' ⟨rfl, rfl⟩
  go_wp2_with fail
  refine (dnums_bad (ws.take k) Ha.out _ _ RA.out la).mono ?_
  rintro e w1 ⟨rfl, hb⟩
  have B1 := Lib.hid hb
  have hs1 := hb.size
  clear hb
  go_wp2_with fail
  refine (dnums_bad (ws.drop (k + 1)) Hc.out _ _ (RC.out.below B1.out) lc).mono ?_
  rintro e w2 ⟨rfl, hb⟩
  have B2 := Lib.hid (B1.out.trans (hb.mono hs1))
  have hs2 := B2.out.size
  clear hb
  go_wp2_with fail
  refine (D.out _ (TP.out.below B2.out)).mono ?_
  rintro e w3 ⟨rfl, hb⟩
  have B3 := Lib.hid (B2.out.trans (hb.mono hs2))
  clear hb
  go_wp2
  go_ret
  exact ⟨rfl, B3.out⟩
set_option maxRecDepth 100000 in
theorem pr_bo (vb : ByteArray) (ws : List ByteArray) (k : Nat) (hi : IxS ws ⟨#[47]⟩ (k : Int)) (hl : ws.length ≤ 1000000) (ha : ∀ ns, ¬ NumsW (ws.take k) ns) (ms : List Nat) (hc : NumsW (ws.drop (k + 1)) ms) (v : Value) (w : World) (h : Rs w v ws) (hT : Tp w) :
    Calls Tryz.prog 27 #[.string vb, v] w (RetV w (.string (erB 3))) := by
  have hkl : k < ws.length := by
    rcases hi with ⟨m, e, h1, _⟩ | ⟨e, _⟩
    · have := (List.getElem?_eq_some_iff.1 h1).1
      omega
    · omega
  have C := Lib.hid (sidx_any ws ⟨#[47]⟩ (k : Int) hi v w h (by omega))
  obtain ⟨va, hsa, hra⟩ := h.to k (by omega)
  obtain ⟨vc, hsc, hrc⟩ := h.from (k + 1) (by omega)
  rw [show ((k + 1 : Nat) : Int) = (k : Int) + 1 by omega] at hsc
  have ek : IntKind.i64.wrap ((k : Int) + 1) = (k : Int) + 1 := IntWalk.i64_in _ (by omega)
  have gk : decide ((k : Int) < 0) = false := decide_eq_false (by omega)
  have RA := Lib.hid hra
  have RC := Lib.hid hrc
  have la : (ws.take k).length ≤ 1000000 := by rw [List.length_take]; omega
  have lc : (ws.drop (k + 1)).length ≤ 1000000 := by rw [List.length_drop]; omega
  have TP := Lib.hid hT
  clear h hT hi hra hrc
  have Ha := Lib.hid ha
  have Hc := Lib.hid hc
  have D := Lib.hid (fun w hT => failed_is 3 (by omega) (by omega) w hT)
  clear ha hc
  generalize erB 3 = r at *
  go_enter Tryz.func27, Tryz.ntmps27
  go_wp2_with fail
  refine C.out.mono ?_
  rintro e w' ⟨rfl, rfl⟩
  go_wp2_with fail
  refine (dnums_bad (ws.take k) Ha.out _ _ RA.out la).mono ?_
  rintro e w1 ⟨rfl, hb⟩
  have B1 := Lib.hid hb
  have hs1 := hb.size
  clear hb
  go_wp2_with fail
  refine (dnums_ok (ws.drop (k + 1)) ms Hc.out _ _ (RC.out.below B1.out) lc).mono ?_
  rintro e w2 ⟨vc1, rfl, hr, hb⟩
  have B2 := Lib.hid (B1.out.trans (hb.mono hs1))
  have hs2 := B2.out.size
  have Xc := Lib.hid hr
  clear hr
  clear hb
  go_wp2_with fail
  refine (D.out _ (TP.out.below B2.out)).mono ?_
  rintro e w3 ⟨rfl, hb⟩
  have B3 := Lib.hid (B2.out.trans (hb.mono hs2))
  clear hb
  go_wp2
  go_ret
  exact ⟨rfl, B3.out⟩
set_option maxRecDepth 100000 in
theorem pr_ob (vb : ByteArray) (ws : List ByteArray) (k : Nat) (hi : IxS ws ⟨#[47]⟩ (k : Int)) (hl : ws.length ≤ 1000000) (ns : List Nat) (ha : NumsW (ws.take k) ns) (hc : ∀ ns, ¬ NumsW (ws.drop (k + 1)) ns) (v : Value) (w : World) (h : Rs w v ws) (hT : Tp w) :
    Calls Tryz.prog 27 #[.string vb, v] w (RetV w (.string (erB 3))) := by
  have hkl : k < ws.length := by
    rcases hi with ⟨m, e, h1, _⟩ | ⟨e, _⟩
    · have := (List.getElem?_eq_some_iff.1 h1).1
      omega
    · omega
  have C := Lib.hid (sidx_any ws ⟨#[47]⟩ (k : Int) hi v w h (by omega))
  obtain ⟨va, hsa, hra⟩ := h.to k (by omega)
  obtain ⟨vc, hsc, hrc⟩ := h.from (k + 1) (by omega)
  rw [show ((k + 1 : Nat) : Int) = (k : Int) + 1 by omega] at hsc
  have ek : IntKind.i64.wrap ((k : Int) + 1) = (k : Int) + 1 := IntWalk.i64_in _ (by omega)
  have gk : decide ((k : Int) < 0) = false := decide_eq_false (by omega)
  have RA := Lib.hid hra
  have RC := Lib.hid hrc
  have la : (ws.take k).length ≤ 1000000 := by rw [List.length_take]; omega
  have lc : (ws.drop (k + 1)).length ≤ 1000000 := by rw [List.length_drop]; omega
  have TP := Lib.hid hT
  clear h hT hi hra hrc
  have Ha := Lib.hid ha
  have Hc := Lib.hid hc
  have D := Lib.hid (fun w hT => failed_is 3 (by omega) (by omega) w hT)
  clear ha hc
  generalize erB 3 = r at *
  go_enter Tryz.func27, Tryz.ntmps27
  go_wp2_with fail
  refine C.out.mono ?_
  rintro e w' ⟨rfl, rfl⟩
  go_wp2_with fail
  refine (dnums_ok (ws.take k) ns Ha.out _ _ RA.out la).mono ?_
  rintro e w1 ⟨va1, rfl, hr, hb⟩
  have B1 := Lib.hid hb
  have hs1 := hb.size
  have Xa := Lib.hid hr
  clear hr
  clear hb
  go_wp2_with fail
  refine (dnums_bad (ws.drop (k + 1)) Hc.out _ _ (RC.out.below B1.out) lc).mono ?_
  rintro e w2 ⟨rfl, hb⟩
  have B2 := Lib.hid (B1.out.trans (hb.mono hs1))
  have hs2 := B2.out.size
  clear hb
  go_wp2_with fail
  refine (D.out _ (TP.out.below B2.out)).mono ?_
  rintro e w3 ⟨rfl, hb⟩
  have B3 := Lib.hid (B2.out.trans (hb.mono hs2))
  clear hb
  go_wp2
  go_ret
  exact ⟨rfl, B3.out⟩
set_option maxRecDepth 100000 in
theorem pr_cyc (ws : List ByteArray) (k : Nat) (hi : IxS ws ⟨#[47]⟩ (k : Int)) (hl : ws.length ≤ 1000000) (ns ms : List Nat) (ha : NumsW (ws.take k) ns) (hc : NumsW (ws.drop (k + 1)) ms) (L : List Nat) (n : Int) (hL : OkN L) (hn0 : 0 ≤ n) (hn1 : n < 10)
    (hp : ∀ v1 v2 w', Rd .u64 w' v1 (nz ns) → Rd .u64 w' v2 (nz ms) → Tb w' → Calls Tryz.prog 54 #[v1, v2] w' (RetNE w' L n)) (v : Value) (w : World) (h : Rs w v ws) (hT : Tp w) (hTb : Tb w) :
    Calls Tryz.prog 27 #[.string ⟨#[99, 121, 99, 108, 105, 99]⟩, v] w (RetV w (.string (lnB L n))) := by
  have hkl : k < ws.length := by
    rcases hi with ⟨m, e, h1, _⟩ | ⟨e, _⟩
    · have := (List.getElem?_eq_some_iff.1 h1).1
      omega
    · omega
  have C := Lib.hid (sidx_any ws ⟨#[47]⟩ (k : Int) hi v w h (by omega))
  obtain ⟨va, hsa, hra⟩ := h.to k (by omega)
  obtain ⟨vc, hsc, hrc⟩ := h.from (k + 1) (by omega)
  rw [show ((k + 1 : Nat) : Int) = (k : Int) + 1 by omega] at hsc
  have ek : IntKind.i64.wrap ((k : Int) + 1) = (k : Int) + 1 := IntWalk.i64_in _ (by omega)
  have gk : decide ((k : Int) < 0) = false := decide_eq_false (by omega)
  have RA := Lib.hid hra
  have RC := Lib.hid hrc
  have la : (ws.take k).length ≤ 1000000 := by rw [List.length_take]; omega
  have lc : (ws.drop (k + 1)).length ≤ 1000000 := by rw [List.length_drop]; omega
  have TP := Lib.hid hT
  clear h hT hi hra hrc
  have Ha := Lib.hid ha
  have Hc := Lib.hid hc
  have PP := Lib.hid hp
  have TB := Lib.hid hTb
  clear ha hc hp hTb
  go_enter Tryz.func27, Tryz.ntmps27
  go_wp2_with fail
  refine C.out.mono ?_
  rintro e w' ⟨rfl, rfl⟩
  go_wp2_with fail
  refine (dnums_ok (ws.take k) ns Ha.out _ _ RA.out la).mono ?_
  rintro e w1 ⟨va1, rfl, hr, hb⟩
  have B1 := Lib.hid hb
  have hs1 := hb.size
  have Xa := Lib.hid hr
  clear hr
  clear hb
  go_wp2_with fail
  refine (dnums_ok (ws.drop (k + 1)) ms Hc.out _ _ (RC.out.below B1.out) lc).mono ?_
  rintro e w2 ⟨vc1, rfl, hr, hb⟩
  have B2 := Lib.hid (B1.out.trans (hb.mono hs1))
  have hs2 := B2.out.size
  have Xc := Lib.hid hr
  clear hr
  have XA2 := Lib.hid (Xa.out.below hb)
  clear hb
  go_wp2_with fail
  refine (PP.out _ _ _ XA2.out Xc.out (TB.out.below B2.out)).mono ?_
  rintro e w3 ⟨v3, rfl, hr, hb⟩
  have R3 := Lib.hid hr
  have B3 := Lib.hid (B2.out.trans (hb.mono hs2))
  have hs3 := B3.out.size
  clear hb hr
  go_wp2_with fail
  refine (told_ln L n hL hn0 hn1 _ _ R3.out (TP.out.below B3.out)).mono ?_
  rintro e w4 ⟨rfl, hb⟩
  have B4 := Lib.hid (B3.out.trans (hb.mono hs3))
  clear hb
  go_wp2
  go_ret
  exact ⟨rfl, B4.out⟩
set_option maxRecDepth 100000 in
theorem pr_lin (ws : List ByteArray) (k : Nat) (hi : IxS ws ⟨#[47]⟩ (k : Int)) (hl : ws.length ≤ 1000000) (ns ms : List Nat) (ha : NumsW (ws.take k) ns) (hc : NumsW (ws.drop (k + 1)) ms) (L : List Nat) (n : Int) (hL : OkN L) (hn0 : 0 ≤ n) (hn1 : n < 10)
    (hp : ∀ v1 v2 w', Rd .u64 w' v1 (nz ns) → Rd .u64 w' v2 (nz ms) → Tb w' → Calls Tryz.prog 55 #[v1, v2] w' (RetNE w' L n)) (v : Value) (w : World) (h : Rs w v ws) (hT : Tp w) (hTb : Tb w) :
    Calls Tryz.prog 27 #[.string ⟨#[108, 105, 110, 101, 97, 114]⟩, v] w (RetV w (.string (lnB L n))) := by
  have hkl : k < ws.length := by
    rcases hi with ⟨m, e, h1, _⟩ | ⟨e, _⟩
    · have := (List.getElem?_eq_some_iff.1 h1).1
      omega
    · omega
  have C := Lib.hid (sidx_any ws ⟨#[47]⟩ (k : Int) hi v w h (by omega))
  obtain ⟨va, hsa, hra⟩ := h.to k (by omega)
  obtain ⟨vc, hsc, hrc⟩ := h.from (k + 1) (by omega)
  rw [show ((k + 1 : Nat) : Int) = (k : Int) + 1 by omega] at hsc
  have ek : IntKind.i64.wrap ((k : Int) + 1) = (k : Int) + 1 := IntWalk.i64_in _ (by omega)
  have gk : decide ((k : Int) < 0) = false := decide_eq_false (by omega)
  have RA := Lib.hid hra
  have RC := Lib.hid hrc
  have la : (ws.take k).length ≤ 1000000 := by rw [List.length_take]; omega
  have lc : (ws.drop (k + 1)).length ≤ 1000000 := by rw [List.length_drop]; omega
  have TP := Lib.hid hT
  clear h hT hi hra hrc
  have Ha := Lib.hid ha
  have Hc := Lib.hid hc
  have PP := Lib.hid hp
  have TB := Lib.hid hTb
  clear ha hc hp hTb
  go_enter Tryz.func27, Tryz.ntmps27
  go_wp2_with fail
  refine C.out.mono ?_
  rintro e w' ⟨rfl, rfl⟩
  go_wp2_with fail
  refine (dnums_ok (ws.take k) ns Ha.out _ _ RA.out la).mono ?_
  rintro e w1 ⟨va1, rfl, hr, hb⟩
  have B1 := Lib.hid hb
  have hs1 := hb.size
  have Xa := Lib.hid hr
  clear hr
  clear hb
  go_wp2_with fail
  refine (dnums_ok (ws.drop (k + 1)) ms Hc.out _ _ (RC.out.below B1.out) lc).mono ?_
  rintro e w2 ⟨vc1, rfl, hr, hb⟩
  have B2 := Lib.hid (B1.out.trans (hb.mono hs1))
  have hs2 := B2.out.size
  have Xc := Lib.hid hr
  clear hr
  have XA2 := Lib.hid (Xa.out.below hb)
  clear hb
  go_wp2_with fail
  refine (PP.out _ _ _ XA2.out Xc.out (TB.out.below B2.out)).mono ?_
  rintro e w3 ⟨v3, rfl, hr, hb⟩
  have R3 := Lib.hid hr
  have B3 := Lib.hid (B2.out.trans (hb.mono hs2))
  have hs3 := B3.out.size
  clear hb hr
  go_wp2_with fail
  refine (told_ln L n hL hn0 hn1 _ _ R3.out (TP.out.below B3.out)).mono ?_
  rintro e w4 ⟨rfl, hb⟩
  have B4 := Lib.hid (B3.out.trans (hb.mono hs3))
  clear hb
  go_wp2
  go_ret
  exact ⟨rfl, B4.out⟩
theorem gr_len (vb : ByteArray) (ws : List ByteArray) (hl : ws.length ≠ 2) (v : Value) (w : World) (h : Rs w v ws) (hT : Tp w) :
    Calls Tryz.prog 28 #[.string vb, v] w (RetV w (.string (erB 3))) := by
  obtain ⟨a, cap, rfl, hcap, hm⟩ := h.shape
  have D := Lib.hid (failed_is 3 (by omega) (by omega) w hT)
  have g1 : ((ws.length : Int) == 2) = false := by rw [beq_eq_false_iff_ne]; omega
  have g2 : (ws.length == 2) = false := by rw [beq_eq_false_iff_ne]; exact hl
  generalize erB 3 = r at *
  clear h hT hl
  go_enter Tryz.func28, Tryz.ntmps28
  go_wp2_with fail
  refine D.out.mono ?_
  rintro e w' ⟨rfl, hb⟩
  have B := Lib.hid hb
  clear hb
  go_wp2
  go_ret
  exact ⟨rfl, B.out⟩
set_option maxRecDepth 100000 in
theorem gr_sum (x y : ByteArray) (r : ByteArray) (w0 : World) (hp : Calls Tryz.prog 56 #[.string x, .string y] w0 fun e w' => e = .returned (.tuple #[.string r, .int .i64 0]) ∧ Below w0.heap.size w0 w') (v : Value) (w : World) (e0 : w0 = w.drew) (h : Rs w v [x, y]) (hT : Tp w) :
    Calls Tryz.prog 28 #[.string ⟨#[115, 117, 109]⟩, v] w (RetV w (.string r)) := by
  obtain ⟨cap, b, off, rfl, hcap, hm, hx⟩ := h.cells (by simp)
  have c0 := hx 0 x rfl
  have c1 := hx 1 y rfl
  rw [Nat.add_zero] at c0
  subst e0
  have C := Lib.hid hp
  have TP := Lib.hid hT
  clear h hp hT hx
  go_enter Tryz.func28, Tryz.ntmps28
  go_wp2_with fail
  refine wp_region_N [3, 6] [7] (fun w' => w'.cell? ⟨b, off, none⟩ = some (.string x) ∧ w'.cell? ⟨b, off + 1, none⟩ = some (.string y)) (by kernel_rfl) ?_
  have hS : w.drew.cell? ⟨b, off, none⟩ = some (.string x) ∧ w.drew.cell? ⟨b, off + 1, none⟩ = some (.string y) := ⟨c0, c1⟩
  refine wpN_pure (i := 0) (v := ?_) rfl (by kernel_rfl) (by kernel_rfl) (by kernel_rfl) (by kernel_rfl) (fun _ _ _ h => h) (Or.inl ⟨by rfl, ?_⟩) (fun _ => hS) ?_
  rotate_left
  · ((intro w' hw'; (try dsimp only at hw'); go_simp) <;> with_reducible rfl)
  simp only [Act.put, List.setIfInBounds_toArray, List.set_cons_zero, List.set_cons_succ]
  refine wpN_pure (i := 1) (v := ?_) rfl (by kernel_rfl) (by kernel_rfl) (by kernel_rfl) (by kernel_rfl) (fun _ _ _ h => h) (Or.inl ⟨by rfl, ?_⟩) (fun _ => hS) ?_
  rotate_left
  · ((intro w' hw'; (try dsimp only at hw'); go_simp) <;> with_reducible rfl)
  simp only [Act.put, List.setIfInBounds_toArray, List.set_cons_zero, List.set_cons_succ]
  refine wpN_pure (i := 2) (v := ?_) rfl (by kernel_rfl) (by kernel_rfl) (by kernel_rfl) (by kernel_rfl) (fun _ _ _ h => h) (Or.inl ⟨by rfl, ?_⟩) (fun _ => hS) ?_
  rotate_left
  · ((intro w' hw'; (try dsimp only at hw'); go_simp) <;> with_reducible rfl)
  simp only [Act.put, List.setIfInBounds_toArray, List.set_cons_zero, List.set_cons_succ]
  refine wpN_read (i := 3) (v := ?_) rfl (by kernel_rfl) (by kernel_rfl) (by kernel_rfl) (by kernel_rfl) (by kernel_rfl) (fun _ _ _ h => h) (Or.inl ⟨by rfl, ?_⟩) hS ?_
  rotate_left
  · ((intro w' hw'; (try dsimp only at hw'); go_simp) <;> with_reducible rfl)
  simp only [Act.put, List.setIfInBounds_toArray, List.set_cons_zero, List.set_cons_succ]
  refine wpN_pure (i := 4) (v := ?_) rfl (by kernel_rfl) (by kernel_rfl) (by kernel_rfl) (by kernel_rfl) (fun _ _ _ h => h) (Or.inl ⟨by rfl, ?_⟩) (fun _ => hS) ?_
  rotate_left
  · ((intro w' hw'; (try dsimp only at hw'); go_simp) <;> with_reducible rfl)
  simp only [Act.put, List.setIfInBounds_toArray, List.set_cons_zero, List.set_cons_succ]
  refine wpN_pure (i := 5) (v := ?_) rfl (by kernel_rfl) (by kernel_rfl) (by kernel_rfl) (by kernel_rfl) (fun _ _ _ h => h) (Or.inl ⟨by rfl, ?_⟩) (fun _ => hS) ?_
  rotate_left
  · ((intro w' hw'; (try dsimp only at hw'); go_simp) <;> with_reducible rfl)
  simp only [Act.put, List.setIfInBounds_toArray, List.set_cons_zero, List.set_cons_succ]
  refine wpN_read (i := 6) (v := ?_) rfl (by kernel_rfl) (by kernel_rfl) (by kernel_rfl) (by kernel_rfl) (by kernel_rfl) (fun _ _ _ h => h) (Or.inl ⟨by rfl, ?_⟩) hS ?_
  rotate_left
  · ((intro w' hw'; (try dsimp only at hw'); go_simp) <;> with_reducible rfl)
  simp only [Act.put, List.setIfInBounds_toArray, List.set_cons_zero, List.set_cons_succ]
  refine wpN_one (i := 7) rfl rfl (by kernel_rfl) (by kernel_rfl) (fun K hK => ?_)
  go_simp
  refine C.out.mono ?_
  rintro e w1 ⟨rfl, hb⟩
  refine hK.out _ _ ?_
  clear hK K hS
  have B1 := Lib.hid ((below_drewN (Below.refl w.heap.size w) 1).trans hb)
  have hs1 := B1.out.size
  clear hb
  refine wpN_pure (i := 8) (v := ?_) rfl (by kernel_rfl) (by kernel_rfl) (by kernel_rfl) (by kernel_rfl) (fun _ _ _ h => h) (Or.inl ⟨by rfl, ?_⟩) (fun h => Bool.noConfusion (h.symm.trans (show _ = false by kernel_rfl))) ?_
  rotate_left
  · ((intro w' hw'; (try dsimp only at hw'); go_simp) <;> with_reducible rfl)
  simp only [Act.put, List.setIfInBounds_toArray, List.set_cons_zero, List.set_cons_succ]
  refine wpN_pure (i := 9) (v := ?_) rfl (by kernel_rfl) (by kernel_rfl) (by kernel_rfl) (by kernel_rfl) (fun _ _ _ h => h) (Or.inl ⟨by rfl, ?_⟩) (fun h => Bool.noConfusion (h.symm.trans (show _ = false by kernel_rfl))) ?_
  rotate_left
  · ((intro w' hw'; (try dsimp only at hw'); go_simp) <;> with_reducible rfl)
  simp only [Act.put, List.setIfInBounds_toArray, List.set_cons_zero, List.set_cons_succ]
  refine wpN_pure (i := 11) (v := ?_) rfl (by kernel_rfl) (by kernel_rfl) (by kernel_rfl) (by kernel_rfl) (fun _ _ _ h => h) (Or.inl ⟨by rfl, ?_⟩) (fun h => Bool.noConfusion (h.symm.trans (show _ = false by kernel_rfl))) ?_
  rotate_left
  · ((intro w' hw'; (try dsimp only at hw'); go_simp) <;> with_reducible rfl)
  simp only [Act.put, List.setIfInBounds_toArray, List.set_cons_zero, List.set_cons_succ]
  refine wpN_pure (i := 10) (v := ?_) rfl (by kernel_rfl) (by kernel_rfl) (by kernel_rfl) (by kernel_rfl) (fun _ _ _ h => h) (Or.inl ⟨by rfl, ?_⟩) (fun h => Bool.noConfusion (h.symm.trans (show _ = false by kernel_rfl))) ?_
  rotate_left
  · ((intro w' hw'; (try dsimp only at hw'); go_simp) <;> with_reducible rfl)
  simp only [Act.put, List.setIfInBounds_toArray, List.set_cons_zero, List.set_cons_succ]
  refine wpN_pure (i := 12) (v := ?_) rfl (by kernel_rfl) (by kernel_rfl) (by kernel_rfl) (by kernel_rfl) (fun _ _ _ h => h) (Or.inl ⟨by rfl, ?_⟩) (fun h => Bool.noConfusion (h.symm.trans (show _ = false by kernel_rfl))) ?_
  rotate_left
  · ((intro w' hw'; (try dsimp only at hw'); go_simp) <;> with_reducible rfl)
  simp only [Act.put, List.setIfInBounds_toArray, List.set_cons_zero, List.set_cons_succ]
  refine wpN_done (by kernel_rfl) ?_
  go_wp2
  go_ret
  exact ⟨rfl, B1.out⟩
set_option maxRecDepth 100000 in
theorem gr_sumB (x y : ByteArray) (n : Int) (hn0 : 0 < n) (hn1 : n < 10) (w0 : World) (hp : Calls Tryz.prog 56 #[.string x, .string y] w0 fun e w' => e = .returned (.tuple #[.string ⟨#[]⟩, .int .i64 n]) ∧ Below w0.heap.size w0 w') (v : Value) (w : World) (e0 : w0 = w.drew) (h : Rs w v [x, y]) (hT : Tp w) :
    Calls Tryz.prog 28 #[.string ⟨#[115, 117, 109]⟩, v] w (RetV w (.string (erB n))) := by
  obtain ⟨cap, b, off, rfl, hcap, hm, hx⟩ := h.cells (by simp)
  have c0 := hx 0 x rfl
  have c1 := hx 1 y rfl
  rw [Nat.add_zero] at c0
  subst e0
  have C := Lib.hid hp
  have TP := Lib.hid hT
  have gn : (n == 0) = false := by rw [beq_eq_false_iff_ne]; omega
  have D := Lib.hid (fun w hT => failed_is n (by omega) hn1 w hT)
  generalize erB n = r at *
  clear h hp hT hx
  go_enter Tryz.func28, Tryz.ntmps28
  go_wp2_with fail
  refine wp_region_N [3, 6] [7] (fun w' => w'.cell? ⟨b, off, none⟩ = some (.string x) ∧ w'.cell? ⟨b, off + 1, none⟩ = some (.string y)) (by kernel_rfl) ?_
  have hS : w.drew.cell? ⟨b, off, none⟩ = some (.string x) ∧ w.drew.cell? ⟨b, off + 1, none⟩ = some (.string y) := ⟨c0, c1⟩
  refine wpN_pure (i := 0) (v := ?_) rfl (by kernel_rfl) (by kernel_rfl) (by kernel_rfl) (by kernel_rfl) (fun _ _ _ h => h) (Or.inl ⟨by rfl, ?_⟩) (fun _ => hS) ?_
  rotate_left
  · ((intro w' hw'; (try dsimp only at hw'); go_simp) <;> with_reducible rfl)
  simp only [Act.put, List.setIfInBounds_toArray, List.set_cons_zero, List.set_cons_succ]
  refine wpN_pure (i := 1) (v := ?_) rfl (by kernel_rfl) (by kernel_rfl) (by kernel_rfl) (by kernel_rfl) (fun _ _ _ h => h) (Or.inl ⟨by rfl, ?_⟩) (fun _ => hS) ?_
  rotate_left
  · ((intro w' hw'; (try dsimp only at hw'); go_simp) <;> with_reducible rfl)
  simp only [Act.put, List.setIfInBounds_toArray, List.set_cons_zero, List.set_cons_succ]
  refine wpN_pure (i := 2) (v := ?_) rfl (by kernel_rfl) (by kernel_rfl) (by kernel_rfl) (by kernel_rfl) (fun _ _ _ h => h) (Or.inl ⟨by rfl, ?_⟩) (fun _ => hS) ?_
  rotate_left
  · ((intro w' hw'; (try dsimp only at hw'); go_simp) <;> with_reducible rfl)
  simp only [Act.put, List.setIfInBounds_toArray, List.set_cons_zero, List.set_cons_succ]
  refine wpN_read (i := 3) (v := ?_) rfl (by kernel_rfl) (by kernel_rfl) (by kernel_rfl) (by kernel_rfl) (by kernel_rfl) (fun _ _ _ h => h) (Or.inl ⟨by rfl, ?_⟩) hS ?_
  rotate_left
  · ((intro w' hw'; (try dsimp only at hw'); go_simp) <;> with_reducible rfl)
  simp only [Act.put, List.setIfInBounds_toArray, List.set_cons_zero, List.set_cons_succ]
  refine wpN_pure (i := 4) (v := ?_) rfl (by kernel_rfl) (by kernel_rfl) (by kernel_rfl) (by kernel_rfl) (fun _ _ _ h => h) (Or.inl ⟨by rfl, ?_⟩) (fun _ => hS) ?_
  rotate_left
  · ((intro w' hw'; (try dsimp only at hw'); go_simp) <;> with_reducible rfl)
  simp only [Act.put, List.setIfInBounds_toArray, List.set_cons_zero, List.set_cons_succ]
  refine wpN_pure (i := 5) (v := ?_) rfl (by kernel_rfl) (by kernel_rfl) (by kernel_rfl) (by kernel_rfl) (fun _ _ _ h => h) (Or.inl ⟨by rfl, ?_⟩) (fun _ => hS) ?_
  rotate_left
  · ((intro w' hw'; (try dsimp only at hw'); go_simp) <;> with_reducible rfl)
  simp only [Act.put, List.setIfInBounds_toArray, List.set_cons_zero, List.set_cons_succ]
  refine wpN_read (i := 6) (v := ?_) rfl (by kernel_rfl) (by kernel_rfl) (by kernel_rfl) (by kernel_rfl) (by kernel_rfl) (fun _ _ _ h => h) (Or.inl ⟨by rfl, ?_⟩) hS ?_
  rotate_left
  · ((intro w' hw'; (try dsimp only at hw'); go_simp) <;> with_reducible rfl)
  simp only [Act.put, List.setIfInBounds_toArray, List.set_cons_zero, List.set_cons_succ]
  refine wpN_one (i := 7) rfl rfl (by kernel_rfl) (by kernel_rfl) (fun K hK => ?_)
  go_simp
  refine C.out.mono ?_
  rintro e w1 ⟨rfl, hb⟩
  refine hK.out _ _ ?_
  clear hK K hS
  have B1 := Lib.hid ((below_drewN (Below.refl w.heap.size w) 1).trans hb)
  have hs1 := B1.out.size
  clear hb
  refine wpN_pure (i := 8) (v := ?_) rfl (by kernel_rfl) (by kernel_rfl) (by kernel_rfl) (by kernel_rfl) (fun _ _ _ h => h) (Or.inl ⟨by rfl, ?_⟩) (fun h => Bool.noConfusion (h.symm.trans (show _ = false by kernel_rfl))) ?_
  rotate_left
  · ((intro w' hw'; (try dsimp only at hw'); go_simp) <;> with_reducible rfl)
  simp only [Act.put, List.setIfInBounds_toArray, List.set_cons_zero, List.set_cons_succ]
  refine wpN_pure (i := 9) (v := ?_) rfl (by kernel_rfl) (by kernel_rfl) (by kernel_rfl) (by kernel_rfl) (fun _ _ _ h => h) (Or.inl ⟨by rfl, ?_⟩) (fun h => Bool.noConfusion (h.symm.trans (show _ = false by kernel_rfl))) ?_
  rotate_left
  · ((intro w' hw'; (try dsimp only at hw'); go_simp) <;> with_reducible rfl)
  simp only [Act.put, List.setIfInBounds_toArray, List.set_cons_zero, List.set_cons_succ]
  refine wpN_pure (i := 11) (v := ?_) rfl (by kernel_rfl) (by kernel_rfl) (by kernel_rfl) (by kernel_rfl) (fun _ _ _ h => h) (Or.inl ⟨by rfl, ?_⟩) (fun h => Bool.noConfusion (h.symm.trans (show _ = false by kernel_rfl))) ?_
  rotate_left
  · ((intro w' hw'; (try dsimp only at hw'); go_simp) <;> with_reducible rfl)
  simp only [Act.put, List.setIfInBounds_toArray, List.set_cons_zero, List.set_cons_succ]
  refine wpN_pure (i := 10) (v := ?_) rfl (by kernel_rfl) (by kernel_rfl) (by kernel_rfl) (by kernel_rfl) (fun _ _ _ h => h) (Or.inl ⟨by rfl, ?_⟩) (fun h => Bool.noConfusion (h.symm.trans (show _ = false by kernel_rfl))) ?_
  rotate_left
  · ((intro w' hw'; (try dsimp only at hw'); go_simp) <;> with_reducible rfl)
  simp only [Act.put, List.setIfInBounds_toArray, List.set_cons_zero, List.set_cons_succ]
  refine wpN_pure (i := 12) (v := ?_) rfl (by kernel_rfl) (by kernel_rfl) (by kernel_rfl) (by kernel_rfl) (fun _ _ _ h => h) (Or.inl ⟨by rfl, ?_⟩) (fun h => Bool.noConfusion (h.symm.trans (show _ = false by kernel_rfl))) ?_
  rotate_left
  · ((intro w' hw'; (try dsimp only at hw'); go_simp) <;> with_reducible rfl)
  simp only [Act.put, List.setIfInBounds_toArray, List.set_cons_zero, List.set_cons_succ]
  refine wpN_done (by kernel_rfl) ?_
  go_wp2_with fail
  refine (D.out _ (TP.out.below B1.out)).mono ?_
  rintro e w2 ⟨rfl, hb⟩
  have B2 := Lib.hid (B1.out.trans (hb.mono hs1))
  clear hb
  go_wp2
  go_ret
  exact ⟨rfl, B2.out⟩
set_option maxRecDepth 100000 in
theorem gr_times (x y : ByteArray) (r : ByteArray) (w0 : World) (hp : Calls Tryz.prog 57 #[.string x, .string y] w0 fun e w' => e = .returned (.tuple #[.string r, .int .i64 0]) ∧ Below w0.heap.size w0 w') (v : Value) (w : World) (e0 : w0 = w.drew) (h : Rs w v [x, y]) (hT : Tp w) :
    Calls Tryz.prog 28 #[.string ⟨#[116, 105, 109, 101, 115]⟩, v] w (RetV w (.string r)) := by
  obtain ⟨cap, b, off, rfl, hcap, hm, hx⟩ := h.cells (by simp)
  have c0 := hx 0 x rfl
  have c1 := hx 1 y rfl
  rw [Nat.add_zero] at c0
  subst e0
  have C := Lib.hid hp
  have TP := Lib.hid hT
  clear h hp hT hx
  go_enter Tryz.func28, Tryz.ntmps28
  go_wp2_with fail
  refine wp_region_N [3, 6] [7] (fun w' => w'.cell? ⟨b, off, none⟩ = some (.string x) ∧ w'.cell? ⟨b, off + 1, none⟩ = some (.string y)) (by kernel_rfl) ?_
  have hS : w.drew.cell? ⟨b, off, none⟩ = some (.string x) ∧ w.drew.cell? ⟨b, off + 1, none⟩ = some (.string y) := ⟨c0, c1⟩
  refine wpN_pure (i := 0) (v := ?_) rfl (by kernel_rfl) (by kernel_rfl) (by kernel_rfl) (by kernel_rfl) (fun _ _ _ h => h) (Or.inl ⟨by rfl, ?_⟩) (fun _ => hS) ?_
  rotate_left
  · ((intro w' hw'; (try dsimp only at hw'); go_simp) <;> with_reducible rfl)
  simp only [Act.put, List.setIfInBounds_toArray, List.set_cons_zero, List.set_cons_succ]
  refine wpN_pure (i := 1) (v := ?_) rfl (by kernel_rfl) (by kernel_rfl) (by kernel_rfl) (by kernel_rfl) (fun _ _ _ h => h) (Or.inl ⟨by rfl, ?_⟩) (fun _ => hS) ?_
  rotate_left
  · ((intro w' hw'; (try dsimp only at hw'); go_simp) <;> with_reducible rfl)
  simp only [Act.put, List.setIfInBounds_toArray, List.set_cons_zero, List.set_cons_succ]
  refine wpN_pure (i := 2) (v := ?_) rfl (by kernel_rfl) (by kernel_rfl) (by kernel_rfl) (by kernel_rfl) (fun _ _ _ h => h) (Or.inl ⟨by rfl, ?_⟩) (fun _ => hS) ?_
  rotate_left
  · ((intro w' hw'; (try dsimp only at hw'); go_simp) <;> with_reducible rfl)
  simp only [Act.put, List.setIfInBounds_toArray, List.set_cons_zero, List.set_cons_succ]
  refine wpN_read (i := 3) (v := ?_) rfl (by kernel_rfl) (by kernel_rfl) (by kernel_rfl) (by kernel_rfl) (by kernel_rfl) (fun _ _ _ h => h) (Or.inl ⟨by rfl, ?_⟩) hS ?_
  rotate_left
  · ((intro w' hw'; (try dsimp only at hw'); go_simp) <;> with_reducible rfl)
  simp only [Act.put, List.setIfInBounds_toArray, List.set_cons_zero, List.set_cons_succ]
  refine wpN_pure (i := 4) (v := ?_) rfl (by kernel_rfl) (by kernel_rfl) (by kernel_rfl) (by kernel_rfl) (fun _ _ _ h => h) (Or.inl ⟨by rfl, ?_⟩) (fun _ => hS) ?_
  rotate_left
  · ((intro w' hw'; (try dsimp only at hw'); go_simp) <;> with_reducible rfl)
  simp only [Act.put, List.setIfInBounds_toArray, List.set_cons_zero, List.set_cons_succ]
  refine wpN_pure (i := 5) (v := ?_) rfl (by kernel_rfl) (by kernel_rfl) (by kernel_rfl) (by kernel_rfl) (fun _ _ _ h => h) (Or.inl ⟨by rfl, ?_⟩) (fun _ => hS) ?_
  rotate_left
  · ((intro w' hw'; (try dsimp only at hw'); go_simp) <;> with_reducible rfl)
  simp only [Act.put, List.setIfInBounds_toArray, List.set_cons_zero, List.set_cons_succ]
  refine wpN_read (i := 6) (v := ?_) rfl (by kernel_rfl) (by kernel_rfl) (by kernel_rfl) (by kernel_rfl) (by kernel_rfl) (fun _ _ _ h => h) (Or.inl ⟨by rfl, ?_⟩) hS ?_
  rotate_left
  · ((intro w' hw'; (try dsimp only at hw'); go_simp) <;> with_reducible rfl)
  simp only [Act.put, List.setIfInBounds_toArray, List.set_cons_zero, List.set_cons_succ]
  refine wpN_one (i := 7) rfl rfl (by kernel_rfl) (by kernel_rfl) (fun K hK => ?_)
  go_simp
  refine C.out.mono ?_
  rintro e w1 ⟨rfl, hb⟩
  refine hK.out _ _ ?_
  clear hK K hS
  have B1 := Lib.hid ((below_drewN (Below.refl w.heap.size w) 1).trans hb)
  have hs1 := B1.out.size
  clear hb
  refine wpN_pure (i := 8) (v := ?_) rfl (by kernel_rfl) (by kernel_rfl) (by kernel_rfl) (by kernel_rfl) (fun _ _ _ h => h) (Or.inl ⟨by rfl, ?_⟩) (fun h => Bool.noConfusion (h.symm.trans (show _ = false by kernel_rfl))) ?_
  rotate_left
  · ((intro w' hw'; (try dsimp only at hw'); go_simp) <;> with_reducible rfl)
  simp only [Act.put, List.setIfInBounds_toArray, List.set_cons_zero, List.set_cons_succ]
  refine wpN_pure (i := 9) (v := ?_) rfl (by kernel_rfl) (by kernel_rfl) (by kernel_rfl) (by kernel_rfl) (fun _ _ _ h => h) (Or.inl ⟨by rfl, ?_⟩) (fun h => Bool.noConfusion (h.symm.trans (show _ = false by kernel_rfl))) ?_
  rotate_left
  · ((intro w' hw'; (try dsimp only at hw'); go_simp) <;> with_reducible rfl)
  simp only [Act.put, List.setIfInBounds_toArray, List.set_cons_zero, List.set_cons_succ]
  refine wpN_pure (i := 11) (v := ?_) rfl (by kernel_rfl) (by kernel_rfl) (by kernel_rfl) (by kernel_rfl) (fun _ _ _ h => h) (Or.inl ⟨by rfl, ?_⟩) (fun h => Bool.noConfusion (h.symm.trans (show _ = false by kernel_rfl))) ?_
  rotate_left
  · ((intro w' hw'; (try dsimp only at hw'); go_simp) <;> with_reducible rfl)
  simp only [Act.put, List.setIfInBounds_toArray, List.set_cons_zero, List.set_cons_succ]
  refine wpN_pure (i := 10) (v := ?_) rfl (by kernel_rfl) (by kernel_rfl) (by kernel_rfl) (by kernel_rfl) (fun _ _ _ h => h) (Or.inl ⟨by rfl, ?_⟩) (fun h => Bool.noConfusion (h.symm.trans (show _ = false by kernel_rfl))) ?_
  rotate_left
  · ((intro w' hw'; (try dsimp only at hw'); go_simp) <;> with_reducible rfl)
  simp only [Act.put, List.setIfInBounds_toArray, List.set_cons_zero, List.set_cons_succ]
  refine wpN_pure (i := 12) (v := ?_) rfl (by kernel_rfl) (by kernel_rfl) (by kernel_rfl) (by kernel_rfl) (fun _ _ _ h => h) (Or.inl ⟨by rfl, ?_⟩) (fun h => Bool.noConfusion (h.symm.trans (show _ = false by kernel_rfl))) ?_
  rotate_left
  · ((intro w' hw'; (try dsimp only at hw'); go_simp) <;> with_reducible rfl)
  simp only [Act.put, List.setIfInBounds_toArray, List.set_cons_zero, List.set_cons_succ]
  refine wpN_done (by kernel_rfl) ?_
  go_wp2
  go_ret
  exact ⟨rfl, B1.out⟩
set_option maxRecDepth 100000 in
theorem gr_timesB (x y : ByteArray) (n : Int) (hn0 : 0 < n) (hn1 : n < 10) (w0 : World) (hp : Calls Tryz.prog 57 #[.string x, .string y] w0 fun e w' => e = .returned (.tuple #[.string ⟨#[]⟩, .int .i64 n]) ∧ Below w0.heap.size w0 w') (v : Value) (w : World) (e0 : w0 = w.drew) (h : Rs w v [x, y]) (hT : Tp w) :
    Calls Tryz.prog 28 #[.string ⟨#[116, 105, 109, 101, 115]⟩, v] w (RetV w (.string (erB n))) := by
  obtain ⟨cap, b, off, rfl, hcap, hm, hx⟩ := h.cells (by simp)
  have c0 := hx 0 x rfl
  have c1 := hx 1 y rfl
  rw [Nat.add_zero] at c0
  subst e0
  have C := Lib.hid hp
  have TP := Lib.hid hT
  have gn : (n == 0) = false := by rw [beq_eq_false_iff_ne]; omega
  have D := Lib.hid (fun w hT => failed_is n (by omega) hn1 w hT)
  generalize erB n = r at *
  clear h hp hT hx
  go_enter Tryz.func28, Tryz.ntmps28
  go_wp2_with fail
  refine wp_region_N [3, 6] [7] (fun w' => w'.cell? ⟨b, off, none⟩ = some (.string x) ∧ w'.cell? ⟨b, off + 1, none⟩ = some (.string y)) (by kernel_rfl) ?_
  have hS : w.drew.cell? ⟨b, off, none⟩ = some (.string x) ∧ w.drew.cell? ⟨b, off + 1, none⟩ = some (.string y) := ⟨c0, c1⟩
  refine wpN_pure (i := 0) (v := ?_) rfl (by kernel_rfl) (by kernel_rfl) (by kernel_rfl) (by kernel_rfl) (fun _ _ _ h => h) (Or.inl ⟨by rfl, ?_⟩) (fun _ => hS) ?_
  rotate_left
  · ((intro w' hw'; (try dsimp only at hw'); go_simp) <;> with_reducible rfl)
  simp only [Act.put, List.setIfInBounds_toArray, List.set_cons_zero, List.set_cons_succ]
  refine wpN_pure (i := 1) (v := ?_) rfl (by kernel_rfl) (by kernel_rfl) (by kernel_rfl) (by kernel_rfl) (fun _ _ _ h => h) (Or.inl ⟨by rfl, ?_⟩) (fun _ => hS) ?_
  rotate_left
  · ((intro w' hw'; (try dsimp only at hw'); go_simp) <;> with_reducible rfl)
  simp only [Act.put, List.setIfInBounds_toArray, List.set_cons_zero, List.set_cons_succ]
  refine wpN_pure (i := 2) (v := ?_) rfl (by kernel_rfl) (by kernel_rfl) (by kernel_rfl) (by kernel_rfl) (fun _ _ _ h => h) (Or.inl ⟨by rfl, ?_⟩) (fun _ => hS) ?_
  rotate_left
  · ((intro w' hw'; (try dsimp only at hw'); go_simp) <;> with_reducible rfl)
  simp only [Act.put, List.setIfInBounds_toArray, List.set_cons_zero, List.set_cons_succ]
  refine wpN_read (i := 3) (v := ?_) rfl (by kernel_rfl) (by kernel_rfl) (by kernel_rfl) (by kernel_rfl) (by kernel_rfl) (fun _ _ _ h => h) (Or.inl ⟨by rfl, ?_⟩) hS ?_
  rotate_left
  · ((intro w' hw'; (try dsimp only at hw'); go_simp) <;> with_reducible rfl)
  simp only [Act.put, List.setIfInBounds_toArray, List.set_cons_zero, List.set_cons_succ]
  refine wpN_pure (i := 4) (v := ?_) rfl (by kernel_rfl) (by kernel_rfl) (by kernel_rfl) (by kernel_rfl) (fun _ _ _ h => h) (Or.inl ⟨by rfl, ?_⟩) (fun _ => hS) ?_
  rotate_left
  · ((intro w' hw'; (try dsimp only at hw'); go_simp) <;> with_reducible rfl)
  simp only [Act.put, List.setIfInBounds_toArray, List.set_cons_zero, List.set_cons_succ]
  refine wpN_pure (i := 5) (v := ?_) rfl (by kernel_rfl) (by kernel_rfl) (by kernel_rfl) (by kernel_rfl) (fun _ _ _ h => h) (Or.inl ⟨by rfl, ?_⟩) (fun _ => hS) ?_
  rotate_left
  · ((intro w' hw'; (try dsimp only at hw'); go_simp) <;> with_reducible rfl)
  simp only [Act.put, List.setIfInBounds_toArray, List.set_cons_zero, List.set_cons_succ]
  refine wpN_read (i := 6) (v := ?_) rfl (by kernel_rfl) (by kernel_rfl) (by kernel_rfl) (by kernel_rfl) (by kernel_rfl) (fun _ _ _ h => h) (Or.inl ⟨by rfl, ?_⟩) hS ?_
  rotate_left
  · ((intro w' hw'; (try dsimp only at hw'); go_simp) <;> with_reducible rfl)
  simp only [Act.put, List.setIfInBounds_toArray, List.set_cons_zero, List.set_cons_succ]
  refine wpN_one (i := 7) rfl rfl (by kernel_rfl) (by kernel_rfl) (fun K hK => ?_)
  go_simp
  refine C.out.mono ?_
  rintro e w1 ⟨rfl, hb⟩
  refine hK.out _ _ ?_
  clear hK K hS
  have B1 := Lib.hid ((below_drewN (Below.refl w.heap.size w) 1).trans hb)
  have hs1 := B1.out.size
  clear hb
  refine wpN_pure (i := 8) (v := ?_) rfl (by kernel_rfl) (by kernel_rfl) (by kernel_rfl) (by kernel_rfl) (fun _ _ _ h => h) (Or.inl ⟨by rfl, ?_⟩) (fun h => Bool.noConfusion (h.symm.trans (show _ = false by kernel_rfl))) ?_
  rotate_left
  · ((intro w' hw'; (try dsimp only at hw'); go_simp) <;> with_reducible rfl)
  simp only [Act.put, List.setIfInBounds_toArray, List.set_cons_zero, List.set_cons_succ]
  refine wpN_pure (i := 9) (v := ?_) rfl (by kernel_rfl) (by kernel_rfl) (by kernel_rfl) (by kernel_rfl) (fun _ _ _ h => h) (Or.inl ⟨by rfl, ?_⟩) (fun h => Bool.noConfusion (h.symm.trans (show _ = false by kernel_rfl))) ?_
  rotate_left
  · ((intro w' hw'; (try dsimp only at hw'); go_simp) <;> with_reducible rfl)
  simp only [Act.put, List.setIfInBounds_toArray, List.set_cons_zero, List.set_cons_succ]
  refine wpN_pure (i := 11) (v := ?_) rfl (by kernel_rfl) (by kernel_rfl) (by kernel_rfl) (by kernel_rfl) (fun _ _ _ h => h) (Or.inl ⟨by rfl, ?_⟩) (fun h => Bool.noConfusion (h.symm.trans (show _ = false by kernel_rfl))) ?_
  rotate_left
  · ((intro w' hw'; (try dsimp only at hw'); go_simp) <;> with_reducible rfl)
  simp only [Act.put, List.setIfInBounds_toArray, List.set_cons_zero, List.set_cons_succ]
  refine wpN_pure (i := 10) (v := ?_) rfl (by kernel_rfl) (by kernel_rfl) (by kernel_rfl) (by kernel_rfl) (fun _ _ _ h => h) (Or.inl ⟨by rfl, ?_⟩) (fun h => Bool.noConfusion (h.symm.trans (show _ = false by kernel_rfl))) ?_
  rotate_left
  · ((intro w' hw'; (try dsimp only at hw'); go_simp) <;> with_reducible rfl)
  simp only [Act.put, List.setIfInBounds_toArray, List.set_cons_zero, List.set_cons_succ]
  refine wpN_pure (i := 12) (v := ?_) rfl (by kernel_rfl) (by kernel_rfl) (by kernel_rfl) (by kernel_rfl) (fun _ _ _ h => h) (Or.inl ⟨by rfl, ?_⟩) (fun h => Bool.noConfusion (h.symm.trans (show _ = false by kernel_rfl))) ?_
  rotate_left
  · ((intro w' hw'; (try dsimp only at hw'); go_simp) <;> with_reducible rfl)
  simp only [Act.put, List.setIfInBounds_toArray, List.set_cons_zero, List.set_cons_succ]
  refine wpN_done (by kernel_rfl) ?_
  go_wp2_with fail
  refine (D.out _ (TP.out.below B1.out)).mono ?_
  rintro e w2 ⟨rfl, hb⟩
  have B2 := Lib.hid (B1.out.trans (hb.mono hs1))
  clear hb
  go_wp2
  go_ret
  exact ⟨rfl, B2.out⟩
end Go.Proofs.YtdhmmllpldjkbaaGreatDoor.Gm
