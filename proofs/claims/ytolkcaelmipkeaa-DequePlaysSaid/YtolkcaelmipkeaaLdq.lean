/- The walk of the law DequePlays. -/
import Derived.Test.YtolkcaelmipkeaaDq
import Derived.Test.YtolkcaelmipkeaaCt
import Derived.Test.YtolkcaelmipkeaaRd4
import Derived.Test.YtolkcaelmipkeaaIn
namespace Go.Proofs.Ytolkcaelmipkeaa.Gm
open Go.RowKit
def DpRel (w : World) (D G n len : Nat) (m i : Value) (wr : World) : Prop :=
  ∃ (k : Nat) (ms : List T3), k ≤ len ∧ i = .int .i64 k ∧ DqAt wr D G n ms ∧ Ot w.heap.size wr m ms ∧ m.ownBlock ≠ some G ∧ m.ownBlock ≠ some D ∧ Below w.heap.size w wr
set_option maxHeartbeats 4000000 in
set_option maxRecDepth 100000 in
theorem wDequePlays (z : Int) (cl : List (Int × T3)) (v : Value) (w : World) (h : Rc w v cl) :
    Calls Try.prog 5 #[.int .i64 z, v] w (RetV w (.bool true)) := by
  obtain ⟨a, cap, b, off, rfl, hcap, hm, hx, hc⟩ := h
  have HC := Lib.hid hc
  have HX := Lib.hid hx
  clear hc hx
  by_cases hz : z < 1 ∨ 64 < z
  · have HZ := Lib.hid hz
    clear hz
    go_enter Try.func5, Try.ntmps5
    go_wp2_with fail
    refine (dnew_bad z _ HZ.out).mono ?_
    rintro e w' ⟨rfl, rfl⟩
    go_wp2_with fail
    refine (in_no z 1 64 _ HZ.out).mono ?_
    rintro e w' ⟨rfl, rfl⟩
    go_wp2_with fail
    refine (in_no z 1 64 _ HZ.out).mono ?_
    rintro e w' ⟨rfl, rfl⟩
    go_wp2
    go_ret
    exact ⟨rfl, Below.refl _ _⟩
  · obtain ⟨n, hn⟩ : ∃ n : Nat, z = (n : Int) := ⟨z.toNat, by omega⟩
    subst hn
    have hn1 : 1 ≤ n := by omega
    have hn2 : n ≤ 64 := by omega
    clear hz
    go_enter Try.func5, Try.ntmps5
    go_wp2_with fail
    refine (dnew_any n _ _ hn1 hn2 rfl).mono ?_
    rintro e w1 ⟨D, G, rfl, hD, hG, hdq, hbel⟩
    have DQ := Lib.hid hdq
    have HB := Lib.hid hbel
    have hlt := hdq.lt
    clear hdq hbel
    go_wp2_with fail
    refine (in_yes (n : Int) 1 64 _ (by omega) (by omega)).mono ?_
    rintro e w' ⟨rfl, rfl⟩
    by_cases hlen : 200 < cl.length
    · go_wp2
      go_ret
      exact ⟨rfl, HB.out⟩
    · go_wp2
      go_loopw [7, 44] (fun m i wr => DpRel w D G n cl.length m i wr) (fun _ i _ => cl.length - (intOf i).toNat)
      case atStart => exact ⟨0, [], by omega, rfl, DQ.out, Ot.nil _ _, by simp [Value.ownBlock], by simp [Value.ownBlock], HB.out⟩
      case round =>
        obtain ⟨k, ms, hk, rfl, hdq, hot, hap, hap2, hbel⟩ := hrel
        have hltk := hdq.lt
        obtain ⟨aq, cq, N, rfl, hN, hcq, hmq, hga⟩ := hot.shapeN
        have HN := Lib.hid hN
        have hmsn : ms.length ≤ n := by obtain ⟨_, _, _, _, _, _, hh, _⟩ := hdq; exact hh
        have hNn : N ≤ n := by omega
        have hge0 : ms.length ≤ N := by omega
        have hle0 : N ≤ ms.length := by omega
        clear hN
        have DQk := Lib.hid hdq
        have OTk := Lib.hid hot
        have HBk := Lib.hid hbel
        have APk := Lib.hid hap
        have AP2 := Lib.hid hap2
        have hwsz := hbel.size
        clear hdq hot hap hap2 hbel DQ HB
        by_cases hkl : k < cl.length
        · rcases HX.out with hx | rfl
          · exfalso; omega
          have hck := HC.out k hkl
          have c0 : wr.cell? ⟨b, off + k * 4, none⟩ = some (.int .i64 (kg cl k).1) := (HBk.out.cell (p := ⟨b, off + k * 4, none⟩) (World.block_lt_of_cell? _ _ hck.1)).trans hck.1
          have c1 : wr.cell? ⟨b, off + k * 4 + 1, none⟩ = some (.int .i64 (kg cl k).2.1) := (HBk.out.cell (p := ⟨b, off + k * 4 + 1, none⟩) (World.block_lt_of_cell? _ _ hck.2.1)).trans hck.2.1
          have c2 : wr.cell? ⟨b, off + k * 4 + 2, none⟩ = some (.int .i64 (kg cl k).2.2.1) := (HBk.out.cell (p := ⟨b, off + k * 4 + 2, none⟩) (World.block_lt_of_cell? _ _ hck.2.2.1)).trans hck.2.2.1
          have c3 : wr.cell? ⟨b, off + k * 4 + 3, none⟩ = some (.int .i64 (kg cl k).2.2.2) := (HBk.out.cell (p := ⟨b, off + k * 4 + 3, none⟩) (World.block_lt_of_cell? _ _ hck.2.2.2)).trans hck.2.2.2
          clear hck
          generalize hKG : kg cl k = kt at *
          obtain ⟨kd, x, y, z⟩ := kt
          clear hKG
          simp only at c0 c1 c2 c3
          have D1 := Lib.hid (DQk.out.only ((Only.refl (fun _ => False) wr).alloc (.cells #[.int .i64 kd, .int .i64 x, .int .i64 y, .int .i64 z] 37)) id id)
          have O1 := Lib.hid (OTk.out.only ((Only.refl (fun _ => False) wr).alloc (.cells #[.int .i64 kd, .int .i64 x, .int .i64 y, .int .i64 z] 37)) (fun _ _ => id))
          have B1 := Lib.hid (HBk.out.alloc hwsz (.cells #[.int .i64 kd, .int .i64 x, .int .i64 y, .int .i64 z] 37))
          have KC := Lib.hid (Blk.new wr 37 #[.int .i64 kd, .int .i64 x, .int .i64 y, .int .i64 z])
          have hs1 := B1.out.size
          clear DQk OTk HBk
          by_cases h0 : kd = 0
          · subst h0
            go_wp2_with fail
            clear c0 c1 c2 c3
            have hz1 : (wr.alloc (.cells #[.int .i64 0, .int .i64 x, .int .i64 y, .int .i64 z] 37)).heap.size = wr.heap.size + 1 := by simp
            have hs2 : wr.heap.size + 1 ≤ (wr.alloc (.cells #[.int .i64 0, .int .i64 x, .int .i64 y, .int .i64 z] 37)).heap.size := Nat.le_of_eq hz1.symm
            clear hz1
            generalize wr.alloc (.cells #[.int .i64 0, .int .i64 x, .int .i64 y, .int .i64 z] 37) = w2 at *
            by_cases hfull : ms.length < n
            · refine (dpush_any D G n ms (x, y, z) _ D1.out hfull).mono ?_
              rintro e w3 ⟨rfl, hdq3, ho3⟩
              have D3 := Lib.hid hdq3
              have O3 := Lib.hid (O1.out.only ho3 (fun g e => fun hh => by rcases hh with rfl | rfl; exact AP2.out e; exact APk.out e))
              have B3 := Lib.hid (B1.out.trans (ho3.below hs1 (fun g hh => by rcases hh with rfl | rfl <;> assumption)))
              have KC3 := KC.out.only ho3 (fun hh => by omega)
              have c1 : w3.cell? ⟨wr.heap.size, 1, none⟩ = some (.int .i64 x) := KC3.cell 1
              have c2 : w3.cell? ⟨wr.heap.size, 2, none⟩ = some (.int .i64 y) := KC3.cell 2
              have c3 : w3.cell? ⟨wr.heap.size, 3, none⟩ = some (.int .i64 z) := KC3.cell 3
              have hs3 := Nat.le_trans hs2 ho3.size
              have hb3 := B3.out.size
              have hne : ((N : Int) == (n : Int)) = false := by simp; omega
              have hml : ms.length ≤ 1000000 := by omega
              clear hdq3 ho3 KC3 D1 O1 B1 KC
              go_wp2_with (refine wl_appT 40 Try.underlying40 _ rfl (.tmp 62) (.tmp 65) rfl w.heap.size (.slice aq N cq) ms x y z rfl rfl O3.out hb3 hml ?_; intro v4 w4 hO4 ho4 hat4)
              have D4 := Lib.hid (D3.out.only ho4 AP2.out APk.out)
              have hd4 := D3.out.lt
              have A4 := Lib.hid (show v4.ownBlock ≠ some G ∧ v4.ownBlock ≠ some D by
                rcases hat4 with e | ⟨g, e, hg⟩
                · rw [e]; exact ⟨APk.out, AP2.out⟩
                · rw [e]; exact ⟨fun hh => by injection hh; omega, fun hh => by injection hh; omega⟩)
              have B4 := Lib.hid (B3.out.trans (ho4.below hb3 (fun g e => (O3.out.lt g e).1)))
              obtain ⟨a4, c4, rfl, hc4, hm4, _⟩ := hO4.shape
              have O4 := Lib.hid hO4
              clear hO4 ho4 hat4 D3 O3 B3
              refine (dlen_any D G n (ms ++ [(x, y, z)]) _ D4.out).mono ?_
              rintro e w' ⟨rfl, rfl⟩
              go_wp2
              go_roundw
              case rel => exact ⟨k + 1, ms ++ [(x, y, z)], by omega, by go_num, D4.out, by simpa using O4.out, by simpa using A4.out.1, by simpa using A4.out.2, B4.out⟩
              case measure => simp [intOf] <;> omega
            · have hge : n ≤ ms.length := by omega
              refine (dpush_full D G n ms (x, y, z) _ D1.out hge).mono ?_
              rintro e w3 ⟨rfl, hb3⟩
              have D3 := Lib.hid (D1.out.only (Only.of_below (S := fun _ => False) hb3 (fun g h1 h2 => by omega)) id id)
              have O3 := Lib.hid (O1.out.below hb3)
              have B3 := Lib.hid (B1.out.trans (hb3.mono hs1))
              have hne : ((N : Int) == (n : Int)) = true := by simp; omega
              clear hb3 D1 O1 B1
              go_wp2
              go_roundw
              case rel => exact ⟨k + 1, ms, by omega, by go_num, D3.out, O3.out, APk.out, AP2.out, B3.out⟩
              case measure => simp [intOf] <;> omega
          · by_cases h1 : kd = 1
            · subst h1
              go_wp2_with fail
              clear c0 c1 c2 c3
              have hz1 : (wr.alloc (.cells #[.int .i64 1, .int .i64 x, .int .i64 y, .int .i64 z] 37)).heap.size = wr.heap.size + 1 := by simp
              have hs2 : wr.heap.size + 1 ≤ (wr.alloc (.cells #[.int .i64 1, .int .i64 x, .int .i64 y, .int .i64 z] 37)).heap.size := Nat.le_of_eq hz1.symm
              clear hz1
              generalize wr.alloc (.cells #[.int .i64 1, .int .i64 x, .int .i64 y, .int .i64 z] 37) = w2 at *
              by_cases hms : N = 0
              · have hnil : ms = [] := List.length_eq_zero_iff.1 (by omega)
                subst hnil
                subst hms
                refine (dpop_none D G n _ D1.out).mono ?_
                rintro e w3 ⟨rfl, hb3⟩
                have D3 := Lib.hid (D1.out.only (Only.of_below (S := fun _ => False) hb3 (fun g h1 h2 => by omega)) id id)
                have O3 := Lib.hid (O1.out.below hb3)
                have B3 := Lib.hid (B1.out.trans (hb3.mono hs1))
                have KC3 := KC.out.below hb3 (by omega)
                have c0 : w3.cell? ⟨wr.heap.size, 0, none⟩ = some (.int .i64 1) := KC3.cell 0
                have hs3 := Nat.le_trans hs2 hb3.size
                clear hb3 D1 O1 B1 KC KC3
                unfold tk
                go_wp2_with fail
                have A5 := ((Only.refl (fun _ => False) w3).alloc (.cells #[.int .i64 0, .int .i64 0, .int .i64 0] 31)).alloc (.cells #[.int .i64 0, .int .i64 0, .int .i64 0] 31)
                have D5 := Lib.hid (D3.out.only A5 id id)
                have O5 := Lib.hid (O3.out.only A5 (fun _ _ => id))
                have B5 := Lib.hid ((B3.out.alloc (Nat.le_trans hwsz (by omega)) (.cells #[.int .i64 0, .int .i64 0, .int .i64 0] 31)).alloc (by simp; omega) (.cells #[.int .i64 0, .int .i64 0, .int .i64 0] 31))
                clear A5 D3 O3 B3
                refine (dlen_any D G n [] _ D5.out).mono ?_
                rintro e w' ⟨rfl, rfl⟩
                go_wp2
                go_roundw
                case rel => exact ⟨k + 1, [], by omega, by go_num, D5.out, O5.out, APk.out, AP2.out, B5.out⟩
                case measure => simp [intOf] <;> omega
              · obtain ⟨m, rfl⟩ : ∃ m, N = m + 1 := ⟨N - 1, by omega⟩
                obtain ⟨g, rfl⟩ := hga (by omega)
                refine (dpop_any D G n ms _ D1.out (by omega)).mono ?_
                rintro e w3 ⟨rfl, hd3, ho3⟩
                rw [show ms.length - 1 = m by omega] at hd3 ⊢
                have D3 := Lib.hid hd3
                have O3 := Lib.hid (O1.out.only ho3 (fun g e => fun hh => by rcases hh with rfl | rfl; exact AP2.out e; exact APk.out e))
                have B3 := Lib.hid (B1.out.trans (ho3.below hs1 (fun g hh => by rcases hh with rfl | rfl <;> assumption)))
                have KC3 := KC.out.only ho3 (fun hh => by omega)
                have cc := O3.out.cell (i := m) (by omega)
                have hs3 := Nat.le_trans hs2 ho3.size
                have hlt3 := (O3.out.lt g (by simp [Value.ownBlock])).2
                have TK := Lib.hid (show (ms.take m).length = m by rw [List.length_take]; omega)
                clear hd3 ho3 D1 O1 B1 KC
                obtain ⟨t, ht⟩ : ∃ t, tg ms m = t := ⟨_, rfl⟩
                have TG := Lib.hid ht
                rw [ht] at cc ⊢
                clear ht
                obtain ⟨x', y', z'⟩ := t
                unfold tk
                have A4 := Lib.hid ((Only.refl (fun _ => False) w3).alloc (.cells #[.int .i64 x', .int .i64 y', .int .i64 z'] 31))
                have A5 := Lib.hid (A4.out.alloc (.cells #[.int .i64 0, .int .i64 0, .int .i64 0] 31))
                have cc5 := (O3.out.only A5.out (fun _ _ => id)).cell (i := m) (by omega)
                rw [TG.out] at cc5
                have ci0 := cc5.1
                have ci1 := cc5.2.1
                have ci2 := cc5.2.2
                have k0 : ((w3.alloc (.cells #[.int .i64 x', .int .i64 y', .int .i64 z'] 31)).alloc (.cells #[.int .i64 0, .int .i64 0, .int .i64 0] 31)).cell? ⟨wr.heap.size, 0, none⟩ = some (.int .i64 1) := ((KC3.alloc _).alloc _).cell 0
                clear cc5 cc KC3
                have A6 := Lib.hid (A4.out.alloc (.cells #[.int .i64 x', .int .i64 y', .int .i64 z'] 31))
                have O6 := Lib.hid ((O3.out.take m (by omega)).only A6.out (fun _ _ => id))
                have D6 := Lib.hid (D3.out.only A6.out id id)
                have B6 := Lib.hid ((B3.out.alloc (Nat.le_trans hwsz (by omega)) (.cells #[.int .i64 x', .int .i64 y', .int .i64 z'] 31)).alloc (by simp; omega) (.cells #[.int .i64 x', .int .i64 y', .int .i64 z'] 31))
                clear A4 A5 A6 O3 D3 B3 TG
                go_wp2_with fail
                refine (dlen_any D G n (ms.take m) _ D6.out).mono ?_
                rintro e w' ⟨rfl, rfl⟩
                rw [TK.out]
                go_wp2
                go_roundw
                case rel => exact ⟨k + 1, ms.take m, by omega, by go_num, D6.out, O6.out, APk.out, AP2.out, B6.out⟩
                case measure => simp [intOf] <;> omega
            · by_cases h2 : kd = 2
              · subst h2
                go_wp2_with fail
                clear c0 c1 c2 c3
                have hz1 : (wr.alloc (.cells #[.int .i64 2, .int .i64 x, .int .i64 y, .int .i64 z] 37)).heap.size = wr.heap.size + 1 := by simp
                have hs2 : wr.heap.size + 1 ≤ (wr.alloc (.cells #[.int .i64 2, .int .i64 x, .int .i64 y, .int .i64 z] 37)).heap.size := Nat.le_of_eq hz1.symm
                clear hz1
                generalize wr.alloc (.cells #[.int .i64 2, .int .i64 x, .int .i64 y, .int .i64 z] 37) = w2 at *
                by_cases hms : N = 0
                · have hnil : ms = [] := List.length_eq_zero_iff.1 (by omega)
                  subst hnil
                  subst hms
                  refine (dsteal_none D G n _ D1.out).mono ?_
                  rintro e w3 ⟨rfl, hb3⟩
                  have D3 := Lib.hid (D1.out.only (Only.of_below (S := fun _ => False) hb3 (fun g h1 h2 => by omega)) id id)
                  have O3 := Lib.hid (O1.out.below hb3)
                  have B3 := Lib.hid (B1.out.trans (hb3.mono hs1))
                  have KC3 := KC.out.below hb3 (by omega)
                  have c0 : w3.cell? ⟨wr.heap.size, 0, none⟩ = some (.int .i64 2) := KC3.cell 0
                  have hs3 := Nat.le_trans hs2 hb3.size
                  clear hb3 D1 O1 B1 KC KC3
                  unfold tk
                  go_wp2_with fail
                  have A5 := ((Only.refl (fun _ => False) w3).alloc (.cells #[.int .i64 0, .int .i64 0, .int .i64 0] 31)).alloc (.cells #[.int .i64 0, .int .i64 0, .int .i64 0] 31)
                  have D5 := Lib.hid (D3.out.only A5 id id)
                  have O5 := Lib.hid (O3.out.only A5 (fun _ _ => id))
                  have B5 := Lib.hid ((B3.out.alloc (Nat.le_trans hwsz (by omega)) (.cells #[.int .i64 0, .int .i64 0, .int .i64 0] 31)).alloc (by simp; omega) (.cells #[.int .i64 0, .int .i64 0, .int .i64 0] 31))
                  clear A5 D3 O3 B3
                  refine (dlen_any D G n [] _ D5.out).mono ?_
                  rintro e w' ⟨rfl, rfl⟩
                  go_wp2
                  go_roundw
                  case rel => exact ⟨k + 1, [], by omega, by go_num, D5.out, O5.out, APk.out, AP2.out, B5.out⟩
                  case measure => simp [intOf] <;> omega
                · obtain ⟨m, rfl⟩ : ∃ m, N = m + 1 := ⟨N - 1, by omega⟩
                  obtain ⟨g, rfl⟩ := hga (by omega)
                  refine (dsteal_any D G n ms _ D1.out (by omega)).mono ?_
                  rintro e w3 ⟨rfl, hd3, ho3⟩
                  have D3 := Lib.hid hd3
                  have O3 := Lib.hid (O1.out.only ho3 (fun g e => fun hh => by rcases hh with rfl | rfl; exact AP2.out e; exact APk.out e))
                  have B3 := Lib.hid (B1.out.trans (ho3.below hs1 (fun g hh => by rcases hh with rfl | rfl <;> assumption)))
                  have KC3 := KC.out.only ho3 (fun hh => by omega)
                  have cc := O3.out.cell (i := 0) (by omega)
                  have hs3 := Nat.le_trans hs2 ho3.size
                  have hlt3 := (O3.out.lt g (by simp [Value.ownBlock])).2
                  have TK := Lib.hid (show ms.tail.length = m by rw [List.length_tail]; omega)
                  clear hd3 ho3 D1 O1 B1 KC
                  obtain ⟨t, ht⟩ : ∃ t, tg ms 0 = t := ⟨_, rfl⟩
                  have TG := Lib.hid ht
                  rw [ht] at cc ⊢
                  clear ht
                  obtain ⟨x', y', z'⟩ := t
                  unfold tk
                  have A4 := Lib.hid ((Only.refl (fun _ => False) w3).alloc (.cells #[.int .i64 x', .int .i64 y', .int .i64 z'] 31))
                  have A5 := Lib.hid (A4.out.alloc (.cells #[.int .i64 0, .int .i64 0, .int .i64 0] 31))
                  have cc5 := (O3.out.only A5.out (fun _ _ => id)).cell (i := 0) (by omega)
                  rw [TG.out] at cc5
                  rw [Nat.zero_mul, Nat.zero_add, Nat.zero_add] at cc5
                  have ci0 := cc5.1
                  have ci1 := cc5.2.1
                  have ci2 := cc5.2.2
                  have k0 : ((w3.alloc (.cells #[.int .i64 x', .int .i64 y', .int .i64 z'] 31)).alloc (.cells #[.int .i64 0, .int .i64 0, .int .i64 0] 31)).cell? ⟨wr.heap.size, 0, none⟩ = some (.int .i64 2) := ((KC3.alloc _).alloc _).cell 0
                  clear cc5 cc KC3
                  have A6 := Lib.hid (A4.out.alloc (.cells #[.int .i64 x', .int .i64 y', .int .i64 z'] 31))
                  have O6 := Lib.hid (O3.out.only A6.out (fun _ _ => id))
                  have D6 := Lib.hid (D3.out.only A6.out id id)
                  have B6 := Lib.hid ((B3.out.alloc (Nat.le_trans hwsz (by omega)) (.cells #[.int .i64 x', .int .i64 y', .int .i64 z'] 31)).alloc (by simp; omega) (.cells #[.int .i64 x', .int .i64 y', .int .i64 z'] 31))
                  clear A4 A5 A6 O3 D3 B3 TG
                  have hw6 : w.heap.size ≤ ((w3.alloc (.cells #[.int .i64 x', .int .i64 y', .int .i64 z'] 31)).alloc (.cells #[.int .i64 x', .int .i64 y', .int .i64 z'] 31)).heap.size := B6.out.size
                  have hml : ms.tail.length ≤ 1000000 := by rw [TK.out]; omega
                  have KX := Lib.hid ((Blk.new w3 31 #[.int .i64 x', .int .i64 y', .int .i64 z']).alloc (.cells #[.int .i64 x', .int .i64 y', .int .i64 z'] 31))
                  have ky := Blk.new (w3.alloc (.cells #[.int .i64 x', .int .i64 y', .int .i64 z'] 31)) 31 #[.int .i64 x', .int .i64 y', .int .i64 z']
                  rw [show (w3.alloc (.cells #[.int .i64 x', .int .i64 y', .int .i64 z'] 31)).heap.size = w3.heap.size + 1 by simp] at ky
                  have KY := Lib.hid ky
                  clear ky
                  by_cases hc1 : cq = 1
                  · have hm0 : m = 0 := by omega
                    subst hm0
                    subst hc1
                    have hnil : ms.tail = [] := List.length_eq_zero_iff.1 TK.out
                    have RT : Rk ((w3.alloc (.cells #[.int .i64 x', .int .i64 y', .int .i64 z'] 31)).alloc (.cells #[.int .i64 x', .int .i64 y', .int .i64 z'] 31)) (.slice (some ⟨g, 0, none⟩) 0 0) ms.tail := by
                      rw [hnil]
                      exact ⟨_, 0, 0, 0, rfl, by simp, by omega, .inl (Nat.le_refl _), by simp⟩
                    have RT := Lib.hid RT
                    clear hnil
                    go_wp2_with fail
                    refine (cloneT_any ms.tail _ _ RT.out (fun c e => by cases e) hml).mono ?_
                    rintro e w4 ⟨v4, rfl, hO4, hb4⟩
                    have D7 := Lib.hid (D6.out.only (Only.of_below (S := fun _ => False) hb4 (fun g h1 h2 => by omega)) id id)
                    have A7 := Lib.hid (show v4.ownBlock ≠ some G ∧ v4.ownBlock ≠ some D from ⟨fun e => by have := (hO4.lt _ e).1; have := D6.out.lt; omega, fun e => by have := (hO4.lt _ e).1; have := D6.out.lt; omega⟩)
                    have O7 := Lib.hid (hO4.mono hw6)
                    have B7 := Lib.hid (B6.out.trans (hb4.mono hw6))
                    obtain ⟨a7, c7, N7, rfl, hN7, hc7, hm7, _⟩ := O7.out.shapeN
                    have HN7 := Lib.hid hN7
                    have kx := KX.out.below hb4 KX.out.lt
                    have ky := KY.out.below hb4 KY.out.lt
                    have x0 : w4.cell? ⟨w3.heap.size, 0, none⟩ = some (.int .i64 x') := kx.cell 0
                    have x1 : w4.cell? ⟨w3.heap.size, 1, none⟩ = some (.int .i64 y') := kx.cell 1
                    have x2 : w4.cell? ⟨w3.heap.size, 2, none⟩ = some (.int .i64 z') := kx.cell 2
                    have y0 : w4.cell? ⟨w3.heap.size + 1, 0, none⟩ = some (.int .i64 x') := ky.cell 0
                    have y1 : w4.cell? ⟨w3.heap.size + 1, 1, none⟩ = some (.int .i64 y') := ky.cell 1
                    have y2 : w4.cell? ⟨w3.heap.size + 1, 2, none⟩ = some (.int .i64 z') := ky.cell 2
                    clear hO4 hb4 hN7 kx ky
                    go_wp2_with fail
                    refine (dlen_any D G n ms.tail _ D7.out).mono ?_
                    rintro e w' ⟨rfl, rfl⟩
                    rw [← HN7.out]
                    go_wp2
                    go_roundw
                    case rel => exact ⟨k + 1, ms.tail, by omega, by go_num, D7.out, O7.out, A7.out.1, A7.out.2, B7.out⟩
                    case measure => simp [intOf] <;> omega
                  · have hc2 : ¬ cq ≤ 1 := by omega
                    have RT := Lib.hid O6.out.tail.1
                    go_wp2_with fail
                    refine (cloneT_any ms.tail _ _ RT.out (fun c e => by cases e) hml).mono ?_
                    rintro e w4 ⟨v4, rfl, hO4, hb4⟩
                    have D7 := Lib.hid (D6.out.only (Only.of_below (S := fun _ => False) hb4 (fun g h1 h2 => by omega)) id id)
                    have A7 := Lib.hid (show v4.ownBlock ≠ some G ∧ v4.ownBlock ≠ some D from ⟨fun e => by have := (hO4.lt _ e).1; have := D6.out.lt; omega, fun e => by have := (hO4.lt _ e).1; have := D6.out.lt; omega⟩)
                    have O7 := Lib.hid (hO4.mono hw6)
                    have B7 := Lib.hid (B6.out.trans (hb4.mono hw6))
                    obtain ⟨a7, c7, N7, rfl, hN7, hc7, hm7, _⟩ := O7.out.shapeN
                    have HN7 := Lib.hid hN7
                    have kx := KX.out.below hb4 KX.out.lt
                    have ky := KY.out.below hb4 KY.out.lt
                    have x0 : w4.cell? ⟨w3.heap.size, 0, none⟩ = some (.int .i64 x') := kx.cell 0
                    have x1 : w4.cell? ⟨w3.heap.size, 1, none⟩ = some (.int .i64 y') := kx.cell 1
                    have x2 : w4.cell? ⟨w3.heap.size, 2, none⟩ = some (.int .i64 z') := kx.cell 2
                    have y0 : w4.cell? ⟨w3.heap.size + 1, 0, none⟩ = some (.int .i64 x') := ky.cell 0
                    have y1 : w4.cell? ⟨w3.heap.size + 1, 1, none⟩ = some (.int .i64 y') := ky.cell 1
                    have y2 : w4.cell? ⟨w3.heap.size + 1, 2, none⟩ = some (.int .i64 z') := ky.cell 2
                    clear hO4 hb4 hN7 kx ky
                    go_wp2_with fail
                    refine (dlen_any D G n ms.tail _ D7.out).mono ?_
                    rintro e w' ⟨rfl, rfl⟩
                    rw [← HN7.out]
                    go_wp2
                    go_roundw
                    case rel => exact ⟨k + 1, ms.tail, by omega, by go_num, D7.out, O7.out, A7.out.1, A7.out.2, B7.out⟩
                    case measure => simp [intOf] <;> omega
              · have e0 : (kd == 0) = false := by simpa using h0
                have e1 : (kd == 1) = false := by simpa using h1
                have e2 : (kd == 2) = false := by simpa using h2
                go_wp2_with fail
                refine (dlen_any D G n ms _ D1.out).mono ?_
                rintro e w' ⟨rfl, rfl⟩
                rw [← HN.out]
                go_wp2
                go_roundw
                case rel => exact ⟨k + 1, ms, by omega, by go_num, D1.out, O1.out, APk.out, AP2.out, B1.out⟩
                case measure => simp [intOf] <;> omega
        · obtain rfl : k = cl.length := by omega
          go_wp2
          go_ret
          exact ⟨rfl, HBk.out⟩
end Go.Proofs.Ytolkcaelmipkeaa.Gm
