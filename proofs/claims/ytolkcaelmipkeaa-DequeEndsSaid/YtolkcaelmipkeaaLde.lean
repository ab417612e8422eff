/- The walk of the law DequeEnds. -/
import Derived.Test.YtolkcaelmipkeaaDq
import Derived.Test.YtolkcaelmipkeaaRd4
import Derived.Test.YtolkcaelmipkeaaSn
namespace Go.Proofs.Ytolkcaelmipkeaa.Gm
open Go.RowKit
open Go.Maps
/-- what was pushed (ins), what came out (outs), what is in the deque (q), before call k -/
structure Ends (k : Nat) (q : List T3) (ins outs : List Int) : Prop where
  ik : ∀ x ∈ ins, 0 ≤ x ∧ x < k
  il : ins.length ≤ k
  qi : ∀ t ∈ q, t.1 ∈ ins ∧ t.1 ∉ outs
  qn : (q.map (·.1)).Nodup
  ql : q.length + outs.length = ins.length
theorem Ends.start : Ends 0 [] [] [] := ⟨by simp, by simp, by simp, by simp, rfl⟩
theorem Ends.skip {k : Nat} {q : List T3} {ins outs : List Int} (h : Ends k q ins outs) : Ends (k + 1) q ins outs :=
  ⟨fun x hx => by have := h.ik x hx; omega, by have := h.il; omega, h.qi, h.qn, h.ql⟩
theorem Ends.new {k : Nat} {q : List T3} {ins outs : List Int} (h : Ends k q ins outs) : (k : Int) ∉ ins := fun hm => by have := h.ik _ hm; omega
theorem Ends.push {k : Nat} {q : List T3} {ins outs : List Int} (h : Ends k q ins outs) (ho : ∀ x ∈ outs, x ∈ ins) : Ends (k + 1) (q ++ [((k : Int), 0, 0)]) (ins ++ [(k : Int)]) outs := by
  have hn := h.new
  refine ⟨fun x hx => ?_, ?_, fun t ht => ?_, ?_, ?_⟩
  · rcases List.mem_append.1 hx with hx | hx
    · have := h.ik x hx; omega
    · rw [List.mem_singleton] at hx; omega
  · rw [List.length_append, List.length_singleton]; have := h.il; omega
  · rcases List.mem_append.1 ht with ht | ht
    · exact ⟨List.mem_append_left _ (h.qi t ht).1, (h.qi t ht).2⟩
    · rw [List.mem_singleton] at ht; subst ht
      exact ⟨by simp, fun hm => hn (ho _ hm)⟩
  · rw [List.map_append, List.nodup_append]
    refine ⟨h.qn, by simp, fun x hx y hy e => ?_⟩
    obtain ⟨t, ht, rfl⟩ := List.mem_map.1 hx
    rw [List.map_singleton, List.mem_singleton] at hy
    subst hy
    exact hn (by have := (h.qi t ht).1; rwa [e] at this)
  · rw [List.length_append, List.length_append, List.length_singleton, List.length_singleton]; have := h.ql; omega
theorem Ends.pop {k m : Nat} {q : List T3} {ins outs : List Int} (h : Ends k q ins outs) (hm : q.length = m + 1) : (tg q m).1 ∈ ins ∧ (tg q m).1 ∉ outs ∧ Ends (k + 1) (q.take m) ins (outs ++ [(tg q m).1]) := by
  have hlt : m < q.length := by omega
  have e : tg q m = q[m] := tg_lt hlt
  have hq := h.qi _ (List.getElem_mem hlt)
  have hs : q = q.take m ++ [q[m]] := by rw [← List.take_succ_eq_append_getElem hlt, ← hm, List.take_length]
  rw [e]
  refine ⟨hq.1, hq.2, ⟨fun x hx => by have := h.ik x hx; omega, by have := h.il; omega, fun t ht => ?_, ?_, ?_⟩⟩
  · have h1 := h.qi t (List.mem_of_mem_take ht)
    refine ⟨h1.1, fun hm2 => ?_⟩
    rcases List.mem_append.1 hm2 with h2 | h2
    · exact h1.2 h2
    · rw [List.mem_singleton] at h2
      have hn := h.qn
      rw [hs, List.map_append, List.nodup_append] at hn
      exact hn.2.2 t.1 (List.mem_map.2 ⟨t, ht, rfl⟩) q[m].1 (by simp) h2
  · have hn := h.qn
    rw [hs, List.map_append, List.nodup_append] at hn
    exact hn.1
  · rw [List.length_take, List.length_append, List.length_singleton]; have := h.ql; omega
/-- what came out was pushed -/
def Sub (ins outs : List Int) : Prop := ∀ x ∈ outs, x ∈ ins
def DeRel (w : World) (D G bi bo len : Nat) (i : Value) (wr : World) : Prop :=
  ∃ (k : Nat) (q : List T3) (ins outs : List Int), k ≤ len ∧ i = .int .i64 k ∧ Ends k q ins outs ∧ Sub ins outs ∧ DqAt wr D G 64 q ∧ Mb wr bi ins ∧ Mb wr bo outs ∧ Below w.heap.size w wr
set_option maxHeartbeats 4000000 in
set_option maxRecDepth 100000 in
theorem wDequeEnds (cl : List (Int × T3)) (v : Value) (w : World) (h : Rc w v cl) :
    Calls Try.prog 4 #[v] w (RetV w (.bool true)) := by
  obtain ⟨a, cap, b, off, rfl, hcap, hm, hx, hc⟩ := h
  have HC := Lib.hid hc
  have HX := Lib.hid hx
  have hmm := @run_makeMap Try.prog
  clear hc hx
  go_enter Try.func4, Try.ntmps4
  go_wp2_with fail
  refine (dnew_any 3 3 _ (by omega) (by omega) rfl).mono ?_
  rintro e w1 ⟨D, G, rfl, hD, hG, hd1, hb1⟩
  have D1 := Lib.hid hd1
  have B1 := Lib.hid hb1
  have hs1 := hb1.size
  clear hd1 hb1
  go_wp2_with fail
  refine (dpush_any D G 3 [] (0, 1, 0) _ D1.out (by simp)).mono ?_
  rintro e w2 ⟨rfl, hd2, ho2⟩
  have D2 := Lib.hid hd2
  have B2 := Lib.hid (B1.out.trans (ho2.below hs1 (fun g hh => by rcases hh with rfl | rfl <;> assumption)))
  have hs2 := B2.out.size
  clear hd2 ho2 D1 B1
  go_wp2_with fail
  refine (dpush_any D G 3 [(0, 1, 0)] (0, 2, 0) _ D2.out (by simp)).mono ?_
  rintro e w3 ⟨rfl, hd3, ho3⟩
  have D3 := Lib.hid hd3
  have B3 := Lib.hid (B2.out.trans (ho3.below hs2 (fun g hh => by rcases hh with rfl | rfl <;> assumption)))
  have hs3 := B3.out.size
  clear hd3 ho3 D2 B2
  go_wp2_with fail
  refine (dsteal_any D G 3 _ _ D3.out (by simp)).mono ?_
  rintro e w4 ⟨rfl, hd4, ho4⟩
  rw [show tg ([(0, 1, 0)] ++ [(0, 2, 0)]) 0 = (0, 1, 0) by rw [tg_eq]; rfl]
  have D4 := Lib.hid (show DqAt w4 D G 3 [(0, 2, 0)] from hd4)
  have B4 := Lib.hid (B3.out.trans (ho4.below hs3 (fun g hh => by rcases hh with rfl | rfl <;> assumption)))
  have hs4 := B4.out.size
  clear hd4 ho4 D3 B3
  unfold tk
  have D5 := Lib.hid (D4.out.only ((Only.refl (fun _ => False) w4).alloc (.cells #[.int .i64 0, .int .i64 1, .int .i64 0] 31)) id id)
  have B5 := Lib.hid (B4.out.alloc hs4 (.cells #[.int .i64 0, .int .i64 1, .int .i64 0] 31))
  have hs5 := B5.out.size
  clear D4 B4
  go_wp2_with fail
  refine (dpop_any D G 3 _ _ D5.out (by simp)).mono ?_
  rintro e w6 ⟨rfl, hd6, ho6⟩
  rw [show tg [(0, 2, 0)] ([((0 : Int), (2 : Int), (0 : Int))].length - 1) = (0, 2, 0) by rw [tg_eq]; rfl]
  have D6 := Lib.hid (show DqAt w6 D G 3 [] from hd6)
  have B6 := Lib.hid (B5.out.trans (ho6.below hs5 (fun g hh => by rcases hh with rfl | rfl <;> assumption)))
  have hs6 := B6.out.size
  clear hd6 ho6 D5 B5
  unfold tk
  have D7 := Lib.hid (D6.out.only ((Only.refl (fun _ => False) w6).alloc (.cells #[.int .i64 0, .int .i64 2, .int .i64 0] 31)) id id)
  have B7 := Lib.hid (B6.out.alloc hs6 (.cells #[.int .i64 0, .int .i64 2, .int .i64 0] 31))
  have hs7 := B7.out.size
  clear D6 B6
  go_wp2_with fail
  refine (dlen_any D G 3 [] _ D7.out).mono ?_
  rintro e w' ⟨rfl, rfl⟩
  clear D7
  generalize w6.alloc (.cells #[.int .i64 0, .int .i64 2, .int .i64 0] 31) = w7 at *
  by_cases hlen : 60 < cl.length
  · go_wp2
    go_ret
    exact ⟨rfl, B7.out⟩
  · go_wp2_with fail
    refine (dnew_any 64 64 _ (by omega) (by omega) rfl).mono ?_
    rintro e w8 ⟨D', G', rfl, hD', hG', hd8, hb8⟩
    have D8 := Lib.hid hd8
    have B8 := Lib.hid (B7.out.trans (hb8.mono hs7))
    have hs8 := B8.out.size
    have hlt8 := hd8.lt
    have hDw : w.heap.size ≤ D' := Nat.le_trans hs7 hD'
    have hGw : w.heap.size ≤ G' := Nat.le_trans hs7 hG'
    clear hd8 hb8 B7
    have A9 := ((Only.refl (fun _ => False) w8).alloc (.map #[] 0)).alloc (.map #[] 0)
    have D9 := Lib.hid (D8.out.only A9 id id)
    have B9 := Lib.hid ((B8.out.alloc hs8 (.map #[] 0)).alloc (by simp; omega) (.map #[] 0))
    have M9 := Lib.hid ((Mb.made w8).only ((Only.refl (fun _ => False) _).alloc (.map #[] 0)) id)
    have n9 := Mb.made (w8.alloc (.map #[] 0))
    rw [show (w8.alloc (.map #[] 0)).heap.size = w8.heap.size + 1 by simp] at n9
    have N9 := Lib.hid n9
    clear n9 A9 D8 B8
    go_wp2
    have hlb : w8.heap.size + 2 ≤ ((w8.alloc (.map #[] 0)).alloc (.map #[] 0)).heap.size := by simp
    generalize (w8.alloc (.map #[] 0)).alloc (.map #[] 0) = w9 at *
    generalize w8.heap.size = bi at *
    go_loopw [73] (fun i wr => DeRel w D' G' bi (bi + 1) cl.length i wr) (fun i _ => cl.length - (intOf i).toNat)
    case atStart => exact ⟨0, [], [], [], by omega, rfl, Ends.start, (fun x hx => by cases hx), D9.out, M9.out, N9.out, B9.out⟩
    case round =>
      obtain ⟨k, q, ins, outs, hk, rfl, hends, hsub, hdq, hmi, hmo, hbel⟩ := hrel
      have EN := Lib.hid hends
      have SB := Lib.hid hsub
      have hltk := hdq.lt
      have hltb := hmo.lt
      have hql : q.length ≤ k := by have := hends.ql; have := hends.il; omega
      have hil : ins.length ≤ k := hends.il
      have hqo : q.length + outs.length ≤ ins.length := by have := hends.ql; omega
      have hqo2 : ins.length ≤ q.length + outs.length := by have := hends.ql; omega
      have hwsz := hbel.size
      have DQk := Lib.hid hdq
      have MIk := Lib.hid hmi
      have MOk := Lib.hid hmo
      have HBk := Lib.hid hbel
      clear hends hsub hdq hmi hmo hbel D9 M9 N9 B9
      by_cases hkl : k < cl.length
      · rcases HX.out with hx | rfl
        · exfalso; omega
        have hkw := Lib.hid (show (Lit.int .i64 (k : Int)).wf = true by simp [Lit.wf, IntKind.min, IntKind.max, IntKind.signed, IntKind.bits]; omega)
        have hck := HC.out k hkl
        have c0 : wr.cell? ⟨b, off + k * 4, none⟩ = some (.int .i64 (kg cl k).1) := (HBk.out.cell (p := ⟨b, off + k * 4, none⟩) (World.block_lt_of_cell? _ _ hck.1)).trans hck.1
        have c1 : wr.cell? ⟨b, off + k * 4 + 1, none⟩ = some (.int .i64 (kg cl k).2.1) := (HBk.out.cell (p := ⟨b, off + k * 4 + 1, none⟩) (World.block_lt_of_cell? _ _ hck.2.1)).trans hck.2.1
        have c2 : wr.cell? ⟨b, off + k * 4 + 2, none⟩ = some (.int .i64 (kg cl k).2.2.1) := (HBk.out.cell (p := ⟨b, off + k * 4 + 2, none⟩) (World.block_lt_of_cell? _ _ hck.2.2.1)).trans hck.2.2.1
        have c3 : wr.cell? ⟨b, off + k * 4 + 3, none⟩ = some (.int .i64 (kg cl k).2.2.2) := (HBk.out.cell (p := ⟨b, off + k * 4 + 3, none⟩) (World.block_lt_of_cell? _ _ hck.2.2.2)).trans hck.2.2.2
        clear hck
        generalize hKG : kg cl k = kt at *
        obtain ⟨kd, x, y, z⟩ := kt
        clear hKG
        simp only at c0 c1 c2 c3
        have ax := (Only.refl (fun _ => False) wr).alloc (.cells #[.int .i64 kd, .int .i64 x, .int .i64 y, .int .i64 z] 37)
        have D1 := Lib.hid (DQk.out.only ax id id)
        have MI1 := Lib.hid (MIk.out.only ax id)
        have MO1 := Lib.hid (MOk.out.only ax id)
        have B1 := Lib.hid (HBk.out.alloc hwsz (.cells #[.int .i64 kd, .int .i64 x, .int .i64 y, .int .i64 z] 37))
        have KC := Lib.hid (Blk.new wr 37 #[.int .i64 kd, .int .i64 x, .int .i64 y, .int .i64 z])
        have hs1 := B1.out.size
        have hz1 : wr.heap.size + 1 ≤ (wr.alloc (.cells #[.int .i64 kd, .int .i64 x, .int .i64 y, .int .i64 z] 37)).heap.size := by simp
        clear DQk MIk MOk HBk ax
        by_cases h0 : kd = 0
        · subst h0
          go_wp2_with fail
          clear c0 c1 c2 c3
          generalize wr.alloc (.cells #[.int .i64 0, .int .i64 x, .int .i64 y, .int .i64 z] 37) = w2 at *
          refine (dpush_any D' G' 64 q ((k : Int), 0, 0) _ D1.out (by omega)).mono ?_
          rintro e w3 ⟨rfl, hd3, ho3⟩
          have D3 := Lib.hid hd3
          have MI3 := Lib.hid (MI1.out.only ho3 (by omega))
          have MO3 := Lib.hid (MO1.out.only ho3 (by omega))
          have B3 := Lib.hid (B1.out.trans (ho3.below hs1 (fun g hh => by rcases hh with rfl | rfl <;> assumption)))
          have hs3 := B3.out.size
          clear hd3 ho3 D1 MI1 MO1 B1 KC
          obtain ⟨w4, hup, hm4, ho4⟩ := MI3.out.mark (k : Int) hkw.out EN.out.new (by omega)
          have MI4 := Lib.hid hm4
          have D4 := Lib.hid (D3.out.only ho4 (by omega) (by omega))
          have MO4 := Lib.hid (MO3.out.only ho4 (by omega))
          have B4 := Lib.hid (B3.out.trans (ho4.below hs3 (fun g hh => by omega)))
          clear hm4 ho4 D3 MI3 MO3 B3
          go_wp2_with fail
          refine (dlen_any D' G' 64 _ _ D4.out).mono ?_
          rintro e w' ⟨rfl, rfl⟩
          have E2 := Lib.hid (EN.out.push SB.out)
          have S2 := Lib.hid (show Sub (ins ++ [(k : Int)]) outs from fun x hx => List.mem_append_left _ (SB.out x hx))
          have LI := Lib.hid (show (ins ++ [(k : Int)]).length = ins.length + 1 by simp)
          have LQ := Lib.hid (show (q ++ [((k : Int), (0 : Int), (0 : Int))]).length = q.length + 1 by simp)
          rw [LQ.out]
          have hne : (((q.length + 1 : Nat) : Int) != (((ins.length + 1 : Nat) : Int) - (outs.length : Int))) = false := by simp; omega
          have hne2 : ((q.length : Int) + 1 != ((ins.length : Int) + 1 - (outs.length : Int))) = false := by simp; omega
          go_wp2_with (first | (refine MI4.out.len rfl (.tmp 126) rfl rfl ?_; rw [LI.out]) | (refine MO4.out.len rfl (.tmp 128) rfl rfl ?_))
          go_roundw
          case rel => exact ⟨k + 1, _, _, _, by omega, by go_num, E2.out, S2.out, D4.out, MI4.out, MO4.out, B4.out⟩
          case measure => simp [intOf] <;> omega
        · by_cases h1 : kd = 1
          · subst h1
            go_wp2_with fail
            clear c0 c1 c2 c3
            generalize wr.alloc (.cells #[.int .i64 1, .int .i64 x, .int .i64 y, .int .i64 z] 37) = w2 at *
            by_cases hq0 : q.length = 0
            · have hnil : q = [] := List.length_eq_zero_iff.1 hq0
              subst hnil
              refine (dpop_none D' G' 64 _ D1.out).mono ?_
              rintro e w3 ⟨rfl, hb3⟩
              have a3 := Only.of_below (S := fun _ => False) hb3 (fun g h1 h2 => by omega)
              have D3 := Lib.hid (D1.out.only a3 id id)
              have MI3 := Lib.hid (MI1.out.only a3 id)
              have MO3 := Lib.hid (MO1.out.only a3 id)
              have KC3 := KC.out.only a3 id
              have B3 := Lib.hid (B1.out.trans (hb3.mono hs1))
              have hs3 := B3.out.size
              have hz3 := Nat.le_trans hz1 hb3.size
              have k0 : (w3.alloc (.cells #[.int .i64 0, .int .i64 0, .int .i64 0] 31)).cell? ⟨wr.heap.size, 0, none⟩ = some (.int .i64 1) := (KC3.alloc _).cell 0
              clear a3 hb3 D1 MI1 MO1 B1 KC KC3
              have ax := (Only.refl (fun _ => False) w3).alloc (.cells #[.int .i64 0, .int .i64 0, .int .i64 0] 31)
              have D4 := Lib.hid (D3.out.only ax id id)
              have MI4 := Lib.hid (MI3.out.only ax id)
              have MO4 := Lib.hid (MO3.out.only ax id)
              have B4 := Lib.hid (B3.out.alloc hs3 (.cells #[.int .i64 0, .int .i64 0, .int .i64 0] 31))
              have KT := Lib.hid (Blk.new w3 31 #[.int .i64 0, .int .i64 0, .int .i64 0])
              have hs4 := B4.out.size
              clear ax D3 MI3 MO3 B3
              unfold tk
              go_wp2_with fail

              refine (dlen_any D' G' 64 _ _ D4.out).mono ?_
              rintro e w' ⟨rfl, rfl⟩
              have hne : (((([] : List T3).length : Nat) : Int) != ((ins.length : Int) - (outs.length : Int))) = false := by simp at *; omega
              have hne2 : ((0 : Int) != ((ins.length : Int) - (outs.length : Int))) = false := by simp at *; omega
              go_wp2_with (first | (refine MI4.out.len rfl (.tmp 126) rfl rfl ?_) | (refine MO4.out.len rfl (.tmp 128) rfl rfl ?_))
              go_roundw
              case rel => exact ⟨k + 1, [], ins, outs, by omega, by go_num, EN.out.skip, SB.out, D4.out, MI4.out, MO4.out, B4.out⟩
              case measure => simp [intOf] <;> omega
            · obtain ⟨m, hm1⟩ : ∃ m, q.length = m + 1 := ⟨q.length - 1, by omega⟩
              have hp := EN.out.pop hm1
              have PI := Lib.hid hp.1
              have PO := Lib.hid hp.2.1
              have PE := Lib.hid hp.2.2
              have PT := Lib.hid (show (q.take m).length = m by rw [List.length_take]; omega)
              have PX := Lib.hid (EN.out.ik _ hp.1)
              clear hp
              refine (dpop_any D' G' 64 q _ D1.out (by omega)).mono ?_
              rintro e w3 ⟨rfl, hd3, ho3⟩
              rw [show q.length - 1 = m by omega] at hd3 ⊢
              have D3 := Lib.hid hd3
              have MI3 := Lib.hid (MI1.out.only ho3 (by omega))
              have MO3 := Lib.hid (MO1.out.only ho3 (by omega))
              have KC3 := KC.out.only ho3 (by omega)
              have B3 := Lib.hid (B1.out.trans (ho3.below hs1 (fun g hh => by rcases hh with rfl | rfl <;> assumption)))
              have hs3 := B3.out.size
              have hz3 := Nat.le_trans hz1 ho3.size
              have hml : m ≤ 60 := by omega
              have hmo1 : outs.length + (m + 1) ≤ ins.length := by omega
              have hmo2 : ins.length ≤ outs.length + (m + 1) := by omega
              clear hd3 ho3 D1 MI1 MO1 B1 KC hqo hqo2 hql hq0 hm1
              generalize tg q m = t at *
              obtain ⟨x', y', z'⟩ := t
              simp only at PI PO PE PX
              have ax := (Only.refl (fun _ => False) w3).alloc (.cells #[.int .i64 x', .int .i64 y', .int .i64 z'] 31)
              have D4 := Lib.hid (D3.out.only ax id id)
              have MI4 := Lib.hid (MI3.out.only ax id)
              have MO4 := Lib.hid (MO3.out.only ax id)
              have B4 := Lib.hid (B3.out.alloc hs3 (.cells #[.int .i64 x', .int .i64 y', .int .i64 z'] 31))
              have KT := Lib.hid (Blk.new w3 31 #[.int .i64 x', .int .i64 y', .int .i64 z'])
              have k0 : (w3.alloc (.cells #[.int .i64 x', .int .i64 y', .int .i64 z'] 31)).cell? ⟨wr.heap.size, 0, none⟩ = some (.int .i64 1) := (KC3.alloc _).cell 0
              have hs4 := B4.out.size
              have xw : (Lit.int .i64 x').wf = true := by have := PX.out; simp [Lit.wf, IntKind.min, IntKind.max, IntKind.signed, IntKind.bits]; omega
              have l1 := MI4.out.look x' xw
              have l2 := MO4.out.look x' xw
              rw [decide_eq_true PI.out] at l1
              rw [decide_eq_false PO.out] at l2
              obtain ⟨w5, hup, hm5, ho5⟩ := MO4.out.mark x' xw PO.out (by omega)
              have XW := Lib.hid xw
              have D5 := Lib.hid (D4.out.only ho5 (by omega) (by omega))
              have MI5 := Lib.hid (MI4.out.only ho5 (by omega))
              have MO5 := Lib.hid hm5
              have B5 := Lib.hid (B4.out.trans (ho5.below hs4 (fun g hh => by omega)))
              have SB2 := Lib.hid (show Sub ins (outs ++ [x']) from fun x hx => by
                rcases List.mem_append.1 hx with hx | hx
                · exact SB.out x hx
                · rw [List.mem_singleton] at hx; subst hx; exact PI.out)
              have LO := Lib.hid (show (outs ++ [x']).length = outs.length + 1 by simp)
              clear xw ax hm5 ho5 D3 MI3 MO3 B3 KC3 D4 MI4 MO4 B4
              unfold tk
              go_wp2_with fail
              refine (dlen_any D' G' 64 _ _ D5.out).mono ?_
              rintro e w' ⟨rfl, rfl⟩
              rw [PT.out]
              have hne : ((m : Int) != ((ins.length : Int) - (((outs.length + 1 : Nat)) : Int))) = false := by simp; omega
              have hne2 : ((m : Int) != ((ins.length : Int) - ((outs.length : Int) + 1))) = false := by simp; omega
              go_wp2_with (first | (refine MI5.out.len rfl (.tmp 126) rfl rfl ?_) | (refine MO5.out.len rfl (.tmp 128) rfl rfl ?_; rw [LO.out]))
              go_roundw
              case rel => exact ⟨k + 1, _, _, _, by omega, by go_num, PE.out, SB2.out, D5.out, MI5.out, MO5.out, B5.out⟩
              case measure => simp [intOf] <;> omega
          · by_cases h2 : kd = 2
            · subst h2
              go_wp2_with fail
              clear c0 c1 c2 c3
              generalize wr.alloc (.cells #[.int .i64 2, .int .i64 x, .int .i64 y, .int .i64 z] 37) = w2 at *
              by_cases hq0 : q.length = 0
              · have hnil : q = [] := List.length_eq_zero_iff.1 hq0
                subst hnil
                refine (dpop_none D' G' 64 _ D1.out).mono ?_
                rintro e w3 ⟨rfl, hb3⟩
                have a3 := Only.of_below (S := fun _ => False) hb3 (fun g h1 h2 => by omega)
                have D3 := Lib.hid (D1.out.only a3 id id)
                have MI3 := Lib.hid (MI1.out.only a3 id)
                have MO3 := Lib.hid (MO1.out.only a3 id)
                have KC3 := KC.out.only a3 id
                have B3 := Lib.hid (B1.out.trans (hb3.mono hs1))
                have hs3 := B3.out.size
                have hz3 := Nat.le_trans hz1 hb3.size
                have k0 : (w3.alloc (.cells #[.int .i64 0, .int .i64 0, .int .i64 0] 31)).cell? ⟨wr.heap.size, 0, none⟩ = some (.int .i64 2) := (KC3.alloc _).cell 0
                clear a3 hb3 D1 MI1 MO1 B1 KC KC3
                have ax := (Only.refl (fun _ => False) w3).alloc (.cells #[.int .i64 0, .int .i64 0, .int .i64 0] 31)
                have D4 := Lib.hid (D3.out.only ax id id)
                have MI4 := Lib.hid (MI3.out.only ax id)
                have MO4 := Lib.hid (MO3.out.only ax id)
                have B4 := Lib.hid (B3.out.alloc hs3 (.cells #[.int .i64 0, .int .i64 0, .int .i64 0] 31))
                have KT := Lib.hid (Blk.new w3 31 #[.int .i64 0, .int .i64 0, .int .i64 0])
                have hs4 := B4.out.size
                clear ax D3 MI3 MO3 B3
                unfold tk
                go_wp2_with fail
                refine (dsteal_none D' G' 64 _ D4.out).mono ?_
                rintro e w5 ⟨rfl, hb5⟩
                have a5 := Only.of_below (S := fun _ => False) hb5 (fun g h1 h2 => by omega)
                have D5 := Lib.hid (D4.out.only a5 id id)
                have MI5 := Lib.hid (MI4.out.only a5 id)
                have MO5 := Lib.hid (MO4.out.only a5 id)
                have KT5 := Lib.hid (KT.out.only a5 id)
                have B5 := Lib.hid (B4.out.trans (hb5.mono hs4))
                clear a5 hb5 k0 D4 MI4 MO4 B4 KT
                have hz0 : 0 + 3 ≤ (#[Value.int .i64 0, Value.int .i64 0, Value.int .i64 0] : Array Value).size := by simp
                unfold tk
                go_wp2_with (refine wl_storeBlk 31 3 (by kernel_rfl) _ rfl (.tmp 13) (.tmp 107) rfl w3.heap.size 0 31 _ #[.int .i64 0, .int .i64 0, .int .i64 0] rfl rfl KT5.out rfl hz0 (tk_one 0 0 0) ?_; intro w6 hB6 hO6 hs6)
                have D4 := Lib.hid (D5.out.only hO6 (by omega) (by omega))
                have MI4 := Lib.hid (MI5.out.only hO6 (by omega))
                have MO4 := Lib.hid (MO5.out.only hO6 (by omega))
                have B4 := Lib.hid (B5.out.trans (hO6.below B5.out.size (fun g hh => by omega)))
                clear hB6 hO6 hs6 D5 MI5 MO5 B5
                refine (dlen_any D' G' 64 _ _ D4.out).mono ?_
                rintro e w' ⟨rfl, rfl⟩
                have hne : (((([] : List T3).length : Nat) : Int) != ((ins.length : Int) - (outs.length : Int))) = false := by simp at *; omega
                have hne2 : ((0 : Int) != ((ins.length : Int) - (outs.length : Int))) = false := by simp at *; omega
                go_wp2_with (first | (refine MI4.out.len rfl (.tmp 126) rfl rfl ?_) | (refine MO4.out.len rfl (.tmp 128) rfl rfl ?_))
                go_roundw
                case rel => exact ⟨k + 1, [], ins, outs, by omega, by go_num, EN.out.skip, SB.out, D4.out, MI4.out, MO4.out, B4.out⟩
                case measure => simp [intOf] <;> omega
              · obtain ⟨m, hm1⟩ : ∃ m, q.length = m + 1 := ⟨q.length - 1, by omega⟩
                have hp := EN.out.pop hm1
                have PI := Lib.hid hp.1
                have PO := Lib.hid hp.2.1
                have PE := Lib.hid hp.2.2
                have PT := Lib.hid (show (q.take m).length = m by rw [List.length_take]; omega)
                have PX := Lib.hid (EN.out.ik _ hp.1)
                clear hp
                refine (dpop_any D' G' 64 q _ D1.out (by omega)).mono ?_
                rintro e w3 ⟨rfl, hd3, ho3⟩
                rw [show q.length - 1 = m by omega] at hd3 ⊢
                have D3 := Lib.hid hd3
                have MI3 := Lib.hid (MI1.out.only ho3 (by omega))
                have MO3 := Lib.hid (MO1.out.only ho3 (by omega))
                have KC3 := KC.out.only ho3 (by omega)
                have B3 := Lib.hid (B1.out.trans (ho3.below hs1 (fun g hh => by rcases hh with rfl | rfl <;> assumption)))
                have hs3 := B3.out.size
                have hz3 := Nat.le_trans hz1 ho3.size
                have hml : m ≤ 60 := by omega
                have hmo1 : outs.length + (m + 1) ≤ ins.length := by omega
                have hmo2 : ins.length ≤ outs.length + (m + 1) := by omega
                clear hd3 ho3 D1 MI1 MO1 B1 KC hqo hqo2 hql hq0 hm1
                generalize tg q m = t at *
                obtain ⟨x', y', z'⟩ := t
                simp only at PI PO PE PX
                have ax := (Only.refl (fun _ => False) w3).alloc (.cells #[.int .i64 x', .int .i64 y', .int .i64 z'] 31)
                have D4 := Lib.hid (D3.out.only ax id id)
                have MI4 := Lib.hid (MI3.out.only ax id)
                have MO4 := Lib.hid (MO3.out.only ax id)
                have B4 := Lib.hid (B3.out.alloc hs3 (.cells #[.int .i64 x', .int .i64 y', .int .i64 z'] 31))
                have KT := Lib.hid (Blk.new w3 31 #[.int .i64 x', .int .i64 y', .int .i64 z'])
                have k0 : (w3.alloc (.cells #[.int .i64 x', .int .i64 y', .int .i64 z'] 31)).cell? ⟨wr.heap.size, 0, none⟩ = some (.int .i64 2) := (KC3.alloc _).cell 0
                have hs4 := B4.out.size
                have xw : (Lit.int .i64 x').wf = true := by have := PX.out; simp [Lit.wf, IntKind.min, IntKind.max, IntKind.signed, IntKind.bits]; omega
                have l1 := MI4.out.look x' xw
                have l2 := MO4.out.look x' xw
                rw [decide_eq_true PI.out] at l1
                rw [decide_eq_false PO.out] at l2
                obtain ⟨w5, hup, hm5, ho5⟩ := MO4.out.mark x' xw PO.out (by omega)
                have XW := Lib.hid xw
                have D5 := Lib.hid (D4.out.only ho5 (by omega) (by omega))
                have MI5 := Lib.hid (MI4.out.only ho5 (by omega))
                have MO5 := Lib.hid hm5
                have B5 := Lib.hid (B4.out.trans (ho5.below hs4 (fun g hh => by omega)))
                have SB2 := Lib.hid (show Sub ins (outs ++ [x']) from fun x hx => by
                  rcases List.mem_append.1 hx with hx | hx
                  · exact SB.out x hx
                  · rw [List.mem_singleton] at hx; subst hx; exact PI.out)
                have LO := Lib.hid (show (outs ++ [x']).length = outs.length + 1 by simp)
                clear xw ax hm5 ho5 D3 MI3 MO3 B3 KC3 D4 MI4 MO4 B4
                unfold tk
                go_wp2_with fail
                refine (dlen_any D' G' 64 _ _ D5.out).mono ?_
                rintro e w' ⟨rfl, rfl⟩
                rw [PT.out]
                have hne : ((m : Int) != ((ins.length : Int) - (((outs.length + 1 : Nat)) : Int))) = false := by simp; omega
                have hne2 : ((m : Int) != ((ins.length : Int) - ((outs.length : Int) + 1))) = false := by simp; omega
                go_wp2_with (first | (refine MI5.out.len rfl (.tmp 126) rfl rfl ?_) | (refine MO5.out.len rfl (.tmp 128) rfl rfl ?_; rw [LO.out]))
                go_roundw
                case rel => exact ⟨k + 1, _, _, _, by omega, by go_num, PE.out, SB2.out, D5.out, MI5.out, MO5.out, B5.out⟩
                case measure => simp [intOf] <;> omega
            · have e0 : (kd == 0) = false := by simpa using h0
              have e1 : (kd == 1) = false := by simpa using h1
              have e2 : (kd == 2) = false := by simpa using h2
              go_wp2_with fail
              refine (dlen_any D' G' 64 _ _ D1.out).mono ?_
              rintro e w' ⟨rfl, rfl⟩
              have hne : ((q.length : Int) != ((ins.length : Int) - (outs.length : Int))) = false := by simp; omega
              go_wp2_with (first | (refine MI1.out.len rfl (.tmp 126) rfl rfl ?_) | (refine MO1.out.len rfl (.tmp 128) rfl rfl ?_))
              go_roundw
              case rel => exact ⟨k + 1, q, ins, outs, by omega, by go_num, EN.out.skip, SB.out, D1.out, MI1.out, MO1.out, B1.out⟩
              case measure => simp [intOf] <;> omega
      · obtain rfl : k = cl.length := by omega
        go_wp2
        go_ret
        exact ⟨rfl, HBk.out⟩
end Go.Proofs.Ytolkcaelmipkeaa.Gm
