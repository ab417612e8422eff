/- Laid together by wip/merge.py: Dk4 Dk5 Dk6 Dk7 Dk8 Dk9 Dka Dkb. -/
import Derived.Test.YtdhmmllpldjkbaaGreatDoorSte
import Derived.Test.YtdhmmllpldjkbaaGreatDoorBt
import Derived.Lib.AppendIntMem
import Derived.Laws.IdiomStrings
import Derived.Test.YtdhmmllpldjkbaaGreatDoorDea
import Derived.Test.YtdhmmllpldjkbaaGreatDoorBr
import Derived.StillTailTactics
/- (Dk4) -/
namespace Go.Proofs.YtdhmmllpldjkbaaGreatDoor.Gm
open Go.RowKit Go.Shelf Go.Sort
set_option linter.unusedVariables false
set_option maxHeartbeats 4000000 in
set_option maxRecDepth 100000 in
theorem ifmtU (u : Nat) (hu64 : u < 18446744073709551616) (w : World) (hT : Tp w) :
    Calls Tryz.prog 104 #[.int .u64 (u : Int), .int .i64 10] w fun e w' => e = .returned (.string ⟨(Lib.decDigits u).toArray⟩) ∧ Below w.heap.size w w' := by
  by_cases hs : u < 100
  · have C := Lib.hid (Tryz.internal_strconv_small u hs)
    have g1 : decide ((u : Int) < 100) = true := decide_eq_true (by omega)
    have g2 : decide (u < 100) = true := decide_eq_true hs
    have e1 : IntKind.i64.wrap (u : Int) = (u : Int) := IntWalk.i64_in _ (by omega)
    go_enter Tryz.func104, Tryz.ntmps104
    go_wp2_with fail
    refine (C.out _).mono ?_
    rintro e w' ⟨rfl, rfl⟩
    go_wp2
    go_ret
    exact ⟨rfl, Below.refl _ _⟩
  · have hu1 : 1 ≤ u := by omega
    have g1 : decide ((u : Int) < 100) = false := decide_eq_false (by omega)
    have g2 : decide (u < 100) = false := decide_eq_false hs
    have hnd20 : Lib.nDigits u ≤ 20 := by have := Lib.numDigits_eq u hu1 hu64; split at this <;> omega
    have hal : Tryz.prog.arrayLen 118 = 24 := by kernel_rfl
    have hz0 : Holds (fun (b : UInt8) => Value.int .u8 (b.toNat : Int)) (w.alloc (.cells Lib.zeros24 118)) w.heap.size 0 (Array.replicate (Lib.nDigits u) (0 : UInt8)) := Lib.holds_zero0 w 118 (Lib.nDigits u) (by omega)
    have hfmt := Tryz.internal_strconv_formatBase10 w.heap.size 0 24 u (Array.replicate (Lib.nDigits u) 0) (w.alloc (.cells Lib.zeros24 118)) hz0 (by rw [Array.size_replicate]; exact Lib.lt_pow_nDigits u) hu64 (by rw [Array.size_replicate]; omega)
    rw [Array.size_replicate] at hfmt
    have HF := Lib.hid hfmt
    have HH0 := Lib.hid hz0
    have ND := Lib.hid (Tryz.internal_strconv_numDigits u hu1 hu64 (w.alloc (.cells Lib.zeros24 118)) (Lib.tabIs_alloc hT _))
    have hsl : ∀ W, (Instr.sliceAt 118 (.pointer (some ⟨w.heap.size, 0, none⟩)) none (some (.int .i64 (Lib.nDigits u : Int))) none).run Tryz.prog W = .ok (.slice (some ⟨w.heap.size, 0, none⟩) (Lib.nDigits u) 24) W := fun W => by
      rw [run_sliceAt_array_h W 118 ⟨w.heap.size, 0, none⟩ (by kernel_rfl) .i64 (Lib.nDigits u : Int) (by omega) (by rw [hal]; omega)]
      rw [hal]
      go_simp
    have N0 := hnd20
    generalize hnd : Lib.nDigits u = nd at *
    have HN := Lib.hid hnd
    clear hfmt hz0 hnd
    go_enter Tryz.func104, Tryz.ntmps104
    go_wp2_with fail
    refine ND.out.mono ?_
    rintro e w' ⟨rfl, rfl⟩
    go_wp2_with fail
    refine HF.out.mono ?_
    rintro e w' ⟨rfl, k, v', dk, rfl, hF⟩
    have hcv : (convert 30 9 (.slice (some ⟨w.heap.size, 0, none⟩) nd 24)).run Tryz.prog ((putRow (fun (b : UInt8) => Value.int .u8 (b.toNat : Int)) (w.alloc (.cells Lib.zeros24 118)) w.heap.size 0 dk).drewN k) = .ok (.string ⟨(Lib.decDigits u).toArray⟩) ((putRow (fun (b : UInt8) => Value.int .u8 (b.toNat : Int)) (w.alloc (.cells Lib.zeros24 118)) w.heap.size 0 dk).drewN k) := by
      have hF2 := hF
      rw [← HN.out] at hF2
      have h := run_convert_bytes_back (P := Tryz.prog) ((putRow (fun (b : UInt8) => Value.int .u8 (b.toNat : Int)) (w.alloc (.cells Lib.zeros24 118)) w.heap.size 0 dk).drewN k) 30 9 5 ⟨w.heap.size, 0, none⟩ 24 (Lib.decDigits u) Tryz.underlying30 Tryz.underlying5 Tryz.underlying9 (fun j hj => by
        rw [Lib.row_is_numeral hF2 j hj, Lib.add_plain, World.cell?_drewN]
        exact cell?_putRow (fun (b : UInt8) => Value.int .u8 (b.toNat : Int)) _ w.heap.size 0 _ dk HH0.out (by rw [hF.size, Array.size_replicate]) j (by rw [hF2.size]; rw [Lib.decDigits_length] at hj; exact hj))
      rw [Lib.decDigits_length, HN.out] at h
      exact h
    obtain ⟨os, eo⟩ := Lib.fin_at w (.cells Lib.zeros24 118) dk k 0
    have BE := Lib.hid (show Below w.heap.size w ((putRow (fun (b : UInt8) => Value.int .u8 (b.toNat : Int)) (w.alloc (.cells Lib.zeros24 118)) w.heap.size 0 dk).drewN k) from by
      rw [eo]; exact Lib.below_grow _ w (Nat.le_refl _) k os)
    obtain ⟨wz, hwz⟩ : ∃ wz, wz = (putRow (fun (b : UInt8) => Value.int .u8 (b.toNat : Int)) (w.alloc (.cells Lib.zeros24 118)) w.heap.size 0 dk).drewN k := ⟨_, rfl⟩
    rw [← hwz] at hcv BE
    rw [← hwz]
    clear hwz eo HF ND HH0 hF
    go_wp2
    go_ret
    exact ⟨rfl, BE.out⟩
theorem fmtU (u : Nat) (hu64 : u < 18446744073709551616) (w : World) (hT : Tp w) :
    Calls Tryz.prog 70 #[.int .u64 (u : Int), .int .i64 10] w fun e w' => e = .returned (.string ⟨(Lib.decDigits u).toArray⟩) ∧ Below w.heap.size w w' := by
  have C := Lib.hid (ifmtU u hu64 w hT)
  go_enter Tryz.func70, Tryz.ntmps70
  go_wp2_with fail
  refine C.out.mono ?_
  rintro e w' ⟨rfl, hb⟩
  have B := Lib.hid hb
  clear hb
  go_wp2
  go_ret
  exact ⟨rfl, B.out⟩
end Go.Proofs.YtdhmmllpldjkbaaGreatDoor.Gm
/- (Dk5) -/
namespace Go.Proofs.YtdhmmllpldjkbaaGreatDoor.Gm
open Go.RowKit
set_option linter.unusedVariables false
theorem rdN_cons (b : UInt8) (r : List UInt8) (n : Nat) : rdN (b :: r) n = rdN r (stN n b.toNat) := by unfold rdN; rw [List.foldl_cons]
theorem rdN_snoc (l : List UInt8) (b : UInt8) (n : Nat) : rdN (l ++ [b]) n = stN (rdN l n) b.toNat := by
  unfold rdN; rw [List.foldl_append, List.foldl_cons, List.foldl_nil]
theorem rdN_ltM (l : List UInt8) : ∀ n, n < M64 → rdN l n < M64 := by
  induction l with
  | nil => intro n h; unfold rdN; rw [List.foldl_nil]; exact h
  | cons b r ih =>
    intro n h
    rw [rdN_cons]
    exact ih _ (stN_lt n b.toNat)
theorem rdN_lt (l : List UInt8) : rdN l 0 < 18446744073709551616 := by
  have h := rdN_ltM l 0 (by rw [M64_eq]; omega)
  generalize rdN l 0 = x at *
  rw [M64_eq] at h
  exact h
theorem rdN_nil : rdN [] 0 = 0 := by unfold rdN; rw [List.foldl_nil]
def RnR (s : ByteArray) (w : World) (v4 v5 : Value) (wr : World) : Prop :=
  ∃ i : Nat, i ≤ s.size ∧ i ≤ 21 ∧ v5 = .int .i64 i ∧ v4 = .int .u64 (rdN ((bl s).take i) 0 : Int) ∧ wr = w
set_option maxHeartbeats 4000000 in
set_option maxRecDepth 100000 in
theorem rnum_any (s : ByteArray) (hl : s.size ≤ 10000000) (w : World) (hT : Tp w) : Calls Tryz.prog 69 #[.string s] w fun e w' =>
    Below w.heap.size w w' ∧ ((∃ n : Nat, NumW (bl s) n ∧ e = .returned (.tuple #[.int .u64 (n : Int), .bool true])) ∨ ((∀ n, ¬ NumW (bl s) n) ∧ ∃ x : Int, e = .returned (.tuple #[.int .u64 x, .bool false]))) := by
  have HL := Lib.hid (bl_len s)
  have TP := Lib.hid hT
  clear hT
  go_enter Tryz.func69, Tryz.ntmps69
  go_wp2
  go_loopw [4, 5] (fun v4 v5 wr => RnR s w v4 v5 wr) (fun _ i _ => s.size - (intOf i).toNat)
  case atStart => exact ⟨0, by omega, by omega, rfl, by rw [List.take_zero, rdN_nil]; rfl, rfl⟩
  case round =>
    obtain ⟨i, hi, hi21, rfl, rfl, rfl⟩ := hrel
    by_cases hil : i < s.size ∧ i < 21
    · obtain ⟨hil, hi2⟩ := hil
      have g1 : decide ((i : Int) < (s.size : Int)) = true := decide_eq_true (by omega)
      have g2 : decide (i < s.size) = true := decide_eq_true hil
      have g3 : decide ((i : Int) < 21) = true := decide_eq_true (by omega)
      have g4 : decide (i < 21) = true := decide_eq_true hi2
      have IX := ix_str hil
      have hlx : i < (bl s).length := by rw [HL.out]; exact hil
      have hb := bn_lt s i
      have NT := Lib.hid (show rdN ((bl s).take (i + 1)) 0 = stN (rdN ((bl s).take i) 0) (bn s i) from by
        rw [List.take_succ_eq_append_getElem hlx, rdN_snoc, bn_eq, List.getD, List.getElem?_eq_getElem hlx]; rfl)
      have hn := rdN_lt ((bl s).take i)
      have SE := stN_eq (rdN ((bl s).take i) 0) (bn s i)
      generalize bn s i = c at *
      generalize rdN ((bl s).take i) 0 = n at *
      rw [M64_eq] at SE
      obtain ⟨x3, hx3⟩ : ∃ x3, x3 = stN n c := ⟨_, rfl⟩
      rw [← hx3] at NT SE
      obtain ⟨x1, hx1⟩ : ∃ x1 : Nat, x1 = n * 10 % 18446744073709551616 := ⟨_, rfl⟩
      obtain ⟨x2, hx2⟩ : ∃ x2 : Nat, x2 = (x1 + c) % 18446744073709551616 := ⟨_, rfl⟩
      have e0 : IntKind.u64.wrap (c : Int) = (c : Int) := IntWalk.u64_in _ (by omega)
      have e1 : IntKind.u64.wrap ((n : Int) * 10) = (x1 : Int) := by rw [IntKind.wrap_u64]; omega
      have e2 : IntKind.u64.wrap ((x1 : Int) + (c : Int)) = (x2 : Int) := by rw [IntKind.wrap_u64]; omega
      have e3 : IntKind.u64.wrap ((x2 : Int) - 48) = (x3 : Int) := by rw [IntKind.wrap_u64]; omega
      clear hx1 hx2 SE hx3
      go_wp2
      go_roundw
      case rel => exact ⟨i + 1, by omega, by omega, by go_num, by rw [NT.out], rfl⟩
      case measure => simp [intOf] <;> omega
    · have key : Hid ((∃ n, NumW (bl s) n) → (bl s).take i = bl s ∧ AllD (bl s)) := Lib.hid (fun ⟨n, hn⟩ => by
        have h1 := numw_len hn
        rw [HL.out] at h1
        exact ⟨List.take_of_length_le (by rw [HL.out]; omega), hn.1.2.1⟩)
      have hn := rdN_lt ((bl s).take i)
      obtain ⟨n, hnn⟩ : ∃ n, n = rdN ((bl s).take i) 0 := ⟨_, rfl⟩
      have HNN := Lib.hid hnn
      rw [← hnn] at hn ⊢
      clear hnn
      have FM := Lib.hid (fmtU n hn wr TP.out)
      have IF := Lib.hid (numw_iff (bl s) n hn)
      have g5 : (decide ((i : Int) < (s.size : Int)) && decide ((i : Int) < 21)) = false := by
        rw [Bool.and_eq_false_iff]
        by_cases h : i < s.size
        · exact .inr (decide_eq_false (by omega))
        · exact .inl (decide_eq_false (by omega))
      obtain ⟨u, hu⟩ : ∃ u : ByteArray, u = ⟨(Lib.decDigits n).toArray⟩ := ⟨_, rfl⟩
      have hbu : bl u = Lib.decDigits n := by rw [hu]; exact bl_mk _
      rw [← hu] at FM
      have FIN : ∀ b : Bool, (u.toList == s.toList) = b → (b = true → NumW (bl s) n) ∧ (b = false → ∀ m, ¬ NumW (bl s) m) := fun b hb => by
        rw [Lib.toList_data, Lib.toList_data] at hb
        refine ⟨fun h => ?_, fun h m hm => ?_⟩
        · rw [h, beq_iff_eq] at hb
          refine IF.out.1 ?_
          rw [← hbu]; unfold bl; exact hb
        · rw [h, beq_eq_false_iff_ne] at hb
          obtain ⟨k1, k2⟩ := key.out ⟨m, hm⟩
          have h3 : n = m := by
            rw [HNN.out, k1, rdN_nv _ k2 0 (by rw [M64_eq, hm.2.1]; have := hm.2.2; omega), hm.2.1]; omega
          have h4 := (numw_iff (bl s) m hm.2.2).2 hm
          apply hb
          have : bl u = bl s := by rw [hbu, h3, h4]
          unfold bl at this
          exact this
      have FF := Lib.hid FIN
      clear hu hbu FIN IF key HNN
      by_cases hsz : i < s.size
      · have h21 : ¬ i < 21 := fun h => hil ⟨hsz, h⟩
        have g1 : decide ((i : Int) < (s.size : Int)) = true := decide_eq_true (by omega)
        have g2 : decide (i < s.size) = true := decide_eq_true hsz
        have g3 : decide ((i : Int) < 21) = false := decide_eq_false (by omega)
        have g4 : decide (i < 21) = false := decide_eq_false h21
        clear g5 hil
        go_wp2_with fail
        refine FM.out.mono ?_
        rintro e w2 ⟨rfl, hb⟩
        have B2 := Lib.hid hb
        clear hb FM
        obtain ⟨b, hb⟩ : ∃ b, (u.toList == s.toList) = b := ⟨_, rfl⟩
        have F12 := Lib.hid (FF.out b hb)
        cases b
        · go_wp2
          go_ret2
          exact ⟨B2.out, .inr ⟨F12.out.2 (by trivial), _, rfl⟩⟩
        · go_wp2
          go_ret2
          exact ⟨B2.out, .inl ⟨n, F12.out.1 (by trivial), rfl⟩⟩
      · have g1 : decide ((i : Int) < (s.size : Int)) = false := decide_eq_false (by omega)
        have g2 : decide (i < s.size) = false := decide_eq_false hsz
        clear g5 hil
        go_wp2_with fail
        refine FM.out.mono ?_
        rintro e w2 ⟨rfl, hb⟩
        have B2 := Lib.hid hb
        clear hb FM
        obtain ⟨b, hb⟩ : ∃ b, (u.toList == s.toList) = b := ⟨_, rfl⟩
        have F12 := Lib.hid (FF.out b hb)
        cases b
        · go_wp2
          go_ret2
          exact ⟨B2.out, .inr ⟨F12.out.2 (by trivial), _, rfl⟩⟩
        · go_wp2
          go_ret2
          exact ⟨B2.out, .inl ⟨n, F12.out.1 (by trivial), rfl⟩⟩
end Go.Proofs.YtdhmmllpldjkbaaGreatDoor.Gm
/- (Dk6) -/
namespace Go.Proofs.YtdhmmllpldjkbaaGreatDoor.Gm
open Go.RowKit
set_option linter.unusedVariables false
/-- words that are numbers -/
def NumsW (ws : List ByteArray) (ns : List Nat) : Prop := ns.length = ws.length ∧ ∀ i x, ws[i]? = some x → NumW (bl x) (at0 ns i)
theorem NumW.uniq {l : List UInt8} {n m : Nat} (h : NumW l n) (k : NumW l m) : n = m := by rw [← h.2.1, k.2.1]
theorem NumsW.uniq {ws : List ByteArray} {ns ms : List Nat} (h : NumsW ws ns) (k : NumsW ws ms) : ns = ms := by
  apply List.ext_getElem (by rw [h.1, k.1])
  intro i h1 h2
  have hi : i < ws.length := by rw [← h.1]; exact h1
  have := (h.2 i ws[i] (List.getElem?_eq_getElem hi)).uniq (k.2 i ws[i] (List.getElem?_eq_getElem hi))
  rwa [at0_lt h1, at0_lt h2] at this
def NsR (ws : List ByteArray) (w : World) (v4 vi : Value) (wr : World) : Prop :=
  ∃ (i : Nat) (ns : List Nat), i ≤ ws.length ∧ vi = .int .i64 i ∧ ns.length = i ∧ (∀ j x, j < i → ws[j]? = some x → NumW (bl x) (at0 ns j)) ∧ Oz .u64 51 w.heap.size wr v4 (nz ns) ∧ Below w.heap.size w wr
/-- what is told of words -/
def NsE (ws : List ByteArray) (w : World) (e : Ending) (w' : World) : Prop :=
  Below w.heap.size w w' ∧ ((∃ ns v, NumsW ws ns ∧ e = .returned (.tuple #[v, .bool true]) ∧ Oz .u64 51 w.heap.size w' v (nz ns)) ∨ ((∀ ns, ¬ NumsW ws ns) ∧ e = .returned (.tuple #[.slice none 0 0, .bool false])))
theorem at0_snoc (ns : List Nat) (n j : Nat) : at0 (ns ++ [n]) j = if j < ns.length then at0 ns j else if j = ns.length then n else 0 := by
  unfold at0
  rw [List.getD, List.getD]
  by_cases h : j < ns.length
  · rw [if_pos h, List.getElem?_append_left h]
  · rw [if_neg h, List.getElem?_append_right (by omega)]
    by_cases h2 : j = ns.length
    · rw [if_pos h2, h2, Nat.sub_self]; rfl
    · rw [if_neg h2, List.getElem?_eq_none (by simp; omega)]; rfl
set_option maxHeartbeats 4000000 in
set_option maxRecDepth 100000 in
theorem dnums_any (ws : List ByteArray) (v : Value) (w : World) (h : Rs w v ws) (hl : ws.length ≤ 1000000) : Calls Tryz.prog 29 #[v] w (NsE ws w) := by
  obtain ⟨a, cap, b, off, rfl, hk, hm, hx, hc⟩ := h
  have HC := Lib.hid hc
  have HA := Lib.hid hx
  obtain ⟨n, hn⟩ : ∃ n, n = ws.length := ⟨_, rfl⟩
  have HN := Lib.hid hn
  rw [← hn] at hk hl HA ⊢
  clear hc hx hn
  go_enter Tryz.func29, Tryz.ntmps29
  go_wp2
  go_loopw [4, 11] (fun v4 vi wr => NsR ws w v4 vi wr) (fun _ i _ => n - (intOf i).toNat)
  case atStart => exact ⟨0, [], by omega, rfl, rfl, fun j x hj => by omega, Oz.nil _ _ _ _, Below.refl _ _⟩
  case round =>
    obtain ⟨i, ns, hi, rfl, hnl, hw, ho, hb⟩ := hrel
    rw [← HN.out] at hi
    have NL := Lib.hid hnl
    have NW := Lib.hid hw
    have O1 := Lib.hid ho
    have B1 := Lib.hid hb
    have hs1 := hb.size
    clear hnl hw ho hb
    by_cases hil : i < n
    · obtain rfl := HA.out.resolve_left (by omega)
      have g1 : decide ((i : Int) < (n : Int)) = true := decide_eq_true (by omega)
      have g2 : decide (i < n) = true := decide_eq_true hil
      have hip : i < ws.length := by rw [← HN.out]; exact hil
      obtain ⟨x, hx⟩ : ∃ x, x = ws[i] := ⟨_, rfl⟩
      have hxi : ws[i]? = some x := by rw [hx]; exact List.getElem?_eq_getElem hip
      have HXI := Lib.hid hxi
      have c0 := HC.out i x hxi
      have c0 := (B1.out.cell (p := ⟨b, off + i, none⟩) (World.block_lt_of_cell? w _ c0)).trans c0
      clear hx hxi
      have CN := Lib.hid (dnum_any x wr)
      go_wp2_with fail
      refine CN.out.mono ?_
      rintro e w2 ⟨rfl, ⟨m, hmw, rfl⟩ | ⟨hno, rfl⟩⟩
      · have O2 := Lib.hid (O1.out)
        have B2 := Lib.hid (B1.out)
        have hs2 := B2.out.size
        have NX := Lib.hid (show ∀ j y, j < i + 1 → ws[j]? = some y → NumW (bl y) (at0 (ns ++ [m]) j) from fun j y hj hy => by
          rw [at0_snoc, NL.out]
          by_cases h : j < i
          · rw [if_pos h]; exact NW.out j y h hy
          · have e : j = i := by omega
            subst e
            rw [if_neg h, if_pos rfl]
            rw [HXI.out] at hy
            obtain rfl := Option.some.inj hy
            exact hmw)
        have NLL := Lib.hid (show (ns ++ [m]).length = i + 1 by rw [List.length_append, NL.out]; rfl)
        have hll : (nz ns).length ≤ 1000000 := by rw [nz_len, NL.out]; omega
        clear CN c0
        go_wp2_with (at_builtin; refine wl_app_u64 _ rfl (.tmp 22) (.tmp 24) rfl w.heap.size _ (nz ns) (m : Int) w rfl rfl O2.out B2.out hs2 hll ?_)
        intro v3 w3 h1 h2
        rw [← nz_snoc] at h1
        have O3 := Lib.hid h1
        have B3 := Lib.hid h2
        clear h1 h2 O2 B2
        go_wp2
        go_roundw
        case rel => exact ⟨i + 1, ns ++ [m], by rw [← HN.out]; omega, by go_num, NLL.out, NX.out, O3.out, B3.out⟩
        case measure => simp [intOf] <;> omega
      · have B2 := Lib.hid (B1.out)
        have NF := Lib.hid (show ∀ ns, ¬ NumsW ws ns from fun ns h => hno _ (h.2 i x HXI.out))
        clear CN c0 hno
        go_wp2
        go_ret2
        exact ⟨B2.out, .inr ⟨NF.out, rfl⟩⟩
    · obtain rfl : n = i := by omega
      have g1 : decide ((n : Int) < (n : Int)) = false := decide_eq_false (by omega)
      have FIN := Lib.hid (show NumsW ws ns from ⟨by rw [NL.out, HN.out], fun j x hj => NW.out j x (by rw [HN.out]; exact (List.getElem?_eq_some_iff.1 hj).1) hj⟩)
      go_wp2
      go_ret2
      exact ⟨B1.out, .inl ⟨ns, _, FIN.out, rfl, O1.out⟩⟩
set_option maxHeartbeats 4000000 in
set_option maxRecDepth 100000 in
theorem rnums_any (ws : List ByteArray) (v : Value) (w : World) (h : Rs w v ws) (hl : ws.length ≤ 1000000) (hz : ∀ x ∈ ws, x.size ≤ 10000000) (hT : Tp w) : Calls Tryz.prog 39 #[v] w (NsE ws w) := by
  obtain ⟨a, cap, b, off, rfl, hk, hm, hx, hc⟩ := h
  have HC := Lib.hid hc
  have HA := Lib.hid hx
  obtain ⟨n, hn⟩ : ∃ n, n = ws.length := ⟨_, rfl⟩
  have HN := Lib.hid hn
  rw [← hn] at hk hl HA ⊢
  have HZ := Lib.hid hz
  have TP := Lib.hid hT
  clear hz hT
  clear hc hx hn
  go_enter Tryz.func39, Tryz.ntmps39
  go_wp2
  go_loopw [4, 5] (fun v4 vi wr => NsR ws w v4 vi wr) (fun _ i _ => n - (intOf i).toNat)
  case atStart => exact ⟨0, [], by omega, rfl, rfl, fun j x hj => by omega, Oz.nil _ _ _ _, Below.refl _ _⟩
  case round =>
    obtain ⟨i, ns, hi, rfl, hnl, hw, ho, hb⟩ := hrel
    rw [← HN.out] at hi
    have NL := Lib.hid hnl
    have NW := Lib.hid hw
    have O1 := Lib.hid ho
    have B1 := Lib.hid hb
    have hs1 := hb.size
    clear hnl hw ho hb
    by_cases hil : i < n
    · obtain rfl := HA.out.resolve_left (by omega)
      have g1 : decide ((i : Int) < (n : Int)) = true := decide_eq_true (by omega)
      have g2 : decide (i < n) = true := decide_eq_true hil
      have hip : i < ws.length := by rw [← HN.out]; exact hil
      obtain ⟨x, hx⟩ : ∃ x, x = ws[i] := ⟨_, rfl⟩
      have hxi : ws[i]? = some x := by rw [hx]; exact List.getElem?_eq_getElem hip
      have HXI := Lib.hid hxi
      have c0 := HC.out i x hxi
      have c0 := (B1.out.cell (p := ⟨b, off + i, none⟩) (World.block_lt_of_cell? w _ c0)).trans c0
      clear hx hxi
      have CN := Lib.hid (rnum_any x (HZ.out x (List.mem_of_getElem? HXI.out)) wr (TP.out.below B1.out))
      go_wp2_with fail
      refine CN.out.mono ?_
      rintro e w2 ⟨hbb, ⟨m, hmw, rfl⟩ | ⟨hno, xx, rfl⟩⟩
      · have O2 := Lib.hid (O1.out.below hbb)
        have B2 := Lib.hid (B1.out.trans (hbb.mono hs1))
        have hs2 := B2.out.size
        have NX := Lib.hid (show ∀ j y, j < i + 1 → ws[j]? = some y → NumW (bl y) (at0 (ns ++ [m]) j) from fun j y hj hy => by
          rw [at0_snoc, NL.out]
          by_cases h : j < i
          · rw [if_pos h]; exact NW.out j y h hy
          · have e : j = i := by omega
            subst e
            rw [if_neg h, if_pos rfl]
            rw [HXI.out] at hy
            obtain rfl := Option.some.inj hy
            exact hmw)
        have NLL := Lib.hid (show (ns ++ [m]).length = i + 1 by rw [List.length_append, NL.out]; rfl)
        have hll : (nz ns).length ≤ 1000000 := by rw [nz_len, NL.out]; omega
        clear CN c0 hbb
        go_wp2_with (at_builtin; refine wl_app_u64 _ rfl (.tmp 24) (.tmp 26) rfl w.heap.size _ (nz ns) (m : Int) w rfl rfl O2.out B2.out hs2 hll ?_)
        intro v3 w3 h1 h2
        rw [← nz_snoc] at h1
        have O3 := Lib.hid h1
        have B3 := Lib.hid h2
        clear h1 h2 O2 B2
        go_wp2
        go_roundw
        case rel => exact ⟨i + 1, ns ++ [m], by rw [← HN.out]; omega, by go_num, NLL.out, NX.out, O3.out, B3.out⟩
        case measure => simp [intOf] <;> omega
      · have B2 := Lib.hid (B1.out.trans (hbb.mono hs1))
        have NF := Lib.hid (show ∀ ns, ¬ NumsW ws ns from fun ns h => hno _ (h.2 i x HXI.out))
        clear CN c0 hbb hno
        go_wp2
        go_ret2
        exact ⟨B2.out, .inr ⟨NF.out, rfl⟩⟩
    · obtain rfl : n = i := by omega
      have g1 : decide ((n : Int) < (n : Int)) = false := decide_eq_false (by omega)
      have FIN := Lib.hid (show NumsW ws ns from ⟨by rw [NL.out, HN.out], fun j x hj => NW.out j x (by rw [HN.out]; exact (List.getElem?_eq_some_iff.1 hj).1) hj⟩)
      go_wp2
      go_ret2
      exact ⟨B1.out, .inl ⟨ns, _, FIN.out, rfl, O1.out⟩⟩
end Go.Proofs.YtdhmmllpldjkbaaGreatDoor.Gm
/- (Dk7) -/
namespace Go.Proofs.YtdhmmllpldjkbaaGreatDoor.Gm
open Go.RowKit
set_option linter.unusedVariables false
theorem jn_snoc (l : List (List UInt8)) (x sep : List UInt8) (h : l ≠ []) : Lib.join (l ++ [x]) sep = Lib.join l sep ++ sep ++ x := by
  induction l with
  | nil => exact absurd rfl h
  | cons a r ih =>
    cases r with
    | nil => simp [Lib.join]
    | cons b r =>
      have := ih (by simp)
      show Lib.join (a :: b :: (r ++ [x])) sep = _
      rw [show Lib.join (a :: b :: (r ++ [x])) sep = a ++ sep ++ Lib.join (b :: (r ++ [x])) sep by simp [Lib.join], show b :: (r ++ [x]) = (b :: r) ++ [x] from rfl, this, show Lib.join (a :: b :: r) sep = a ++ sep ++ Lib.join (b :: r) sep by simp [Lib.join]]
      simp [List.append_assoc]
theorem jn_one (x sep : List UInt8) : Lib.join [x] sep = x := by simp [Lib.join]
/-- the digits of the first k numbers, a blank between them -/
@[irreducible] def jD (ns : List Nat) (k : Nat) : List UInt8 := Lib.join ((ns.take k).map Lib.decDigits) [32]
theorem jD_zero (ns : List Nat) : jD ns 0 = [] := by unfold jD; rfl
theorem jD_one (ns : List Nat) (h : 0 < ns.length) : jD ns 1 = Lib.decDigits (at0 ns 0) := by
  unfold jD
  rw [List.take_succ_eq_append_getElem h, List.take_zero, List.nil_append, List.map_cons, List.map_nil, jn_one, at0_lt h]
theorem jD_succ (ns : List Nat) {k : Nat} (h0 : 0 < k) (h : k < ns.length) : jD ns (k + 1) = jD ns k ++ [32] ++ Lib.decDigits (at0 ns k) := by
  unfold jD
  rw [List.take_succ_eq_append_getElem h, List.map_append, List.map_cons, List.map_nil, jn_snoc _ _ _ (by
    intro e
    have := congrArg List.length e
    rw [List.length_map, List.length_take, List.length_nil] at this
    omega), at0_lt h]
theorem dec_len {u : Nat} (h : u < 18446744073709551616) : (Lib.decDigits u).length ≤ 20 := numw_len ⟨dec_Cn u, dec_nv u, h⟩
theorem jD_len (ns : List Nat) (h : ∀ x ∈ ns, x < 18446744073709551616) : ∀ k, k ≤ ns.length → (jD ns k).length ≤ 21 * k
  | 0, _ => by rw [jD_zero]; exact Nat.zero_le _
  | k + 1, hk => by
    have hd := dec_len (u := at0 ns k) (by rw [at0_lt (by omega)]; exact h _ (List.getElem_mem _))
    by_cases h0 : k = 0
    · subst h0
      rw [Nat.zero_add, jD_one ns (by omega)]
      omega
    · have ih := jD_len ns h k (by omega)
      rw [jD_succ ns (by omega) (by omega)]
      simp only [List.length_append, List.length_cons, List.length_nil]
      omega
/-- what is told of numbers -/
@[irreducible] def tdB (ns : List Nat) : ByteArray := if ns.length = 0 then ⟨#[110, 111, 110, 101]⟩ else ⟨(jD ns ns.length).toArray⟩
theorem tdB_none {ns : List Nat} (h : ns.length = 0) : tdB ns = ⟨#[110, 111, 110, 101]⟩ := by unfold tdB; rw [if_pos h]
theorem tdB_some {ns : List Nat} (h : ns.length ≠ 0) : tdB ns = ⟨(jD ns ns.length).toArray⟩ := by unfold tdB; rw [if_neg h]
/-- what is told of an error -/
@[irreducible] def erB (e : Int) : ByteArray := ⟨#[101, 114, 114, 111, 114, 32]⟩ ++ ⟨(Lib.itoa e).toArray⟩
theorem failed_is (e : Int) (h0 : 0 ≤ e) (h1 : e < 10) (w : World) (hT : Tp w) : Calls Tryz.prog 30 #[.int .i64 e] w (RetV w (.string (erB e))) := by
  have C := Lib.hid (itoa_any e w (by omega) (by omega) hT)
  have E : (⟨#[101, 114, 114, 111, 114, 32]⟩ : ByteArray) ++ ⟨(Lib.itoa e).toArray⟩ = erB e := by unfold erB; rfl
  have HE := Lib.hid E
  have hs : (⟨(Lib.itoa e).toArray⟩ : ByteArray).size ≤ 21 := by
    show (Lib.itoa e).toArray.size ≤ 21
    rw [List.size_toArray]
    obtain ⟨n, rfl⟩ : ∃ n : Nat, e = n := ⟨e.toNat, by omega⟩
    rw [itoa_db (by omega)]
    simp
  generalize (⟨(Lib.itoa e).toArray⟩ : ByteArray) = z at *
  have hov : ¬ 9223372036854775807 < (⟨#[101, 114, 114, 111, 114, 32]⟩ : ByteArray).size + z.size := by
    rw [show (⟨#[101, 114, 114, 111, 114, 32]⟩ : ByteArray).size = 6 from rfl]; omega
  have hov2 : ¬ 9223372036854775807 < 6 + z.size := by omega
  clear E hs
  go_enter Tryz.func30, Tryz.ntmps30
  go_wp2_with fail
  refine C.out.mono ?_
  rintro e w' ⟨rfl, hb⟩
  have B := Lib.hid hb
  clear hb
  go_wp2
  go_ret
  exact ⟨by rw [← HE.out]; rfl, B.out⟩
theorem wrong_is (e : Int) (h0 : 0 ≤ e) (h1 : e < 10) (w : World) (hT : Tp w) : Calls Tryz.prog 38 #[.int .i64 e] w (RetV w (.string (erB e))) := by
  have C := Lib.hid (itoa_any e w (by omega) (by omega) hT)
  have E : (⟨#[101, 114, 114, 111, 114, 32]⟩ : ByteArray) ++ ⟨(Lib.itoa e).toArray⟩ = erB e := by unfold erB; rfl
  have HE := Lib.hid E
  have hs : (⟨(Lib.itoa e).toArray⟩ : ByteArray).size ≤ 21 := by
    show (Lib.itoa e).toArray.size ≤ 21
    rw [List.size_toArray]
    obtain ⟨n, rfl⟩ : ∃ n : Nat, e = n := ⟨e.toNat, by omega⟩
    rw [itoa_db (by omega)]
    simp
  generalize (⟨(Lib.itoa e).toArray⟩ : ByteArray) = z at *
  have hov : ¬ 9223372036854775807 < (⟨#[101, 114, 114, 111, 114, 32]⟩ : ByteArray).size + z.size := by
    rw [show (⟨#[101, 114, 114, 111, 114, 32]⟩ : ByteArray).size = 6 from rfl]; omega
  have hov2 : ¬ 9223372036854775807 < 6 + z.size := by omega
  clear E hs
  go_enter Tryz.func38, Tryz.ntmps38
  go_wp2_with fail
  refine C.out.mono ?_
  rintro e w' ⟨rfl, hb⟩
  have B := Lib.hid hb
  clear hb
  go_wp2
  go_ret
  exact ⟨by rw [← HE.out]; rfl, B.out⟩
def SaR (ns : List Nat) (w : World) (v3 v4 : Value) (wr : World) : Prop :=
  ∃ (i : Nat) (y : ByteArray), i ≤ ns.length ∧ v4 = .int .i64 i ∧ v3 = .string y ∧ bl y = jD ns i ∧ Below w.heap.size w wr
set_option maxHeartbeats 4000000 in
set_option maxRecDepth 100000 in
theorem said_is (ns : List Nat) (hb64 : ∀ x ∈ ns, x < 18446744073709551616) (hl : ns.length ≤ 1000000) (v : Value) (w : World) (h : Rd .u64 w v (nz ns)) (hT : Tp w) : Calls Tryz.prog 40 #[v] w (RetV w (.string (tdB ns))) := by
  obtain ⟨a, cap, b, off, rfl, hk, hm, hx, hc⟩ := h
  rw [nz_len] at hk hc ⊢
  have HC := Lib.hid (show ∀ i, i < ns.length → w.cell? ⟨b, off + i, none⟩ = some (.int .u64 (at0 ns i : Int)) from fun i hi => by rw [hc i hi, nz_gd hi])
  have HA := Lib.hid (show ns.length = 0 ∨ a = some ⟨b, off, none⟩ from hx.imp (fun e => by rw [← nz_len, e]; rfl) id)
  have TP := Lib.hid hT
  have JL := Lib.hid (jD_len ns hb64)
  have H64 := Lib.hid (show ∀ i, i < ns.length → at0 ns i < 18446744073709551616 from fun i hi => by rw [at0_lt hi]; exact hb64 _ (List.getElem_mem _))
  have JS := Lib.hid (fun k h0 h => jD_succ ns (k := k) h0 h)
  have J1 := Lib.hid (jD_one ns)
  have JZ := Lib.hid (jD_zero ns)
  have TD0 := Lib.hid (tdB_none (ns := ns))
  have TD1 := Lib.hid (tdB_some (ns := ns))
  obtain ⟨n, hn⟩ : ∃ n, n = ns.length := ⟨_, rfl⟩
  have HN := Lib.hid hn
  rw [← hn] at hk hl HA HC JL H64 JS J1 TD0 TD1 ⊢
  clear hc hx hn hT hb64
  by_cases h0 : n = 0
  · have e := TD0.out h0
    rw [e]
    subst h0
    go_enter Tryz.func40, Tryz.ntmps40
    go_wp2
    go_ret
    exact ⟨rfl, Below.refl _ _⟩
  · have e := TD1.out h0
    obtain ⟨td, htd⟩ : ∃ td, td = tdB ns := ⟨_, rfl⟩
    rw [← htd] at e ⊢
    have HE := Lib.hid e
    have g1 : ((n : Int) == 0) = false := by rw [beq_eq_false_iff_ne]; omega
    have g2 : (n == 0) = false := by rw [beq_eq_false_iff_ne]; exact h0
    clear e htd TD0 TD1
    go_enter Tryz.func40, Tryz.ntmps40
    go_wp2
    go_loopw [3, 4] (fun v3 v4 wr => SaR ns w v3 v4 wr) (fun _ i _ => n - (intOf i).toNat)
    case atStart => exact ⟨0, ⟨#[]⟩, by omega, rfl, rfl, by rw [bl_nil, JZ.out], Below.refl _ _⟩
    case round =>
      obtain ⟨i, y, hi, rfl, rfl, hy, hb⟩ := hrel
      rw [← HN.out] at hi
      have Y := Lib.hid hy
      have B1 := Lib.hid hb
      have hs1 := hb.size
      have hyl : y.size ≤ 21 * i := by rw [← bl_len, hy]; exact JL.out i hi
      clear hy hb
      by_cases hil : i < n
      · obtain rfl := HA.out.resolve_left h0
        have g3 : decide ((i : Int) < (n : Int)) = true := decide_eq_true (by omega)
        have g4 : decide (i < n) = true := decide_eq_true hil
        have c0 := HC.out i hil
        have c0 := (B1.out.cell (p := ⟨b, off + i, none⟩) (World.block_lt_of_cell? w _ c0)).trans c0
        have h64 := H64.out i hil
        have FM := Lib.hid (fmtU (at0 ns i) h64 wr (TP.out.below B1.out))
        have hdl := dec_len h64
        obtain ⟨z, hz⟩ : ∃ z : ByteArray, z = ⟨(Lib.decDigits (at0 ns i)).toArray⟩ := ⟨_, rfl⟩
        have hbz : bl z = Lib.decDigits (at0 ns i) := by rw [hz]; exact bl_mk _
        have hzl : z.size ≤ 20 := by rw [← bl_len, hbz]; exact hdl
        rw [← hz] at FM
        have J1i := Lib.hid (fun h : i = 0 => show bl (y ++ z) = jD ns (i + 1) from by
          subst h
          rw [bl_app, Y.out, JZ.out, List.nil_append, hbz, Nat.zero_add, J1.out (by omega)])
        have JSi := Lib.hid (fun h : 0 < i => show bl (y ++ ⟨#[32]⟩ ++ z) = jD ns (i + 1) from by
          rw [bl_app, bl_app, Y.out, hbz, JS.out i h hil, show bl ⟨#[32]⟩ = [32] from bl_mk [32]])
        clear hz hbz h64 hdl
        generalize at0 ns i = u at *
        have e1 : (⟨#[32]⟩ : ByteArray).size = 1 := rfl
        by_cases hi0 : i = 0
        · have J := Lib.hid (J1i.out hi0)
          have g5 : decide ((0 : Int) < (i : Int)) = false := decide_eq_false (by omega)
          have g6 : decide (0 < i) = false := decide_eq_false (by omega)
          have hov : ¬ 9223372036854775807 < y.size + z.size := by omega
          have HI := Lib.hid hi0
          clear hi0 J1i JSi
          go_wp2_with fail
          refine FM.out.mono ?_
          rintro e w2 ⟨rfl, hb⟩
          have B2 := Lib.hid (B1.out.trans (hb.mono hs1))
          clear hb FM B1
          go_wp2
          go_roundw
          case rel => exact ⟨i + 1, _, by rw [← HN.out]; omega, by go_num, rfl, J.out, B2.out⟩
          case measure => simp [intOf] <;> omega
        · have J := Lib.hid (JSi.out (by omega))
          have g5 : decide ((0 : Int) < (i : Int)) = true := decide_eq_true (by omega)
          have g6 : decide (0 < i) = true := decide_eq_true (by omega)
          have hov1 : ¬ 9223372036854775807 < y.size + 1 := by omega
          have hov : ¬ 9223372036854775807 < y.size + 1 + z.size := by omega
          clear J1i JSi
          go_wp2_with fail
          refine FM.out.mono ?_
          rintro e w2 ⟨rfl, hb⟩
          have B2 := Lib.hid (B1.out.trans (hb.mono hs1))
          clear hb FM B1
          go_wp2
          go_roundw
          case rel => exact ⟨i + 1, _, by rw [← HN.out]; omega, by go_num, rfl, J.out, B2.out⟩
          case measure => simp [intOf] <;> omega
      · obtain rfl : n = i := by omega
        have g3 : decide ((n : Int) < (n : Int)) = false := decide_eq_false (by omega)
        have EY : y = td := by
          rw [HE.out, ← mk_bl y, Y.out]
        subst EY
        go_wp2
        go_ret
        exact ⟨rfl, B1.out⟩
end Go.Proofs.YtdhmmllpldjkbaaGreatDoor.Gm
/- (Dk8) -/
namespace Go.Proofs.YtdhmmllpldjkbaaGreatDoor.Gm
open Go.RowKit
set_option linter.unusedVariables false
/-- the texts of the first k numbers -/
@[irreducible] def txN (ns : List Nat) (k : Nat) : List ByteArray := (ns.take k).map fun n => ⟨(Lib.decDigits n).toArray⟩
theorem txN_zero (ns : List Nat) : txN ns 0 = [] := by unfold txN; rfl
theorem txN_succ (ns : List Nat) {k : Nat} (h : k < ns.length) : txN ns (k + 1) = txN ns k ++ [⟨(Lib.decDigits (at0 ns k)).toArray⟩] := by
  unfold txN
  rw [List.take_succ_eq_append_getElem h, List.map_append, List.map_cons, List.map_nil, at0_lt h]
theorem txN_len (ns : List Nat) {k : Nat} (h : k ≤ ns.length) : (txN ns k).length = k := by unfold txN; rw [List.length_map, List.length_take]; omega
theorem txN_join (ns : List Nat) (k : Nat) : Lib.join ((txN ns k).map (·.data.toList)) (⟨#[32]⟩ : ByteArray).data.toList = jD ns k := by
  unfold txN jD
  rw [List.map_map]
  rfl
def ToR (ns : List Nat) (w : World) (v5 vi : Value) (wr : World) : Prop :=
  ∃ i : Nat, i ≤ ns.length ∧ vi = .int .i64 i ∧ Ots w.heap.size wr v5 (txN ns i) ∧ Below w.heap.size w wr
set_option maxHeartbeats 4000000 in
set_option maxRecDepth 100000 in
theorem told_any (ns : List Nat) (hb64 : ∀ x ∈ ns, x < 18446744073709551616) (hl : ns.length ≤ 1000000) (v : Value) (w : World) (h : Rd .u64 w v (nz ns)) (hT : Tp w) : Calls Tryz.prog 53 #[v, .int .i64 0] w (RetV w (.string (tdB ns))) := by
  obtain ⟨a, cap, b, off, rfl, hk, hm, hx, hc⟩ := h
  rw [nz_len] at hk hc ⊢
  have HC := Lib.hid (show ∀ i, i < ns.length → w.cell? ⟨b, off + i, none⟩ = some (.int .u64 (at0 ns i : Int)) from fun i hi => by rw [hc i hi, nz_gd hi])
  have HA := Lib.hid (show ns.length = 0 ∨ a = some ⟨b, off, none⟩ from hx.imp (fun e => by rw [← nz_len, e]; rfl) id)
  have TP := Lib.hid hT
  have JL := Lib.hid (jD_len ns hb64)
  have H64 := Lib.hid (show ∀ i, i < ns.length → at0 ns i < 18446744073709551616 from fun i hi => by rw [at0_lt hi]; exact hb64 _ (List.getElem_mem _))
  have XZ := Lib.hid (txN_zero ns)
  have XS := Lib.hid (fun k h => txN_succ ns (k := k) h)
  have XL := Lib.hid (fun k h => txN_len ns (k := k) h)
  have XJ := Lib.hid (fun k => txN_join ns k)
  have TD0 := Lib.hid (tdB_none (ns := ns))
  have TD1 := Lib.hid (tdB_some (ns := ns))
  obtain ⟨n, hn⟩ : ∃ n, n = ns.length := ⟨_, rfl⟩
  have HN := Lib.hid hn
  rw [← hn] at hk hl HA HC JL H64 XS XL TD0 TD1 ⊢
  clear hc hx hn hT hb64
  go_enter Tryz.func53, Tryz.ntmps53
  go_wp2
  go_loopw [5, 14] (fun v5 vi wr => ToR ns w v5 vi wr) (fun _ i _ => n - (intOf i).toNat)
  case atStart => exact ⟨0, by omega, rfl, by rw [XZ.out]; exact Ots.nil _ _, Below.refl _ _⟩
  case round =>
    obtain ⟨i, hi, rfl, ho, hb⟩ := hrel
    rw [← HN.out] at hi
    have O1 := Lib.hid ho
    have B1 := Lib.hid hb
    have hs1 := hb.size
    clear ho hb
    by_cases hil : i < n
    · obtain rfl := HA.out.resolve_left (by omega)
      have g1 : decide ((i : Int) < (n : Int)) = true := decide_eq_true (by omega)
      have g2 : decide (i < n) = true := decide_eq_true hil
      have c0 := HC.out i hil
      have c0 := (B1.out.cell (p := ⟨b, off + i, none⟩) (World.block_lt_of_cell? w _ c0)).trans c0
      have h64 := H64.out i hil
      have FM := Lib.hid (fmtU (at0 ns i) h64 wr (TP.out.below B1.out))
      have XSi := Lib.hid (XS.out i hil)
      have hll : (txN ns i).length ≤ 100000000 := by rw [XL.out i hi]; omega
      obtain ⟨z, hz⟩ : ∃ z : ByteArray, z = ⟨(Lib.decDigits (at0 ns i)).toArray⟩ := ⟨_, rfl⟩
      rw [← hz] at FM XSi
      clear hz h64
      generalize at0 ns i = u at *
      go_wp2_with fail
      refine FM.out.mono ?_
      rintro e w2 ⟨rfl, hb⟩
      have B2 := Lib.hid (B1.out.trans (hb.mono hs1))
      have O2 := Lib.hid (O1.out.below hb)
      have hs2 := B2.out.size
      clear hb FM B1 O1 c0
      go_wp2_with (at_builtin; refine wl_app_txt2 _ rfl (.tmp 18) (.tmp 21) rfl w.heap.size _ (txN ns i) z w rfl rfl O2.out B2.out hs2 hll ?_)
      intro v3 w3 h1 h2
      rw [← XSi.out] at h1
      have O3 := Lib.hid h1
      have B3 := Lib.hid h2
      clear h1 h2 O2 B2
      go_wp2
      go_roundw
      case rel => exact ⟨i + 1, by rw [← HN.out]; omega, by go_num, O3.out, B3.out⟩
      case measure => simp [intOf] <;> omega
    · obtain rfl : n = i := by omega
      have g3 : decide ((n : Int) < (n : Int)) = false := decide_eq_false (by omega)
      obtain ⟨a5, c5, rfl, hc5, hm5, hg5⟩ := ownShape O1.out
      rw [XL.out n (Nat.le_refl _)] at hc5 hg5
      have e5 := XL.out n (Nat.le_refl _)
      by_cases h0 : n = 0
      · have e := TD0.out h0
        rw [e]
        subst h0
        rw [e5]
        go_wp2
        go_ret
        exact ⟨rfl, B1.out⟩
      · obtain ⟨g, rfl⟩ := hg5 (by omega)
        have g4 : ((n : Int) == 0) = false := by rw [beq_eq_false_iff_ne]; omega
        have g5 : (n == 0) = false := by rw [beq_eq_false_iff_ne]; exact h0
        have e := TD1.out h0
        have hgs : g < wr.heap.size := (World.ownsRow.lt (show wr.ownsRow w.heap.size 9 1 _ _ _ from O1.out) g rfl).2
        have hjl : (jD ns n).length ≤ 140737488355328 := by have := JL.out n (Nat.le_refl _); omega
        have JN := Lib.hid (Tryz.strings_Join g 0 c5 (txN ns n) ⟨#[32]⟩ wr (fun j x hj => by rw [Nat.zero_add]; exact Ots.at O1.out rfl hj) hgs (by rw [e5]; omega) (by rw [e5]; exact hc5) (by rw [XJ.out]; exact hjl))
        rw [XJ.out, e5, ← e] at JN
        rw [e5]
        generalize tdB ns = td at *
        clear e TD0 TD1
        go_wp2_with fail
        refine JN.out.mono ?_
        rintro e w2 ⟨rfl, hb⟩
        have B2 := Lib.hid (B1.out.trans (hb.mono hs1))
        clear hb JN
        go_wp2
        go_ret
        exact ⟨rfl, B2.out⟩
theorem told_err (e : Int) (v : Value) (h0 : 0 < e) (h1 : e < 10) (w : World) (hT : Tp w) : Calls Tryz.prog 53 #[v, .int .i64 e] w (RetV w (.string (erB e))) := by
  have C := Lib.hid (failed_is e (by omega) h1 w hT)
  have g1 : (e == 0) = false := by rw [beq_eq_false_iff_ne]; omega
  generalize erB e = y at *
  go_enter Tryz.func53, Tryz.ntmps53
  go_wp2_with fail
  refine C.out.mono ?_
  rintro e w' ⟨rfl, hb⟩
  have B := Lib.hid hb
  clear hb
  go_wp2
  go_ret
  exact ⟨rfl, B.out⟩
theorem one_ok (x : Nat) (hx : x < 18446744073709551616) (w : World) (hT : Tp w) : Calls Tryz.prog 33 #[.int .u64 (x : Int), .int .i64 0] w (RetV w (.string (tdB [x]))) := by
  have C := Lib.hid (told_any [x] (fun y hy => by rw [List.mem_singleton.1 hy]; exact hx) (by simp) (.slice (some ⟨w.heap.size, 0, none⟩) 1 1) (w.alloc (.cells #[.int .u64 (x : Int)] 51)) (Rd.lit .u64 w [(x : Int)] 51 1 rfl (by simp)) (hT.below ((Below.refl _ _).alloc (Nat.le_refl _) _)))
  have B1 := Lib.hid ((Below.refl w.heap.size w).alloc (Nat.le_refl _) (.cells #[.int .u64 (x : Int)] 51))
  generalize tdB [x] = y at *
  go_enter Tryz.func33, Tryz.ntmps33
  go_wp2_with fail
  refine C.out.mono ?_
  rintro e w' ⟨rfl, hb⟩
  have B := Lib.hid (B1.out.trans (hb.mono B1.out.size))
  clear hb
  go_wp2
  go_ret
  exact ⟨rfl, B.out⟩
theorem one_err (x : Int) (e : Int) (h0 : 0 < e) (h1 : e < 10) (w : World) (hT : Tp w) : Calls Tryz.prog 33 #[.int .u64 x, .int .i64 e] w (RetV w (.string (erB e))) := by
  have C := Lib.hid (told_err e (.slice (some ⟨w.heap.size, 0, none⟩) 1 1) h0 h1 (w.alloc (.cells #[.int .u64 x] 51)) (hT.below ((Below.refl _ _).alloc (Nat.le_refl _) _)))
  have B1 := Lib.hid ((Below.refl w.heap.size w).alloc (Nat.le_refl _) (.cells #[.int .u64 x] 51))
  generalize erB e = y at *
  go_enter Tryz.func33, Tryz.ntmps33
  go_wp2_with fail
  refine C.out.mono ?_
  rintro e w' ⟨rfl, hb⟩
  have B := Lib.hid (B1.out.trans (hb.mono B1.out.size))
  clear hb
  go_wp2
  go_ret
  exact ⟨rfl, B.out⟩
/-- a number, or 10^9 -/
@[irreducible] def sml (x : Nat) : Nat := if x < 1000000000 then x else 1000000000
theorem sml_le (x : Nat) : sml x ≤ 1000000000 := by unfold sml; split <;> omega
theorem sml_lt {x : Nat} (h : x < 1000000000) : sml x = x := by unfold sml; rw [if_pos h]
theorem sml_ge {x : Nat} (h : ¬ x < 1000000000) : sml x = 1000000000 := by unfold sml; rw [if_neg h]
theorem small_any (x : Nat) (w : World) : Calls Tryz.prog 36 #[.int .u64 (x : Int)] w fun e w' => e = .returned (.int .i64 (sml x : Int)) ∧ w = w' := by
  by_cases h : x < 1000000000
  · have E := Lib.hid (sml_lt h)
    have g1 : ¬ (1000000000 : Int) < (x : Int) := by omega
    have g2 : (x : Int) < 1000000000 := by omega
    have g3 : (x : Int) ≤ 1000000000 := by omega
    have e2 : IntKind.i64.wrap (min (x : Int) 1000000000) = min (x : Int) 1000000000 := by rw [Int.min_eq_left g3]; exact IntWalk.i64_in _ (by omega)
    have e1 : IntKind.i64.wrap (x : Int) = (x : Int) := IntWalk.i64_in _ (by omega)
    generalize sml x = s at *
    go_enter Tryz.func36, Tryz.ntmps36
    go_wp2
    go_ret
    exact ⟨by rw [E.out]; show Ending.returned (Value.int .i64 (min (x : Int) 1000000000)) = _; rw [Int.min_eq_left g3], rfl⟩
  · have E := Lib.hid (sml_ge h)
    generalize sml x = s at *
    by_cases h2 : x = 1000000000
    · subst h2
      go_enter Tryz.func36, Tryz.ntmps36
      go_wp2
      go_ret
      exact ⟨by rw [E.out]; rfl, rfl⟩
    · have g1 : (1000000000 : Int) < (x : Int) := by omega
      have g2 : ¬ (x : Int) < 1000000000 := by omega
      have g3 : ¬ (x : Int) ≤ 1000000000 := by omega
      have g4 := Lib.hid (Int.min_eq_right (show (1000000000 : Int) ≤ (x : Int) by omega))
      go_enter Tryz.func36, Tryz.ntmps36
      go_wp2
      go_ret
      exact ⟨by rw [E.out]; show Ending.returned (Value.int .i64 (min (x : Int) 1000000000)) = _; rw [g4.out]; rfl, rfl⟩
theorem rsmall_any (x : Nat) (w : World) : Calls Tryz.prog 81 #[.int .u64 (x : Int)] w fun e w' => e = .returned (.int .i64 (sml x : Int)) ∧ w = w' := by
  by_cases h : x < 1000000000
  · have E := Lib.hid (sml_lt h)
    have g1 : decide ((1000000000 : Int) < (x : Int)) = false := decide_eq_false (by omega)
    have g2 : decide (1000000000 < x) = false := decide_eq_false (by omega)
    have e1 : IntKind.i64.wrap (x : Int) = (x : Int) := IntWalk.i64_in _ (by omega)
    generalize sml x = s at *
    go_enter Tryz.func81, Tryz.ntmps81
    go_wp2
    go_ret
    exact ⟨by rw [E.out]; rfl, rfl⟩
  · have E := Lib.hid (sml_ge h)
    generalize sml x = s at *
    by_cases h2 : x = 1000000000
    · subst h2
      go_enter Tryz.func81, Tryz.ntmps81
      go_wp2
      go_ret
      exact ⟨by rw [E.out]; rfl, rfl⟩
    · have g1 : decide ((1000000000 : Int) < (x : Int)) = true := decide_eq_true (by omega)
      have g2 : decide (1000000000 < x) = true := decide_eq_true (by omega)
      go_enter Tryz.func81, Tryz.ntmps81
      go_wp2
      go_ret
      exact ⟨by rw [E.out]; rfl, rfl⟩
end Go.Proofs.YtdhmmllpldjkbaaGreatDoor.Gm
/- (Dk9) -/
namespace Go.Proofs.YtdhmmllpldjkbaaGreatDoor.Gm
open Go.RowKit
set_option linter.unusedVariables false
/-- the first place of a text; -1: none -/
def IxS (ws : List ByteArray) (x : ByteArray) (i : Int) : Prop :=
  (∃ k : Nat, i = (k : Int) ∧ ws[k]? = some x ∧ ∀ j : Nat, j < k → ws[j]? ≠ some x) ∨ (i = -1 ∧ ∀ j : Nat, ws[j]? ≠ some x)
theorem ixS_ex (ws : List ByteArray) (x : ByteArray) : ∃ i, IxS ws x i := by
  by_cases h : ∃ k : Nat, ws[k]? = some x
  · obtain ⟨k, hk⟩ := h
    induction k using Nat.strongRecOn with
    | _ k ih =>
      by_cases h2 : ∃ j, j < k ∧ ws[j]? = some x
      · obtain ⟨j, h3, h4⟩ := h2
        exact ih j h3 h4
      · exact ⟨k, .inl ⟨k, rfl, hk, fun j hj e => h2 ⟨j, hj, e⟩⟩⟩
  · exact ⟨-1, .inr ⟨rfl, fun j e => h ⟨j, e⟩⟩⟩
theorem IxS.uniq {ws : List ByteArray} {x : ByteArray} {i j : Int} (h : IxS ws x i) (g : IxS ws x j) : i = j := by
  rcases h with ⟨k, rfl, h1, h2⟩ | ⟨rfl, h1⟩ <;> rcases g with ⟨m, rfl, g1, g2⟩ | ⟨rfl, g1⟩
  · rcases Nat.lt_trichotomy k m with h | h | h
    · exact absurd h1 (g2 k h)
    · rw [h]
    · exact absurd g1 (h2 m h)
  · exact absurd h1 (g1 k)
  · exact absurd g1 (h1 m)
  · rfl
theorem toList_beq {x y : ByteArray} (h : x ≠ y) : (x.toList == y.toList) = false := by
  rw [beq_eq_false_iff_ne]
  intro e
  exact h (bl_inj (by unfold bl; rw [← Lib.toList_data, ← Lib.toList_data, e]))
def IsR (ws : List ByteArray) (x : ByteArray) (w : World) (vi : Value) (wr : World) : Prop :=
  ∃ i : Nat, i ≤ ws.length ∧ vi = .int .i64 i ∧ (∀ j, j < i → ws[j]? ≠ some x) ∧ wr = w
set_option maxHeartbeats 4000000 in
set_option maxRecDepth 100000 in
theorem sidx_any (ws : List ByteArray) (x : ByteArray) (i0 : Int) (hi0 : IxS ws x i0) (v : Value) (w : World) (h : Rs w v ws) (hl : ws.length ≤ 1000000000) :
    Calls Tryz.prog 37 #[v, .string x] w fun e w' => e = .returned (.int .i64 i0) ∧ w = w' := by
  obtain ⟨a, cap, b, off, rfl, hk, hm, hx, hc⟩ := h
  have HC := Lib.hid hc
  have HA := Lib.hid hx
  have HI := Lib.hid hi0
  obtain ⟨n, hn⟩ : ∃ n, n = ws.length := ⟨_, rfl⟩
  have HN := Lib.hid hn
  rw [← hn] at hk hl HA ⊢
  clear hc hx hn hi0
  go_enter Tryz.func37, Tryz.ntmps37
  go_wp2
  go_loopw [8] (fun vi wr => IsR ws x w vi wr) (fun i _ => n - (intOf i).toNat)
  case atStart => exact ⟨0, by omega, rfl, fun j hj => by omega, rfl⟩
  case round =>
    obtain ⟨i, hi, rfl, hne, rfl⟩ := hrel
    rw [← HN.out] at hi
    have NE := Lib.hid hne
    clear hne
    by_cases hil : i < n
    · obtain rfl := HA.out.resolve_left (by omega)
      have g1 : decide ((i : Int) < (n : Int)) = true := decide_eq_true (by omega)
      have g2 : decide (i < n) = true := decide_eq_true hil
      have hip : i < ws.length := by rw [← HN.out]; exact hil
      obtain ⟨y, hy⟩ : ∃ y, y = ws[i] := ⟨_, rfl⟩
      have hyi : ws[i]? = some y := by rw [hy]; exact List.getElem?_eq_getElem hip
      have HYI := Lib.hid hyi
      have c0 := HC.out i y hyi
      clear hy hyi
      by_cases hxy : x = y
      · subst hxy
        have E := Lib.hid (show IxS ws x i from .inl ⟨i, rfl, HYI.out, NE.out⟩)
        obtain rfl := HI.out.uniq E.out
        have g3 : (x.toList == x.toList) = true := beq_self_eq_true _
        go_wp2
        go_ret
        exact ⟨rfl, rfl⟩
      · have g3 := toList_beq hxy
        have g4 := toList_beq (fun e => hxy e.symm)
        have NX := Lib.hid (show ∀ j, j < i + 1 → ws[j]? ≠ some x from fun j hj => by
          by_cases h : j < i
          · exact NE.out j h
          · obtain rfl : j = i := by omega
            rw [HYI.out]
            intro e
            exact hxy (Option.some.inj e).symm)
        go_wp2
        go_roundw
        case rel => exact ⟨i + 1, by rw [← HN.out]; omega, by go_num, NX.out, rfl⟩
        case measure => simp [intOf] <;> omega
    · obtain rfl : n = i := by omega
      have g1 : decide ((n : Int) < (n : Int)) = false := decide_eq_false (by omega)
      have E := Lib.hid (show IxS ws x (-1) from .inr ⟨rfl, fun j => by
        by_cases h : j < n
        · exact NE.out j h
        · rw [List.getElem?_eq_none (by rw [← HN.out]; omega)]; intro e; cases e⟩)
      obtain rfl := HI.out.uniq E.out
      go_wp2
      go_ret
      exact ⟨rfl, rfl⟩
end Go.Proofs.YtdhmmllpldjkbaaGreatDoor.Gm
/- (Dka) -/
namespace Go.Proofs.YtdhmmllpldjkbaaGreatDoor.Gm
open Go.RowKit
set_option linter.unusedVariables false
/-- numbers of the field -/
def nF (l : List F) : List Nat := l.map fun x => (vl x).toNat
theorem nz_nF (l : List F) : nz (nF l) = l.map vl := (vl_nz l).symm
theorem nF_64 (l : List F) : ∀ x ∈ nF l, x < 18446744073709551616 := by
  intro x hx
  obtain ⟨y, _, rfl⟩ := List.mem_map.1 hx
  have := vl_64 y
  have := vl_lo y
  omega
theorem nF_len (l : List F) : (nF l).length = l.length := by unfold nF; exact List.length_map ..
/-- numbers and an error -/
def RetNE (w : World) (ns : List Nat) (n : Int) (e : Ending) (w' : World) : Prop := ∃ v, e = .returned (.tuple #[v, .int .i64 n]) ∧ Rd .u64 w' v (nz ns) ∧ Below w.heap.size w w'
def RetN (w : World) (ns : List Nat) (e : Ending) (w' : World) : Prop := ∃ v, e = .returned v ∧ Rd .u64 w' v (nz ns) ∧ Below w.heap.size w w'
theorem RetLE.ne {w : World} {l : List F} {n : Int} {e : Ending} {w' : World} (h : RetLE w l n e w') : RetNE w (nF l) n e w' := by
  obtain ⟨v, h1, h2, h3⟩ := h
  exact ⟨v, h1, by rw [nz_nF]; exact h2.rd, h3⟩
theorem RetRE.ne {w : World} {l : List F} {n : Int} {e : Ending} {w' : World} (h : RetRE w l n e w') : RetNE w (nF l) n e w' := by
  obtain ⟨v, h1, h2, h3, _⟩ := h
  exact ⟨v, h1, by rw [nz_nF]; exact h2, h3⟩
theorem RetL.n {w : World} {l : List F} {e : Ending} {w' : World} (h : RetL w l e w') : RetN w (nF l) e w' := by
  obtain ⟨v, h1, h2, h3⟩ := h
  exact ⟨v, h1, by rw [nz_nF]; exact h2.rd, h3⟩
/-- what is told of numbers, or of an error -/
@[irreducible] def lnB (ns : List Nat) (n : Int) : ByteArray := if n = 0 then tdB ns else erB n
theorem lnB_ok (ns : List Nat) : lnB ns 0 = tdB ns := by unfold lnB; rw [if_pos rfl]
theorem lnB_err (ns : List Nat) {n : Int} (h : n ≠ 0) : lnB ns n = erB n := by unfold lnB; rw [if_neg h]
/-- numbers that may be told -/
def OkN (ns : List Nat) : Prop := (∀ x ∈ ns, x < 18446744073709551616) ∧ ns.length ≤ 1000000
theorem okN_F (l : List F) (h : l.length ≤ 1000000) : OkN (nF l) := ⟨nF_64 l, by rw [nF_len]; exact h⟩
theorem told_ln (ns : List Nat) (n : Int) (ho : OkN ns) (h0 : 0 ≤ n) (h1 : n < 10) (v : Value) (w : World) (h : Rd .u64 w v (nz ns)) (hT : Tp w) : Calls Tryz.prog 53 #[v, .int .i64 n] w (RetV w (.string (lnB ns n))) := by
  by_cases e : n = 0
  · subst e
    rw [lnB_ok]
    exact told_any ns ho.1 ho.2 v w h hT
  · rw [lnB_err ns e]
    exact told_err n v (by omega) h1 w hT
/-- one number -/
@[irreducible] def o1B (x : Int) : ByteArray := tdB [x.toNat]
theorem one_1 (x : Int) (h0 : 0 ≤ x) (h1 : x < 18446744073709551616) (w : World) (hT : Tp w) : Calls Tryz.prog 33 #[.int .u64 x, .int .i64 0] w (RetV w (.string (o1B x))) := by
  have h := one_ok x.toNat (by omega) w hT
  rw [show ((x.toNat : Nat) : Int) = x by omega] at h
  unfold o1B
  exact h
theorem said_1 (x : Int) (h0 : 0 ≤ x) (h1 : x < 18446744073709551616) (w : World) (hT : Tp w) : Calls Tryz.prog 40 #[.slice (some ⟨w.heap.size, 0, none⟩) 1 1] (w.alloc (.cells #[.int .u64 x] 51)) (RetV w (.string (o1B x))) := by
  have e : ((x.toNat : Nat) : Int) = x := by omega
  have B1 := (Below.refl w.heap.size w).alloc (Nat.le_refl _) (.cells #[.int .u64 x] 51)
  have h := said_is [x.toNat] (fun y hy => by rw [List.mem_singleton.1 hy]; omega) (by simp) (.slice (some ⟨w.heap.size, 0, none⟩) 1 1) (w.alloc (.cells #[.int .u64 x] 51)) (by
    have := Rd.lit .u64 w [x] 51 1 rfl (by simp)
    show Rd .u64 _ _ [((x.toNat : Nat) : Int)]
    rw [e]; exact this) (hT.below B1)
  unfold o1B
  refine h.mono ?_
  rintro e w' ⟨h1, h2⟩
  exact ⟨h1, B1.trans (h2.mono B1.size)⟩
theorem two_add (x y z : Int) (w : World) (h0 : 0 ≤ z) (h1 : z < 18446744073709551616) (hc : ∀ w, Calls Tryz.prog 64 #[.int .u64 x, .int .u64 y] w fun e w' => e = .returned (.int .u64 z) ∧ w = w') (hT : Tp w) :
    Calls Tryz.prog 32 #[.string ⟨#[97, 100, 100]⟩, .int .u64 x, .int .u64 y] w (RetV w (.string (o1B z))) := by
  have C := Lib.hid (hc w)
  have D := Lib.hid (one_1 z h0 h1 w hT)
  generalize o1B z = r at *
  clear hc
  go_enter Tryz.func32, Tryz.ntmps32
  go_wp2_with fail
  refine C.out.mono ?_
  rintro e w' ⟨rfl, rfl⟩
  go_wp2_with fail
  refine D.out.mono ?_
  rintro e w' ⟨rfl, hb⟩
  have B := Lib.hid hb
  clear hb
  go_wp2
  go_ret
  exact ⟨rfl, B.out⟩
theorem two_sub (x y z : Int) (w : World) (h0 : 0 ≤ z) (h1 : z < 18446744073709551616) (hc : ∀ w, Calls Tryz.prog 65 #[.int .u64 x, .int .u64 y] w fun e w' => e = .returned (.int .u64 z) ∧ w = w') (hT : Tp w) :
    Calls Tryz.prog 32 #[.string ⟨#[115, 117, 98]⟩, .int .u64 x, .int .u64 y] w (RetV w (.string (o1B z))) := by
  have C := Lib.hid (hc w)
  have D := Lib.hid (one_1 z h0 h1 w hT)
  generalize o1B z = r at *
  clear hc
  go_enter Tryz.func32, Tryz.ntmps32
  go_wp2_with fail
  refine C.out.mono ?_
  rintro e w' ⟨rfl, rfl⟩
  go_wp2_with fail
  refine D.out.mono ?_
  rintro e w' ⟨rfl, hb⟩
  have B := Lib.hid hb
  clear hb
  go_wp2
  go_ret
  exact ⟨rfl, B.out⟩
end Go.Proofs.YtdhmmllpldjkbaaGreatDoor.Gm
/- (Dkb) -/
namespace Go.Proofs.YtdhmmllpldjkbaaGreatDoor.Gm
open Go.RowKit
set_option linter.unusedVariables false
theorem addr_add (b off j : Nat) : (Addr.add ⟨b, off, none⟩ j : Addr) = ⟨b, off + j, none⟩ := by unfold Addr.add; by_cases h0 : j = 0 <;> simp [h0]
theorem Rd.from {w : World} {v : Value} {zs : List Int} (h : Rd .u64 w v zs) (m : Nat) (hm : m ≤ zs.length) :
    ∃ v', (∀ W : World, (Instr.slice 44 v (some (.int .i64 (m : Int))) none none).run Tryz.prog W = .ok v' W) ∧ Rd .u64 w v' (zs.drop m) := by
  obtain ⟨a, cap, b, off, rfl, h1, h2, h3, h4⟩ := h
  refine ⟨sliced a m zs.length cap 1, fun W => ?_, ?_⟩
  · have hu : Tryz.prog.underlying 44 = some (.slice (Tryz.prog.elem 44)) := by kernel_rfl
    have he : Tryz.prog.elem 44 = 51 := by kernel_rfl
    rw [run_slice_l (ht := hu) (h0 := by omega) (h1 := by omega), he, Tryz.sizeOf51]
    rfl
  · unfold sliced
    refine ⟨_, cap - m, b, off + m, by rw [List.length_drop], by rw [List.length_drop]; omega, by omega, ?_, fun i hi => ?_⟩
    · by_cases h0 : zs.length - m = 0
      · exact .inl (List.drop_eq_nil_iff.2 (by omega))
      · right
        rw [if_neg (by omega), h3.resolve_left (fun e => by rw [e, List.length_nil] at h0; omega)]
        simp [addr_add]
    · rw [List.length_drop] at hi
      rw [Nat.add_assoc, h4 (m + i) (by omega), gd_eq, gd_eq, List.getElem?_drop]
theorem Rd.to {w : World} {v : Value} {zs : List Int} (h : Rd .u64 w v zs) (m : Nat) (hm : m ≤ zs.length) :
    ∃ v', (∀ W : World, (Instr.slice 44 v none (some (.int .i64 (m : Int))) none).run Tryz.prog W = .ok v' W) ∧ Rd .u64 w v' (zs.take m) := by
  obtain ⟨a, cap, b, off, rfl, h1, h2, h3, h4⟩ := h
  have hl : (zs.take m).length = m := by rw [List.length_take]; omega
  refine ⟨sliced a 0 m cap 1, fun W => ?_, ?_⟩
  · have hu : Tryz.prog.underlying 44 = some (.slice (Tryz.prog.elem 44)) := by kernel_rfl
    have he : Tryz.prog.elem 44 = 51 := by kernel_rfl
    rw [run_slice_h (ht := hu) (h0 := by omega) (h2 := by omega), he, Tryz.sizeOf51]
    rfl
  · unfold sliced
    refine ⟨_, cap - 0, b, off, by rw [hl, Nat.sub_zero], by rw [hl]; omega, by omega, ?_, fun i hi => ?_⟩
    · by_cases h0 : m = 0
      · left; rw [h0]; rfl
      · right
        rw [h3.resolve_left (fun e => by rw [e, List.length_nil] at hm; omega)]
        split <;> simp [addr_add]
    · rw [hl] at hi
      rw [h4 i (by omega), gd_eq, gd_eq, List.getElem?_take_of_lt hi]
theorem Rs.from {w : World} {v : Value} {l : List ByteArray} (h : Rs w v l) (m : Nat) (hm : m ≤ l.length) :
    ∃ v', (∀ W : World, (Instr.slice 24 v (some (.int .i64 (m : Int))) none none).run Tryz.prog W = .ok v' W) ∧ Rs w v' (l.drop m) := by
  obtain ⟨a, cap, b, off, rfl, h1, h2, h3, h4⟩ := h
  refine ⟨sliced a m l.length cap 1, fun W => ?_, ?_⟩
  · have hu : Tryz.prog.underlying 24 = some (.slice (Tryz.prog.elem 24)) := by kernel_rfl
    have he : Tryz.prog.elem 24 = 9 := by kernel_rfl
    rw [run_slice_l (ht := hu) (h0 := by omega) (h1 := by omega), he, Tryz.sizeOf9]
    rfl
  · unfold sliced
    refine ⟨_, cap - m, b, off + m, by rw [List.length_drop], by rw [List.length_drop]; omega, by omega, ?_, fun i x hi => ?_⟩
    · rw [List.length_drop]
      by_cases h0 : l.length - m = 0
      · exact .inl h0
      · right
        rw [if_neg (by omega), h3.resolve_left (by omega)]
        simp [addr_add]
    · rw [List.getElem?_drop] at hi
      rw [Nat.add_assoc, h4 (m + i) x hi]
theorem Rs.to {w : World} {v : Value} {l : List ByteArray} (h : Rs w v l) (m : Nat) (hm : m ≤ l.length) :
    ∃ v', (∀ W : World, (Instr.slice 24 v none (some (.int .i64 (m : Int))) none).run Tryz.prog W = .ok v' W) ∧ Rs w v' (l.take m) := by
  obtain ⟨a, cap, b, off, rfl, h1, h2, h3, h4⟩ := h
  have hl : (l.take m).length = m := by rw [List.length_take]; omega
  refine ⟨sliced a 0 m cap 1, fun W => ?_, ?_⟩
  · have hu : Tryz.prog.underlying 24 = some (.slice (Tryz.prog.elem 24)) := by kernel_rfl
    have he : Tryz.prog.elem 24 = 9 := by kernel_rfl
    rw [run_slice_h (ht := hu) (h0 := by omega) (h2 := by omega), he, Tryz.sizeOf9]
    rfl
  · unfold sliced
    refine ⟨_, cap - 0, b, off, by rw [hl, Nat.sub_zero], by rw [hl]; omega, by omega, ?_, fun i x hi => ?_⟩
    · rw [hl]
      by_cases h0 : m = 0
      · exact .inl h0
      · right
        rw [h3.resolve_left (by omega)]
        split <;> simp [addr_add]
    · have him := (List.getElem?_eq_some_iff.1 hi).1
      rw [hl] at him
      rw [List.getElem?_take_of_lt him] at hi
      exact h4 i x hi
theorem Rs.shape {w : World} {v : Value} {l : List ByteArray} (h : Rs w v l) : ∃ a cap, v = .slice a l.length cap ∧ l.length ≤ cap ∧ cap ≤ 9223372036854775807 := by
  obtain ⟨a, cap, b, off, rfl, h1, h2, h3, h4⟩ := h
  exact ⟨a, cap, rfl, h1, h2⟩
/-- the cells of a slice of numbers -/
theorem Rd.cells {w : World} {v : Value} {ns : List Nat} (h : Rd .u64 w v (nz ns)) (h0 : 0 < ns.length) : ∃ cap b off, v = .slice (some ⟨b, off, none⟩) ns.length cap ∧ ns.length ≤ cap ∧ cap ≤ 9223372036854775807 ∧ ∀ i, i < ns.length → w.cell? ⟨b, off + i, none⟩ = some (.int .u64 (at0 ns i : Int)) := by
  obtain ⟨a, cap, b, off, rfl, h1, h2, h3, h4⟩ := h
  rw [nz_len] at h1 ⊢
  obtain rfl := h3.resolve_left (fun e => by rw [← nz_len, e, List.length_nil] at h0; omega)
  exact ⟨cap, b, off, rfl, h1, h2, fun i hi => by rw [h4 i (by rw [nz_len]; exact hi), nz_gd hi]⟩
theorem Rs.cells {w : World} {v : Value} {l : List ByteArray} (h : Rs w v l) (h0 : 0 < l.length) : ∃ cap b off, v = .slice (some ⟨b, off, none⟩) l.length cap ∧ l.length ≤ cap ∧ cap ≤ 9223372036854775807 ∧ ∀ i x, l[i]? = some x → w.cell? ⟨b, off + i, none⟩ = some (.string x) := by
  obtain ⟨a, cap, b, off, rfl, h1, h2, h3, h4⟩ := h
  obtain rfl := h3.resolve_left (by omega)
  exact ⟨cap, b, off, rfl, h1, h2, h4⟩
end Go.Proofs.YtdhmmllpldjkbaaGreatDoor.Gm
