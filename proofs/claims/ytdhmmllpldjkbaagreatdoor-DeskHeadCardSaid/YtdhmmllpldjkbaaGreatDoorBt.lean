/- big.text: the text of digits that may be too great. -/
import Derived.Test.YtdhmmllpldjkbaaGreatDoorBd
import Derived.Lib.AppendIntMem
import Derived.Lib.LaidTab
namespace Go.Proofs.YtdhmmllpldjkbaaGreatDoor.Gm
open Go.RowKit
set_option linter.unusedVariables false
/-- the table of powers stands -/
def Tp (w : World) : Prop := Lib.TabIs Tryz.prog w "internal/strconv.uint64pow10" .u64 Lib.pow10Tab
theorem Tp.below {w w' : World} (h : Tp w) (hb : Below w.heap.size w w') : Tp w' := Lib.tabBelow_of_tabIs h w' hb
theorem itoa_any (x : Int) (w : World) (h0 : -9223372036854775808 ≤ x) (h1 : x ≤ 9223372036854775807) (hT : Tp w) :
    Calls Tryz.prog 59 #[.int .i64 x] w fun e w' => e = .returned (.string ⟨(Lib.itoa x).toArray⟩) ∧ Below w.heap.size w w' := by
  refine (Tryz.strconv_Itoa x h0 h1 w hT).mono ?_
  rintro e w' ⟨rfl, k, os, rfl⟩
  exact ⟨rfl, Lib.below_grow _ w (Nat.le_refl _) k os⟩
theorem info_strT : (Tryz.prog.info? 9).map (fun i => (i.zero, i.size, i.bytes)) = some (some (.string ⟨#[]⟩), 1, 16) := by kernel_rfl
/-- a list of texts of the call's own -/
def Ots (B : Nat) (w : World) (v : Value) (l : List ByteArray) : Prop := w.ownsRow B 9 1 v l.length (l.map Value.string)
theorem Ots.nil (B : Nat) (w : World) : Ots B w (.slice none 0 0) [] := World.ownsRow_nil _ _ _ _
theorem Ots.below {B : Nat} {w w' : World} {v : Value} {l : List ByteArray} (h : Ots B w v l) (hb : Below w.heap.size w w') : Ots B w' v l :=
  own_only (S := fun _ => False) h (Only.of_below hb (fun k hk hk' => by omega)) (fun _ _ e => e)
theorem wl_app_txt {ops : Array Oper} {rest : List Oper} {o : Oper} {a : Act} {Q : Exit → Act → World → Prop} (w : World) (hgd : o.guard = none) (s x : Operand)
    (ho : o.op = .call { callee := .builtin .append, args := #[s, x], argTypes := #[24, 24] })
    (B : Nat) (v : Value) (l : List ByteArray) (y : ByteArray) (W : World) (hs : a.eval s = v) (hx : a.eval x = .slice (some ⟨w.heap.size, 0, none⟩) 1 1)
    (hown : Ots B w v l) (hbel : Below B W w) (hB : B ≤ w.heap.size) (hl : l.length ≤ 1000000)
    (h : ∀ v' w', Ots B w' v' (l ++ [y]) → Below B W w' → wpList Tryz.prog ops Q rest (a.put o.dst v') w') :
    wpList Tryz.prog ops Q (o :: rest) a (w.alloc (.cells #[.string y] 9)) := by
  refine wl_appV 9 24 (.string ⟨#[]⟩) 1 16 Tryz.underlying24 info_strT rfl (by decide) (by decide) w hgd s x ho B v l.length (l.map Value.string) #[.string y] rfl (by intro u hu; simp at hu; subst hu; rfl) W hs hx hown hbel hB hl fun v' w' h1 h2 => h v' w' ?_ h2
  unfold Ots
  rw [List.map_append, List.length_append, List.length_singleton]
  exact h1
/-- four digits as a text -/
@[irreducible] def pB (x : Nat) : ByteArray := ⟨(p4 x).toArray⟩
theorem bl_pB (x : Nat) : bl (pB x) = p4 x := by unfold pB; exact bl_mk _
theorem itoa_pB {x : Nat} (h : x < 10000) : (⟨(Lib.itoa ((x : Int) + 10000)).toArray⟩ : ByteArray).extract 1 5 = pB x := by
  apply bl_inj
  rw [bl_cut, bl_mk, itoa_p4 h, bl_pB]
  rfl
theorem itoa_size {x : Nat} (h : x < 10000) : (⟨(Lib.itoa ((x : Int) + 10000)).toArray⟩ : ByteArray).size = 5 := by
  rw [← bl_len, bl_mk, itoa_p4 h]; rfl
/-- the first k chunks -/
@[irreducible] def lo (f : Nat → Nat) (k : Nat) : List ByteArray := (List.range k).map fun j => pB (chk1 10000 f j)
theorem lo_zero (f : Nat → Nat) : lo f 0 = [] := by unfold lo; rfl
theorem lo_succ (f : Nat → Nat) (k : Nat) : lo f (k + 1) = lo f k ++ [pB (chk1 10000 f k)] := by unfold lo; rw [List.range_succ, List.map_append]; rfl
theorem lo_len (f : Nat → Nat) (k : Nat) : (lo f k).length = k := by unfold lo; simp
theorem lo_at (f : Nat → Nat) {k j : Nat} (h : j < k) : (lo f k)[j]? = some (pB (chk1 10000 f j)) := by unfold lo; rw [List.getElem?_map, List.getElem?_range h]; rfl
/-- the digits that the first m rounds write out of n chunks -/
def pre (f : Nat → Nat) (n : Nat) : Nat → List UInt8
  | 0 => []
  | m + 1 => pre f n m ++ p4 (chk1 10000 f (n - 1 - m))
theorem pre_tx (f : Nat → Nat) (n : Nat) : ∀ m, m ≤ n → pre f n m ++ tx f (n - m) = tx f n
  | 0, _ => by simp [pre]
  | m + 1, h => by
    have ih := pre_tx f n m (by omega)
    rw [← ih, pre, List.append_assoc]
    congr 1
    rw [show n - m = (n - (m + 1)) + 1 by omega, tx, show n - 1 - m = n - (m + 1) by omega]
theorem pre_all (f : Nat → Nat) (n : Nat) : pre f n n = tx f n := by
  have := pre_tx f n n (Nat.le_refl _)
  rwa [Nat.sub_self, tx, List.append_nil] at this
theorem pre_len (f : Nat → Nat) (n : Nat) : ∀ m, (pre f n m).length = 4 * m
  | 0 => rfl
  | m + 1 => by rw [pre, List.length_append, pre_len f n m]; unfold p4; simp; omega
theorem ownShape {B : Nat} {e : TypeId} {size n : Nat} {w : World} {v : Value} {xs : List Value} (h : w.ownsRow B e size v n xs) : ∃ a cap, v = .slice a n cap ∧ n ≤ cap ∧ cap ≤ 9223372036854775807 ∧ (0 < n → ∃ g, a = some ⟨g, 0, none⟩) := by
  rcases h.2 with ⟨rfl, h0⟩ | ⟨g, cap, cur, rfl, hb, hg, hn, hm, hs, ht⟩
  · rw [h0]; exact ⟨none, 0, rfl, by omega, by omega, fun h => absurd h (by omega)⟩
  · exact ⟨_, cap, rfl, hn, by unfold maxLen at hm; omega, fun _ => ⟨g, rfl⟩⟩
theorem Ots.at {B g n cap : Nat} {w : World} {l : List ByteArray} (h : Ots B w (.slice (some ⟨g, 0, none⟩) n cap) l) (hn : n = l.length) {j : Nat} {x : ByteArray} (hj : l[j]? = some x) : w.cell? ⟨g, j, none⟩ = some (.string x) := by
  subst hn
  have hjl := (List.getElem?_eq_some_iff.1 hj).1
  have h' : w.ownsRow B 9 1 (.slice (some ⟨g, 0, none⟩) l.length cap) l.length (l.map Value.string) := h
  rw [World.ownsRow.cellAt h' j (by omega), List.getElem?_map, hj]
  rfl
theorem byte_pB (l : List UInt8) (x : Nat) : Lib.byteCells l ++ Lib.strCells (pB x) = Lib.byteCells (l ++ p4 x) := by
  rw [Lib.strCells_eq, Lib.byteCells_append]
  congr 2
  have := bl_pB x
  unfold bl at this
  exact this
def TxR (f : Nat → Nat) (N : Nat) (w : World) (v3 v4 v5 : Value) (wr : World) : Prop :=
  ∃ k : Nat, k ≤ N ∧ v5 = .int .i64 k ∧ v4 = .int .u64 (cr 10000 f k : Int) ∧ Ots w.heap.size wr v3 (lo f k) ∧ Below w.heap.size w wr
def TyR (f : Nat → Nat) (n b : Nat) (wb : World) (v7 : Value) (wr : World) : Prop :=
  ∃ m : Nat, m ≤ n ∧ v7 = .int .i64 ((n : Int) - 1 - m) ∧ Lib.IsBuilder 32 5 b b (Lib.byteCells (pre f n m)) wr ∧ Below b wb wr
set_option maxHeartbeats 4000000 in
set_option maxRecDepth 100000 in
theorem text_any (l : List Nat) (v : Value) (w : World) (h : Rd .u64 w v (nz l)) (hx : ∀ x ∈ l, x ≤ 9223372036854775807) (hl : l.length ≤ 2000) (hT : Tp w) :
    Calls Tryz.prog 95 #[v] w fun e w' => ∃ s : ByteArray, e = .returned (.string s) ∧ Cn (bl s) ∧ nv (bl s) = bv 10000 l ∧ Below w.heap.size w w' := by
  obtain ⟨a, cap, b, off, rfl, hcap, hm, hxx, hc⟩ := h
  rw [nz_len] at hcap hc ⊢
  have HC := Lib.hid hc
  have HX := Lib.hid hxx
  have TP := Lib.hid hT
  obtain ⟨f, hf⟩ : ∃ f, f = at0 l := ⟨_, rfl⟩
  have HF := Lib.hid hf
  have FM : ∀ x, f x ≤ 9223372036854775807 := fun x => by
    rw [hf]
    rcases Nat.lt_or_ge x l.length with h1 | h1
    · rw [at0_lt h1]; exact hx _ (List.getElem_mem h1)
    · rw [at0_out h1]; omega
  have F0 : ∀ x, l.length ≤ x → f x = 0 := fun x h1 => by rw [hf]; exact at0_out h1
  have CE := cr_end f l.length FM F0
  have CL := Lib.hid (fun k => cr_le 10000 (by omega) f _ FM k)
  have FM := Lib.hid FM
  have F0 := Lib.hid F0
  have FC := Lib.hid (show ∀ k, k < l.length → w.cell? ⟨b, off + k, none⟩ = some (.int .u64 (f k : Int)) from fun k hk => by
    rw [HC.out k hk, gd_eq, hf]
    unfold nz
    rw [List.getElem?_map, List.getElem?_eq_getElem hk, at0_lt hk]; rfl)
  have FB := Lib.hid (show ∀ k, k < l.length → b < w.heap.size from fun k hk => World.block_lt_of_cell? w _ (HC.out k hk))
  have hxa : l.length = 0 ∨ a = some ⟨b, off, none⟩ := hxx.imp (fun e => by rw [← nz_len, e]; rfl) id
  have HA := Lib.hid hxa
  obtain ⟨L, hL⟩ : ∃ L, L = l.length := ⟨_, rfl⟩
  have HL := Lib.hid hL
  rw [← hL] at hl hcap FC F0 FB HA CE ⊢
  clear hc hxx hx hf hT HX HC hxa hL
  go_enter Tryz.func95, Tryz.ntmps95
  go_wp2
  go_loopw [3, 4, 5] (fun v3 v4 v5 wr => TxR f (L + 4) w v3 v4 v5 wr) (fun _ _ i _ => L + 5 - (intOf i).toNat)
  case atStart => exact ⟨0, by omega, rfl, rfl, by rw [lo_zero]; exact Ots.nil _ _, Below.refl _ _⟩
  case round =>
    obtain ⟨k, hk, rfl, rfl, ho, hb⟩ := hrel
    have O1 := Lib.hid ho
    have B1 := Lib.hid hb
    have hs1 := hb.size
    clear ho hb
    have hcl := CL.out k
    have hfk := FM.out k
    have CS : cr 10000 f (k + 1) = (cr 10000 f k + f k) / 10000 := rfl
    by_cases hdone : L ≤ k ∧ cr 10000 f k = 0
    · obtain ⟨hLk, hcr⟩ := hdone
      have HCR := Lib.hid hcr
      rw [hcr, show ((0 : Nat) : Int) = 0 from rfl]
      obtain ⟨a3, c3, rfl, hc3, hm3, hg3⟩ := ownShape O1.out
      rw [lo_len] at hc3 hg3 O1 ⊢
      have g1 : decide ((k : Int) < (L : Int)) = false := decide_eq_false (by omega)
      have g2 : decide (k < L) = false := decide_eq_false (by omega)
      have hal : Below wr.heap.size wr (wr.alloc (.cells #[.pointer none, .slice none 0 0] 32)) := (Below.refl wr.heap.size wr).alloc (Nat.le_refl _) _
      have IB := Lib.fresh_isBuilder 32 5 wr
      have OA := O1.out.below hal
      have hsz : (wr.alloc (.cells #[.pointer none, .slice none 0 0] 32)).heap.size = wr.heap.size + 1 := World.size_alloc _ _
      go_wp2
      obtain ⟨wb, hwb⟩ : ∃ wb, wb = wr.alloc (.cells #[.pointer none, .slice none 0 0] 32) := ⟨_, rfl⟩
      obtain ⟨bb, hbb⟩ : ∃ bb, bb = wr.heap.size := ⟨_, rfl⟩
      rw [← hwb, ← hbb] at hal IB hsz
      rw [← hwb] at OA
      rw [← hwb, ← hbb]
      have BA := Lib.hid (show Below w.heap.size w wb from B1.out.trans ((hbb ▸ hal).mono hs1))
      have OB := Lib.hid OA
      have IB0 := Lib.hid IB
      have hsb : w.heap.size ≤ bb := by rw [hbb]; exact hs1
      have LG := Lib.hid (show ∀ g, a3 = some ⟨g, 0, none⟩ → g < bb from fun g e => by
        subst e; rw [hbb]; exact (World.ownsRow.lt O1.out g rfl).2)
      clear hwb hal IB OA O1 B1 hbb
      go_loopw [7] (fun v7 wr2 => TyR f k bb wb v7 wr2) (fun i _ => (intOf i + 1).toNat)
      case atStart => exact ⟨0, by omega, by simp, IB0.out, Below.refl _ _⟩
      case round =>
        obtain ⟨m, hm, rfl, hib, hb⟩ := hrel
        have I2 := Lib.hid hib
        have B2 := Lib.hid hb
        have hs2 := hb.size
        clear hib hb
        by_cases hmk : m < k
        · obtain ⟨j, hj⟩ : ∃ j, j = k - 1 - m := ⟨_, rfl⟩
          have ej : (k : Int) - 1 - (m : Int) = (j : Int) := by omega
          have g3 : decide ((0 : Int) ≤ (j : Int)) = true := decide_eq_true (by omega)
          obtain ⟨ga, rfl⟩ := hg3 (by omega)
          have cj : wb.cell? ⟨ga, j, none⟩ = some (.string (pB (chk1 10000 f j))) := Ots.at OB.out (by rw [lo_len]) (lo_at f (by omega))
          have cj := (B2.out.cell (p := ⟨ga, j, none⟩) (LG.out ga rfl)).trans cj
          have cj0 : wr.cell? ⟨ga, 0 + j, none⟩ = some (.string (pB (chk1 10000 f j))) := by rw [Nat.zero_add]; exact cj
          have PS := Lib.hid (show pre f k m ++ p4 (chk1 10000 f j) = pre f k (m + 1) by rw [hj]; rfl)
          have hps : (Lib.byteCells (pre f k m)).length = 4 * m := by rw [Lib.byteCells_length, pre_len]
          have hpz : (pB (chk1 10000 f j)).size = 4 := by rw [← bl_len, bl_pB]; rfl
          have BW := Lib.hid (Tryz.Builder_WriteString bb bb (Lib.byteCells (pre f k m)) (pB (chk1 10000 f j)) _ I2.out (by omega) (by omega))
          have BE := Lib.hid (byte_pB (pre f k m) (chk1 10000 f j))
          rw [PS.out] at BE
          rw [BE.out] at BW
          rw [ej]
          clear ej
          generalize pB (chk1 10000 f j) = y at *
          have HJ := Lib.hid hj
          have hjk : j < k := by omega
          clear BE PS hj cj0
          go_wp2_with fail
          refine BW.out.mono ?_
          rintro e w5 ⟨rfl, hib, hb⟩
          have I5 := Lib.hid (show Lib.IsBuilder 32 5 bb bb _ w5 from Or.inr hib)
          have B5 := Lib.hid (B2.out.trans hb)
          clear hib hb BW I2 B2 cj
          go_wp2
          go_roundw
          case rel => exact ⟨m + 1, by omega, by have := HJ.out; congr 1; omega, I5.out, B5.out⟩
          case measure => simp [intOf] <;> omega
        · obtain rfl : m = k := by omega
          have ej : (m : Int) - 1 - (m : Int) = -1 := by omega
          rw [ej]
          have BS := Lib.hid (Tryz.Builder_String_any bb bb (pre f m m) _ I2.out (by omega))
          rw [pre_all] at BS
          have TL := Lib.hid (fun w => Tryz.strings_TrimLeft_one ⟨(tx f m).toArray⟩ 48 (by decide) w)
          have etl : Lib.trimLeftB (⟨(tx f m).toArray⟩ : ByteArray).data.toList 48 = tzr (tx f m) := trim_tz (tx f m)
          rw [etl] at TL
          have NV := Lib.hid (show nv (tx f m) = bv 10000 l from by
            have h1 := HF.out
            subst h1
            exact tx_done l m (by rw [← HL.out]; exact hLk) HCR.out)
          have TD := Lib.hid (tx_D f m)
          clear etl
          go_wp2_with fail
          refine BS.out.mono ?_
          rintro e w5 ⟨rfl, hb⟩
          have B5 := Lib.hid (BA.out.trans ((B2.out.trans hb).mono hsb))
          clear hb BS B2
          go_wp2_with fail
          refine (TL.out _).mono ?_
          rintro e w6 ⟨rfl, rfl⟩
          clear TL
          by_cases ht : tzr (tx f m) = []
          · rw [ht]
            go_wp2
            go_ret
            refine ⟨_, rfl, ?_, ?_, B5.out⟩
            · have := tz0_Cn TD.out
              unfold tz0 at this
              rw [if_pos ht] at this
              rw [show bl ⟨#[48]⟩ = [48] from bl_mk [48]]
              exact this
            · rw [← NV.out, ← tz_nv (tx f m), ht, show bl ⟨#[48]⟩ = [48] from bl_mk [48]]; rfl
          · obtain ⟨y, hy⟩ : ∃ y : ByteArray, y = ⟨(tzr (tx f m)).toArray⟩ := ⟨_, rfl⟩
            have hby : bl y = tzr (tx f m) := by rw [hy]; exact bl_mk _
            have hyn : y.toList.isEmpty = false := by
              rw [Lib.toList_data]
              unfold bl at hby
              rw [hby]
              cases hh : tzr (tx f m) with
              | nil => exact absurd hh ht
              | cons _ _ => rfl
            have CY := Lib.hid (show Cn (bl y) from by
              have := tz0_Cn TD.out
              unfold tz0 at this
              rw [if_neg ht] at this
              rw [hby]; exact this)
            have NY := Lib.hid (show nv (bl y) = bv 10000 l by rw [hby, tz_nv, NV.out])
            rw [← hy]
            clear hy hby NV TD ht
            go_wp2
            go_ret
            exact ⟨_, rfl, CY.out, NY.out, B5.out⟩
    have hkN : k < L + 4 := by
      rcases Nat.lt_or_ge k (L + 4) with h1 | h1
      · exact h1
      · have : k = L + 4 := by omega
        subst this; exact absurd ⟨by omega, CE⟩ hdone
    by_cases hkl : k < L
    · obtain rfl := HA.out.resolve_left (by omega)
      have c0 : wr.cell? ⟨b, off + k, none⟩ = some (.int .u64 (f k : Int)) := (B1.out.cell (p := ⟨b, _, none⟩) (FB.out k hkl)).trans (FC.out k hkl)
      have g1 : decide ((k : Int) < (L : Int)) = true := decide_eq_true (by omega)
      have g2 : decide (k < L) = true := decide_eq_true hkl
      obtain ⟨r, hr⟩ : ∃ r, r = cr 10000 f (k + 1) := ⟨_, rfl⟩
      obtain ⟨q, hq⟩ : ∃ q, q = chk1 10000 f k := ⟨_, rfl⟩
      have hq1 : q < 10000 := by rw [hq]; exact chk1_lt (by omega) f k
      have hq2 : q = (cr 10000 f k + f k) % 10000 := by rw [hq]; unfold chk1; rfl
      have LS := Lib.hid (show lo f k ++ [pB q] = lo f (k + 1) by rw [hq, lo_succ])
      have HR := Lib.hid hr
      rw [← hr] at CS
      have em : ((cr 10000 f k : Int) + (f k : Int)) % 10000 = (q : Int) := by omega
      have ed : ((cr 10000 f k : Int) + (f k : Int)) / 10000 = (r : Int) := by omega
      have hll : (lo f k).length ≤ 1000000 := by rw [lo_len]; omega
      have IT := Lib.hid (fun w hT => itoa_any ((q : Int) + 10000) w (by omega) (by omega) hT)
      obtain ⟨z, hz⟩ : ∃ z : ByteArray, z = ⟨(Lib.itoa ((q : Int) + 10000)).toArray⟩ := ⟨_, rfl⟩
      have hz5 : z.size = 5 := by rw [hz]; exact itoa_size hq1
      have SL := sl_from (t := z) (k := 1) (by omega)
      have hpz : z.extract 1 z.size = pB q := by rw [hz5, hz]; exact itoa_pB hq1
      rw [hpz, show ((1 : Nat) : Int) = 1 from rfl] at SL
      rw [← hz] at IT
      generalize pB q = y at *
      clear hr hq hq2 hz hpz
      generalize cr 10000 f k = c0k at *
      generalize f k = fk at *
      go_wp2_with fail
      refine (IT.out _ (TP.out.below B1.out)).mono ?_
      rintro e w2 ⟨rfl, hb⟩
      have O2 := Lib.hid (O1.out.below hb)
      have B2 := Lib.hid (B1.out.trans (hb.mono hs1))
      have hs2 := B2.out.size
      clear hb IT O1 B1
      go_wp2_with (at_builtin; refine wl_app_txt _ rfl (.tmp 29) (.tmp 36) rfl w.heap.size _ (lo f k) y w rfl rfl O2.out B2.out hs2 hll ?_)
      intro v3 w3 h1 h2
      rw [LS.out] at h1
      have O3 := Lib.hid h1
      have B3 := Lib.hid h2
      clear h1 h2
      go_wp2
      go_roundw
      case rel => exact ⟨k + 1, by omega, by go_num, by rw [← HR.out]; first | rfl | rw [ed], O3.out, B3.out⟩
      case measure => simp [intOf] <;> omega
    · have g1 : decide ((k : Int) < (L : Int)) = false := decide_eq_false (by omega)
      have g2 : decide (k < L) = false := decide_eq_false hkl
      have hf0 : f k = 0 := F0.out k (by omega)
      have hc1 : 0 < cr 10000 f k := Nat.pos_of_ne_zero (fun e => hdone ⟨by omega, e⟩)
      have g3 : decide ((0 : Int) < (cr 10000 f k : Int)) = true := decide_eq_true (by omega)
      have g4 : decide (0 < cr 10000 f k) = true := decide_eq_true hc1
      rw [hf0, Nat.add_zero] at CS
      obtain ⟨r, hr⟩ : ∃ r, r = cr 10000 f (k + 1) := ⟨_, rfl⟩
      obtain ⟨q, hq⟩ : ∃ q, q = chk1 10000 f k := ⟨_, rfl⟩
      have hq1 : q < 10000 := by rw [hq]; exact chk1_lt (by omega) f k
      have hq2 : q = (cr 10000 f k) % 10000 := by rw [hq]; unfold chk1; rw [hf0, Nat.add_zero]
      have LS := Lib.hid (show lo f k ++ [pB q] = lo f (k + 1) by rw [hq, lo_succ])
      have HR := Lib.hid hr
      rw [← hr] at CS
      have em : ((cr 10000 f k : Int)) % 10000 = (q : Int) := by omega
      have ed : ((cr 10000 f k : Int)) / 10000 = (r : Int) := by omega
      have hll : (lo f k).length ≤ 1000000 := by rw [lo_len]; omega
      have IT := Lib.hid (fun w hT => itoa_any ((q : Int) + 10000) w (by omega) (by omega) hT)
      obtain ⟨z, hz⟩ : ∃ z : ByteArray, z = ⟨(Lib.itoa ((q : Int) + 10000)).toArray⟩ := ⟨_, rfl⟩
      have hz5 : z.size = 5 := by rw [hz]; exact itoa_size hq1
      have SL := sl_from (t := z) (k := 1) (by omega)
      have hpz : z.extract 1 z.size = pB q := by rw [hz5, hz]; exact itoa_pB hq1
      rw [hpz, show ((1 : Nat) : Int) = 1 from rfl] at SL
      rw [← hz] at IT
      generalize pB q = y at *
      clear hr hq hq2 hz hpz
      generalize cr 10000 f k = c0k at *
      obtain ⟨x, hx⟩ : ∃ x : Int, x = (c0k : Int) := ⟨_, rfl⟩
      have hx0 : 0 ≤ x := by omega
      have hx1 : x ≤ 9223372036854775807 := by omega
      rw [← hx] at em ed g3 ⊢
      clear hx hcl hfk g4
      go_wp2_with fail
      refine (IT.out _ (TP.out.below B1.out)).mono ?_
      rintro e w2 ⟨rfl, hb⟩
      have O2 := Lib.hid (O1.out.below hb)
      have B2 := Lib.hid (B1.out.trans (hb.mono hs1))
      have hs2 := B2.out.size
      clear hb IT O1 B1
      go_wp2_with (at_builtin; refine wl_app_txt _ rfl (.tmp 29) (.tmp 36) rfl w.heap.size _ (lo f k) y w rfl rfl O2.out B2.out hs2 hll ?_)
      intro v3 w3 h1 h2
      rw [LS.out] at h1
      have O3 := Lib.hid h1
      have B3 := Lib.hid h2
      clear h1 h2
      go_wp2
      go_roundw
      case rel => exact ⟨k + 1, by omega, by go_num, by rw [← HR.out]; first | rfl | rw [ed], O3.out, B3.out⟩
      case measure => simp [intOf] <;> omega
end Go.Proofs.YtdhmmllpldjkbaaGreatDoor.Gm
