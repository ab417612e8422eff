/- many.along. -/
import Derived.Test.YtkcfnbfkbmgchaaDoorTu
import Derived.Test.YtkcfnbfkbmgchaaDoorHm
import Derived.Test.YtkcfnbfkbmgchaaDoorSz
import Derived.Test.YtkcfnbfkbmgchaaDoorAp
namespace Go.Proofs.YtkcfnbfkbmgchaaDoor.Gm
open Go.RowKit
set_option linter.unusedVariables false
theorem puL_tz (back : Bool) (s k n L : Nat) (zs : List Int) (ln : List Nat) (hs : 0 < s) (hln : ∀ i, i < 2 ^ k → nd ln i = lineAt s (2 ^ k) L + i * s) (hin : ∀ i, i < 2 ^ k → lineAt s (2 ^ k) L + i * s < n) :
    ∀ m, m ≤ 2 ^ k → puL (tz back s k n 0 L zs) ln (tr back k (fun i => toF (gd (tz back s k n 0 L zs) (nd ln i)))) m = tzPart back s k n 0 L m zs := by
  have hf : ∀ j, tr back k (fun i => toF (gd (tz back s k n 0 L zs) (nd ln i))) j = tr back k (fun i => toF (gd zs (lineAt s (2 ^ k) L + i * s))) j := fun j => tr_congr (fun i hi => by
    rw [hln i hi, gd_tz _ _ _ _ _ _ _ (hin i hi), tzAt, lineNo_of _ _ _ _ hs hi, if_neg (by omega)]) j
  intro m
  induction m with
  | zero => intro _; rw [puL_zero, tzPart_zero]
  | succ m ih =>
    intro hm
    rw [puL_succ, ih (by omega), hf, hln m (by omega)]
    exact tzPart_step back s k n 0 L m zs hs (by omega)
def AlRel (w : World) (B1 : Nat) (back : Bool) (s k n g c : Nat) (zs : List Int) (lv : Value) (ll : List (List Int)) (M : Nat) (i : Value) (wr : World) : Prop :=
  ∃ m : Nat, m ≤ M ∧ i = .int .i64 m ∧ Oz .u64 25 w.heap.size wr (.slice (some ⟨g, 0, none⟩) n c) (tz back s k n 0 m zs) ∧ OL B1 wr lv ll ∧ Below w.heap.size w wr
set_option maxHeartbeats 4000000 in
set_option maxRecDepth 100000 in
theorem along_any (ds : List Nat) (zs : List Int) (x k : Nat) (back : Bool) (v v2 : Value) (z : Int) (w : World) (h : Rd .i64 w v (zi ds)) (h2 : Rd .u64 w v2 zs) (hs : Shp ds) (hz : B64 zs) (hl : zs.length = pr ds)
    (hxl : x < ds.length) (hk : nd ds x = 2 ^ k) (hT : Tb w) (ez : z = x) :
    Calls Tryd.prog 80 #[v, v2, .int .i64 z, .bool back] w (RetZ w (tz back (under ds x) k (pr ds) 0 (pr (ds.take x) * under ds x) zs)) := by
  subst ez
  have hk10 := shp_k hs hxl hk
  have hsp := shp_split hxl hk
  have hu := hs.under1 x
  obtain ⟨s, hse⟩ : ∃ s, s = under ds x := ⟨_, rfl⟩
  obtain ⟨M, hM⟩ : ∃ M, M = pr (ds.take x) * under ds x := ⟨_, rfl⟩
  obtain ⟨n, hn⟩ : ∃ n, n = pr ds := ⟨_, rfl⟩
  have hn1 : n ≤ 1024 := by rw [hn]; exact hs.le
  have hn0 : 1 ≤ n := by rw [hn]; exact hs.pr1
  have hN1 := Nat.two_pow_pos k
  have hM1 : 1 ≤ M := by rw [hM]; exact Nat.mul_pos (pr_pos (fun d hd => hs.pos d (List.mem_of_mem_take hd))) hu
  have hMn : M ≤ n := by
    rw [hM, hn, hsp]
    exact Nat.mul_le_mul_left _ (Nat.le_mul_of_pos_left _ hN1)
  have LGL := Lib.hid (show (lnz (lns ds x)).length = M by rw [lns_length hs hxl, hM])
  have LG := Lib.hid (show ∀ i, i < M → lg (lnz (lns ds x)) i = zi (line s (2 ^ k) i) from fun i hi => by rw [lns_get hs hxl (by rw [← hM]; exact hi), hk, hse])
  have LIN := Lib.hid (show ∀ L i, L < M → i < 2 ^ k → lineAt s (2 ^ k) L + i * s < n from fun L i hL hi => by
    rw [hn, hsp, ← hse]
    exact lineAt_lt s (2 ^ k) _ L i (by omega) (by rw [hM, ← hse] at hL; exact hL) hi)
  have TS := Lib.hid (show ∀ L, L < M → puL (tz back s k n 0 L zs) (line s (2 ^ k) L) (tr back k (fun i => toF (gd (tz back s k n 0 L zs) (nd (line s (2 ^ k) L) i)))) (2 ^ k) = tz back s k n 0 (L + 1) zs from fun L hL => by
    rw [puL_tz back s k n L zs _ (by omega) (fun i hi => by rw [nd_eq, line, List.getElem?_map, List.getElem?_range hi]; rfl) (fun i hi => LIN.out L i hL hi) _ (Nat.le_refl _), tzPart_full _ _ _ _ _ _ _ (Nat.zero_le _)])
  have TL := Lib.hid (fun m => tz_len back s k n 0 m zs)
  have TB := Lib.hid (fun m => (B64.tz (back := back) (s := s) (k := k) (n := n) (first := 0) (last := m) hz (by rw [hl, hn])))
  have T0 := Lib.hid (tz_none back s k n 0 (zs := zs) (by rw [hl, hn]))
  have LLN := Lib.hid (show ∀ L, (line s (2 ^ k) L).length = 2 ^ k ∧ ∀ i, i < 2 ^ k → nd (line s (2 ^ k) L) i = lineAt s (2 ^ k) L + i * s from fun L => ⟨by simp [line], fun i hi => by rw [nd_eq, line, List.getElem?_map, List.getElem?_range hi]; rfl⟩)
  have X := Lib.hid h
  have T := Lib.hid hT
  have T0w := Lib.hid hT
  obtain ⟨a, cap, rfl, hcap, hm⟩ := h.shape
  have CC := Lib.hid (cloneU_any zs v2 w h2 (by omega))
  have CLN := Lib.hid (fun w v h => mlines_any ds x (x : Int) v w h hs hxl rfl)
  rw [← hM, ← hse, ← hn]
  have HL := Lib.hid (show zs.length = n by rw [hl, hn])
  clear h h2 hT hse hM hn hsp hN1 hl hu
  go_enter Tryd.func80, Tryd.ntmps80
  go_wp2_with fail
  refine CC.out.mono ?_
  rintro e w1 ⟨v1, rfl, ho, hb⟩
  obtain ⟨g, c, rfl, hc, hcm⟩ := ho.opened (by rw [HL.out]; exact hn0)
  have X1 := Lib.hid (X.out.below hb)
  have T1 := Lib.hid (T.out.below hb)
  rw [HL.out] at ho hc ⊢
  have hg := ho.base
  have hs1 := hb.size
  have O1 := Lib.hid ho
  have B1 := Lib.hid hb
  clear ho hb CC X T
  go_wp2_with fail
  refine (CLN.out _ _ X1.out).mono ?_
  rintro e w2 ⟨lv, rfl, ho, hb⟩
  obtain ⟨gl, cl, rfl, hcl, hclm⟩ := ho.opened (by rw [LGL.out]; exact hM1)
  have O2 := O1.out.below hb
  rw [← T0.out] at O2
  have O2 := Lib.hid O2
  rw [LGL.out] at hcl
  have L2 := ho
  rw [LGL.out] at L2 ⊢
  have L2 := Lib.hid L2
  have T2 := Lib.hid (T1.out.below hb)
  have B2 := Lib.hid (B1.out.trans (hb.mono hs1))
  clear ho hb O1 B1 X1 T1
  go_wp2
  go_loopw [11, 18] (fun _ i wr => AlRel w w1.heap.size back s k n g c zs (.slice (some ⟨gl, 0, none⟩) M cl) (lnz (lns ds x)) M i wr) (fun _ i _ => M - (intOf i).toNat)
  case atStart => exact ⟨0, by omega, rfl, O2.out, L2.out, B2.out⟩
  case round =>
    obtain ⟨m, hm1, rfl, ho, hol, hbel⟩ := hrel
    have OO := Lib.hid ho
    have OLN := Lib.hid hol
    have HB := Lib.hid hbel
    have hwsz := hbel.size
    clear ho hol hbel O2 L2 B2
    by_cases hml : m < M
    · obtain ⟨u, hcu, hou⟩ := OLN.out.at (i := m) (by rw [LGL.out]; exact hml)
      rw [LG.out m hml] at hou
      obtain ⟨ll1, ll2⟩ := LLN.out m
      have HOU := Lib.hid hou
      have CT := Lib.hid (turnl_any back k g n c w.heap.size w1.heap.size (tz back s k n 0 m zs) (line s (2 ^ k) m) u wr OO.out (TB.out m) (TL.out m) hn1 hou hk10 ll1 (fun i hi => by rw [ll2 i hi]; exact LIN.out m i hml hi) (T0w.out.below HB.out))
      rw [TS.out m hml] at CT
      clear hou ll1 ll2
      go_wp2_with fail
      refine CT.out.mono ?_
      rintro e w3 ⟨rfl, ho3, hon⟩
      have O3 := Lib.hid ho3
      have L3 := Lib.hid (OLN.out.only hon (fun gg h1 h2 e => by omega))
      have B3 := Lib.hid (HB.out.trans (hon.below hwsz (fun gg e => by omega)))
      clear ho3 hon hcu
      go_wp2
      go_roundw
      case rel => exact ⟨m + 1, by omega, by go_num, O3.out, L3.out, B3.out⟩
      case measure => simp [intOf] <;> omega
    · obtain rfl : M = m := by omega
      go_wp2
      go_ret
      exact ⟨_, rfl, OO.out, HB.out⟩
end Go.Proofs.YtkcfnbfkbmgchaaDoor.Gm
