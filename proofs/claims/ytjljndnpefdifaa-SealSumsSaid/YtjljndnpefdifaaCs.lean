/- seal.Corners. -/
import Derived.Test.YtjljndnpefdifaaCk
import Derived.Test.YtjljndnpefdifaaSf
import Derived.Test.YtjljndnpefdifaaSg
namespace Go.Proofs.Ytjljndnpefdifaa.Gm
open Go.RowKit
set_option linter.unusedVariables false
theorem info_bool : (Try.prog.info? 4).map (fun i => (i.zero, i.size, i.bytes)) = some (some (.bool false), 1, 1) := by kernel_rfl
/-- a slice of bools of the call's own -/
def Ob (B : Nat) (w : World) (v : Value) (l : List Bool) : Prop := w.ownsRow B 4 1 v l.length (l.map Value.bool)
theorem Ob.nil (B : Nat) (w : World) : Ob B w (.slice none 0 0) [] := World.ownsRow_nil _ _ _ _
theorem Ob.of_heap {B : Nat} {w w' : World} {v : Value} {l : List Bool} (h : Ob B w v l) (hh : ∀ k, k < w.heap.size → w'.heap[k]? = w.heap[k]?) : Ob B w' v l := by
  refine ⟨h.1, ?_⟩
  rcases h.2 with h0 | ⟨g, cap, cur, e, hb, hg, rest⟩
  · exact .inl h0
  · exact .inr ⟨g, cap, cur, e, hb, (hh g (Array.getElem?_eq_some_iff.1 hg).1).trans hg, rest⟩
theorem Ob.below {B : Nat} {w w' : World} {v : Value} {l : List Bool} (h : Ob B w v l) (hb : Below w.heap.size w w') : Ob B w' v l :=
  h.of_heap (fun k hk => hb.block k hk)
theorem Ob.opened {B : Nat} {w : World} {v : Value} {l : List Bool} (h : Ob B w v l) (hl : 1 ≤ l.length) : ∃ g cap, v = .slice (some ⟨g, 0, none⟩) l.length cap ∧ l.length ≤ cap ∧ cap ≤ 9223372036854775807 := by
  rcases h.2 with ⟨rfl, h0⟩ | ⟨g, cap, cur, rfl, hb, hg, hn, hm, hs, ht⟩
  · omega
  · exact ⟨g, cap, rfl, hn, by unfold maxLen at hm; omega⟩
theorem Ob.cell {B g n cap : Nat} {w : World} {l : List Bool} {b : Bool} (h : Ob B w (.slice (some ⟨g, 0, none⟩) n cap) l) {i : Nat} (hi : l[i]? = some b) : w.cell? ⟨g, i, none⟩ = some (.bool b) := by
  obtain ⟨hil, _⟩ := List.getElem?_eq_some_iff.1 hi
  have hn : n = l.length := by
    rcases h.2 with ⟨e, h0⟩ | ⟨g', cap', cur, e, _⟩
    · cases e
    · injection e
  subst hn
  rw [World.ownsRow.cellAt h i (by omega), List.getElem?_map, hi]
  rfl
theorem wl_app_bool {ops : Array Oper} {rest : List Oper} {o : Oper} {a : Act} {Q : Exit → Act → World → Prop} (w : World) (hgd : o.guard = none) (s x : Operand)
    (ho : o.op = .call { callee := .builtin .append, args := #[s, x], argTypes := #[71, 71] })
    (B : Nat) (v : Value) (l : List Bool) (y : Bool) (W : World) (hs : a.eval s = v) (hx : a.eval x = .slice (some ⟨w.heap.size, 0, none⟩) 1 1)
    (hown : Ob B w v l) (hbel : Below B W w) (hB : B ≤ w.heap.size) (hl : l.length ≤ 1000000)
    (h : ∀ v' w', Ob B w' v' (l ++ [y]) → Below B W w' → wpList Try.prog ops Q rest (a.put o.dst v') w') :
    wpList Try.prog ops Q (o :: rest) a (w.alloc (.cells #[.bool y] 4)) := by
  refine wl_appV 4 71 (.bool false) 1 1 Try.underlying71 info_bool rfl (by decide) (by decide) w hgd s x ho B v l.length (l.map Value.bool) #[.bool y] rfl (by intro u hu; simp at hu; subst hu; rfl) W hs hx hown hbel hB hl fun v' w' h1 h2 => h v' w' ?_ h2
  unfold Ob
  rw [List.map_append, List.length_append, List.length_singleton]
  exact h1
theorem and_one (n : Nat) (h : n < 9223372036854775808) : bits .and .i64 (n : Int) 1 = ((n % 2 : Nat) : Int) := by
  have := i64_and_nat n 1 h (by omega)
  rw [Nat.and_one_is_mod] at this
  exact this
theorem bit_ob (N c x : Nat) (hc : c < 9223372036854775808) : (bits BinOp.and IntKind.i64 ((c : Int) / 2 ^ (N - 1 - x)) 1 == 1) = ob N c x := by
  have e : ((c : Int) / 2 ^ (N - 1 - x)) = ((c / 2 ^ (N - 1 - x) : Nat) : Int) := by simp
  rw [e, and_one _ (Nat.lt_of_le_of_lt (Nat.div_le_self _ _) hc), ob_eq]
  generalize c / 2 ^ (N - 1 - x) % 2 = y
  rw [Bool.eq_iff_iff]
  simp only [beq_iff_eq, decide_eq_true_eq]
  omega
theorem int_one (d : Nat) : ((d : Int) == 1) = (d == 1) := by
  rw [Bool.eq_iff_iff]
  simp only [beq_iff_eq]
  omega
theorem int_odd (d : Nat) : ((d : Int) % 2 == 1) = (d % 2 == 1) := by
  rw [Bool.eq_iff_iff]
  simp only [beq_iff_eq]
  omega
theorem sub_Fx (y : F) (x : Int) (w : World) (hx0 : 0 ≤ x) (hx1 : x < 18446744073709551616) :
    Calls Try.prog 18 #[.int .u64 (vl y), .int .u64 x] w fun e w' => e = .returned (.int .u64 (vl (y - toF x))) ∧ w = w' := by
  have h := sub_any (vl y) x w (vl_lo y) (vl_64 y) hx0 hx1
  rwa [toF_vl] at h
def CnA (w : World) (ks : List Nat) (l : List F) (M : Nat) (out c : Value) (wr : World) : Prop :=
  ∃ m : Nat, m ≤ M ∧ c = .int .i64 m ∧ Ow w.heap.size wr out (crn ks l m) ∧ Below w.heap.size w wr
def CnB (wo : World) (ds : List Nat) (N c : Nat) (wrong odd i : Value) (wr : World) : Prop :=
  ∃ m : Nat, m ≤ N ∧ i = .int .i64 m ∧ wrong = .bool (wrg ds N c m) ∧ Ob wo.heap.size wr odd (odds N c m) ∧ Below wo.heap.size wo wr
def CnC (wo : World) (ks : List Nat) (l : List F) (c n : Nat) (sum k : Value) (wr : World) : Prop :=
  ∃ m : Nat, m ≤ n ∧ k = .int .i64 m ∧ sum = .int .u64 (vl (csum ks l c m)) ∧ Below wo.heap.size wo wr
set_option maxHeartbeats 4000000 in
set_option maxRecDepth 100000 in
theorem corners_ok (ks : List Nat) (xs : List Int) (v v2 : Value) (w : World) (h : Rd .i64 w v (zi (szs ks))) (h2 : Rd .u64 w v2 xs) (hw : W64 (zi (szs ks))) (hs : Shp (szs ks)) (hx : B64 xs) (hl : xs.length = pk ks) :
    Calls Try.prog 26 #[v, v2] w (RetLE w (crn ks (xs.map toF) (2 ^ ks.length)) 0) := by
  have hn1 : 1 ≤ pk ks := hs.pr1
  have hn2 : pk ks ≤ 1024 := hs.le
  have hN1 : 1 ≤ ks.length := by have := hs.len0; rwa [szs_len] at this
  have hN3 : ks.length ≤ 3 := by have := hs.len3; rwa [szs_len] at this
  have CC := Lib.hid (form_ok (zi (szs ks)) xs (szs ks) v v2 w h h2 hw rfl hs hl)
  have CP := Lib.hid (fun k (hk : k < pk ks) v w h => places_any (szs ks) k (k : Int) v w h hs (by omega) rfl)
  obtain ⟨sa, scap, sb, so, rfl, hscap, hsm, hsx, hsc⟩ := h.opened
  obtain ⟨xa, xcap, xb, xo, rfl, hxcap, hxm, hxx, hxc⟩ := h2.opened
  have LZ := Lib.hid (show (zi (szs ks)).length = ks.length by rw [zi_len, szs_len])
  rw [LZ.out] at hscap hsx hsc CC ⊢
  rw [hl] at hxcap hxx hxc CC ⊢
  obtain rfl := hsx.resolve_left (by omega)
  obtain rfl := hxx.resolve_left (by omega)
  have SC := Lib.hid (show ∀ x, x < ks.length → w.cell? ⟨sb, so + x, none⟩ = some (.int .i64 (nd (szs ks) x : Int)) from fun x hx => by rw [hsc x hx, gd_zi])
  have XC := Lib.hid hxc
  have HX := Lib.hid hx
  obtain ⟨l, hle⟩ : ∃ l, l = xs.map toF := ⟨_, rfl⟩
  have GX := Lib.hid (show ∀ i, cf l i = toF (gd xs i) from fun i => by rw [hle, cf_map])
  rw [← hle]
  have C0 := Lib.hid (crn_zero ks l)
  have CY := Lib.hid (fun c (h : okc ks c = true) => (crn_yes l h).symm)
  have CN := Lib.hid (fun c (h : okc ks c = false) => crn_no l h)
  have CLN := Lib.hid (fun c => crn_len ks l c)
  have WF := Lib.hid (fun c => wrg_full ks c)
  have M2 := Lib.hid (fun c q (h : okc ks c = true) hm => csum_minus (q := q) l h hm)
  have M3 := Lib.hid (fun c q (h : okc ks c = true) hm => csum_plus (q := q) l h hm)
  have PLL := Lib.hid (fun k => show (zi (plcs (szs ks) k)).length = ks.length by rw [zi_len, plcs_len, szs_len])
  have PLM := Lib.hid (fun k x => show gd (zi (plcs (szs ks) k)) x = (nd (plcs (szs ks) k) x : Int) from gd_zi _ x)
  have PLT := Lib.hid (show ∀ k x, x < ks.length → nd (plcs (szs ks) k) x < nd (szs ks) x ∧ nd (szs ks) x ≤ 1024 from fun k x hx => ⟨plcs_lt _ k x (by rw [szs_len]; exact hx) (hs.nd1 (by rw [szs_len]; exact hx)), hs.ndle (by rw [szs_len]; exact hx)⟩)
  have X := Lib.hid (show Rd .i64 w (.slice (some ⟨sb, so, none⟩) ks.length scap) (zi (szs ks)) by rw [← LZ.out]; exact h)
  obtain ⟨ds, hds⟩ : ∃ ds, ds = szs ks := ⟨_, rfl⟩
  rw [← hds] at CP SC X WF M2 M3 PLL PLM PLT
  obtain ⟨n, hn⟩ : ∃ n, n = pk ks := ⟨_, rfl⟩
  rw [← hn] at hn1 hn2 hxcap XC CC CP CY ⊢
  obtain ⟨N, hN⟩ : ∃ N, N = ks.length := ⟨_, rfl⟩
  rw [← hN] at hN1 hN3 hscap SC X CC WF M2 M3 PLL PLT ⊢
  obtain ⟨M, hM⟩ : ∃ M, M = 2 ^ N := ⟨_, rfl⟩
  have hM2 : M ≤ 8 := by
    have := Nat.pow_le_pow_right (show 0 < 2 by omega) hN3
    omega
  have HM := Lib.hid (show ((2 : Int) ^ N) = (M : Int) by rw [hM]; simp)
  rw [← hM]
  clear h h2 hs hsc hxc hx hl hle hds hn hN LZ hw hM
  go_enter Try.func26, Try.ntmps26
  go_wp2_with fail
  refine CC.out.mono ?_
  rintro e w' ⟨rfl, rfl⟩
  have HM1 : ((2 : Int) ^ N) = (M : Int) := HM.out
  go_wp2
  go_loopw [7, 8, 9, 10, 11, 12, 13, 14, 15, 16, 17, 18, 19, 29] (fun out _ _ _ _ _ _ _ _ _ _ _ _ c wr => CnA w ks l M out c wr) (fun _ _ _ _ _ _ _ _ _ _ _ _ _ c _ => M - (intOf c).toNat)
  case atStart => exact ⟨0, by omega, rfl, by rw [C0.out]; exact Ow.nil _ _, Below.refl _ _⟩
  case round =>
    obtain ⟨c, hc, rfl, ho, hbel⟩ := hrel
    have OO := Lib.hid ho
    have HB := Lib.hid hbel
    have hwsz := hbel.size
    clear ho hbel
    by_cases hcl : c < M
    · obtain ⟨wo, hwo⟩ : ∃ wo : World, wo = wr := ⟨_, rfl⟩
      subst hwo
      go_wp2
      go_loopw [9, 10, 11, 12, 13, 34] (fun odd wrong _ _ _ i wi => CnB wo ds N c wrong odd i wi) (fun _ _ _ _ _ i _ => N - (intOf i).toNat)
      case atStart => exact ⟨0, by omega, rfl, by rw [wrg_zero], by rw [odds_zero]; exact Ob.nil _ _, Below.refl _ _⟩
      case round =>
        obtain ⟨i, hi, rfl, rfl, hob, hb⟩ := hrel
        have OB := Lib.hid hob
        have B3 := Lib.hid hb
        have hs3 := hb.size
        clear hob hb
        by_cases hil : i < N
        · have c3 : wr.cell? ⟨sb, so + i, none⟩ = some (.int .i64 (nd ds i : Int)) := cell_below B3.out (cell_below HB.out (SC.out i hil))
          have e1 : (bits BinOp.and IntKind.i64 ((c : Int) / 2 ^ (N - 1 - i)) 1 == 1) = ob N c i := bit_ob N c i (by omega)
          have e2 : ((nd ds i : Int) == 1) = (nd ds i == 1) := int_one _
          have HW := Lib.hid (wrg_succ ds N c i)
          have HO := Lib.hid (odds_succ N c i)
          have OL2 := Lib.hid (odds_len N c i)
          generalize wrg ds N c i = b1 at *
          generalize ob N c i = b2 at *
          generalize (nd ds i == 1) = b3 at *
          rcases b1 with _ | _ <;> rcases b2 with _ | _ <;> rcases b3 with _ | _
          all_goals
            (go_wp2_with (at_builtin; refine wl_app_bool _ rfl (.tmp 56) (.tmp 58) rfl wo.heap.size _ (odds N c i) _ wo rfl rfl OB.out B3.out hs3 (by rw [OL2.out]; omega) ?_)
             intro v4 w4 hob hb4
             have OB4 := Lib.hid hob
             have B4 := Lib.hid hb4
             clear hob hb4
             go_wp2
             go_roundw
             case rel => exact ⟨i + 1, by omega, by go_num, by rw [HW.out]; rfl, by rw [HO.out]; exact OB4.out, B4.out⟩
             case measure => simp [intOf] <;> omega)
        · obtain rfl : N = i := by omega
          have HWF := WF.out c
          cases hok : okc ks c with
          | false =>
            have CNc := CN.out c hok
            rw [hok] at HWF
            have HWG : wrg ds N c N = true := HWF
            rw [HWG]
            have B5 := Lib.hid (HB.out.trans (B3.out.mono hwsz))
            have OO5 := Lib.hid (OO.out.below B3.out)
            go_wp2
            go_roundw
            case rel => exact ⟨c + 1, by omega, by go_num, by rw [CNc]; exact OO5.out, B5.out⟩
            case measure => simp [intOf] <;> omega
          | true =>
            rw [hok] at HWF
            have HWG : wrg ds N c N = false := HWF
            rw [HWG]
            have CYc := Lib.hid (CY.out c hok)
            have HM2 := Lib.hid (fun q hm => M2.out c q hok hm)
            have HM3 := Lib.hid (fun q hm => M3.out c q hok hm)
            obtain ⟨go, co, rfl, hco, hcom⟩ := OB.out.opened (by rw [odds_len]; exact hN1)
            have OL2 := Lib.hid (odds_len N c N)
            rw [OL2.out] at OB hco ⊢
            have OC := Lib.hid (show ∀ x, x < N → wr.cell? ⟨go, x, none⟩ = some (.bool (ob N c x)) from fun x hx => OB.out.cell (odds_at N c N hx))
            have CCC := Lib.hid (fun m => crn_len ks l m)
            clear CY M2 M3 HWF HWG hok
            obtain ⟨wq, hwq⟩ : ∃ wq : World, wq = wr := ⟨_, rfl⟩
            subst hwq
            have Z0 := Lib.hid (show (0 : Int) = vl (csum ks l c 0) by rw [csum_zero, vl_zero])
            go_wp2
            go_loopw [14, 15, 16, 17, 18, 19, 64] (fun sum _ _ _ _ _ k wi => CnC wq ks l c n sum k wi) (fun _ _ _ _ _ _ k _ => n - (intOf k).toNat)
            case atStart => exact ⟨0, by omega, rfl, by rw [← Z0.out], Below.refl _ _⟩
            case round =>
              obtain ⟨q, hq, rfl, rfl, hb⟩ := hrel
              have B6 := Lib.hid hb
              have hs6 := hb.size
              clear hb
              by_cases hql : q < n
              · have c4 : wr.cell? ⟨xb, xo + q, none⟩ = some (.int .u64 (gd xs q)) := cell_below B6.out (cell_below B3.out (cell_below HB.out (XC.out q hql)))
                have XW := Lib.hid (X.out.below (HB.out.trans ((B3.out.trans (B6.out.mono hs3)).mono hwsz)))
                go_wp2_with fail
                refine (CP.out q hql _ _ XW.out).mono ?_
                rintro e w7 ⟨pv, rfl, hp, hb⟩
                obtain ⟨gp, cp, rfl, hcp, hcpm⟩ := hp.opened (by rw [PLL.out]; exact hN1)
                rw [PLL.out] at hp hcp ⊢
                have PC := Lib.hid (show ∀ x, x < N → w7.cell? ⟨gp, x, none⟩ = some (.int .i64 (nd (plcs ds q) x : Int)) from fun x hx => by rw [hp.cell (by rw [PLL.out]; exact hx), PLM.out])
                have OC7 := Lib.hid (show ∀ x, x < N → w7.cell? ⟨go, x, none⟩ = some (.bool (ob N c x)) from fun x hx => cell_below hb (cell_below B6.out (OC.out x hx)))
                have B7 := Lib.hid (B6.out.trans (hb.mono hs6))
                have hbx := HX.out.get q
                clear hp hb B6 XW
                go_wp2
                go_loop [17, 18, 19, 73] (fun mi _ _ j => ∃ m : Nat, m ≤ N ∧ j = .int .i64 m ∧ mi = .bool (mns ds N c q m)) (fun _ _ _ j => N - (intOf j).toNat)
                case atStart => exact ⟨0, by omega, rfl, by rw [mns_zero]⟩
                case round =>
                  obtain ⟨x, hx1, rfl, rfl⟩ := hrel
                  by_cases hxl : x < N
                  · have c5 := PC.out x hxl
                    have c6 := OC7.out x hxl
                    obtain ⟨t1, t2⟩ := PLT.out q x hxl
                    have HS := Lib.hid (mns_succ ds N c q x)
                    have e3 : (((nd (plcs ds q) x : Int)).tmod 2 == 1) = (nd (plcs ds q) x % 2 == 1) := int_odd _
                    have e4 : ((nd (plcs ds q) x : Int) % 2 == 1) = (nd (plcs ds q) x % 2 == 1) := int_odd _
                    generalize mns ds N c q x = b1 at *
                    generalize ob N c x = b2 at *
                    generalize (nd (plcs ds q) x % 2 == 1) = b3 at *
                    generalize nd (plcs ds q) x = y at *
                    rcases b2 with _ | _
                    all_goals
                      (go_wp2
                       go_round
                       case rel => exact ⟨x + 1, by omega, by go_num, by rw [HS.out]; cases b1 <;> cases b3 <;> rfl⟩
                       case measure => simp [intOf] <;> omega)
                  · obtain rfl : N = x := by omega
                    cases hm : mns ds N c q N with
                    | false =>
                      have HC := Lib.hid (HM3.out q hm)
                      rw [GX.out] at HC
                      go_wp2_with fail
                      refine (add_Fx (csum ks l c q) (gd xs q) _ hbx.1 hbx.2).mono ?_
                      rintro e w8 ⟨rfl, rfl⟩
                      rw [HC.out]
                      go_wp2
                      go_roundw
                      case rel => exact ⟨q + 1, by omega, by go_num, rfl, B7.out⟩
                      case measure => simp [intOf] <;> omega
                    | true =>
                      have HC := Lib.hid (HM2.out q hm)
                      rw [GX.out] at HC
                      go_wp2_with fail
                      refine (sub_Fx (csum ks l c q) (gd xs q) _ hbx.1 hbx.2).mono ?_
                      rintro e w8 ⟨rfl, rfl⟩
                      rw [HC.out]
                      go_wp2
                      go_roundw
                      case rel => exact ⟨q + 1, by omega, by go_num, rfl, B7.out⟩
                      case measure => simp [intOf] <;> omega
              · obtain rfl : n = q := by omega
                have OO6 := Lib.hid ((OO.out.below B3.out).below B6.out)
                have B8 := Lib.hid (HB.out.trans ((B3.out.trans (B6.out.mono hs3)).mono hwsz))
                have hs8 := B8.out.size
                go_wp2_with (at_builtin; refine wl_app _ rfl (.tmp 98) (.tmp 100) rfl w.heap.size _ (crn ks l c) (csum ks l c n) w rfl rfl OO6.out B8.out hs8 (by have := CCC.out c; omega) ?_)
                intro v9 w9 ho9 hb9
                rw [CYc.out] at ho9
                have O9 := Lib.hid ho9
                have B9 := Lib.hid hb9
                clear ho9 hb9
                go_wp2
                go_roundw
                case rel => exact ⟨c + 1, by omega, by go_num, O9.out, B9.out⟩
                case measure => simp [intOf] <;> omega
    · obtain rfl : M = c := by omega
      go_wp2
      go_ret2
      exact ⟨_, rfl, OO.out, HB.out⟩
end Go.Proofs.Ytjljndnpefdifaa.Gm
