/- The walk of the law ShareAny. (Its lines are printed by wip/mk_XLsn.py.) -/
import Derived.Test.YtjljndnpefdifaaQa
import Derived.Test.YtjljndnpefdifaaAp
import Derived.Test.YtjljndnpefdifaaAd
import Derived.Test.YtjljndnpefdifaaShort
import Derived.Test.YtjljndnpefdifaaRest
namespace Go.Proofs.Ytjljndnpefdifaa.Gm
open Go.RowKit
set_option linter.unusedVariables false
theorem sh_ne {w : World} {B B' g m c : Nat} {v : Value} {az sz lf : List Int} (h : Os B w v az sz) (h' : Oz .i64 3 B' w (.slice (some ⟨g, 0, none⟩) m c) lf) : ∀ k, v.ownBlock = some k → ¬ k = g := by
  intro k hk e
  subst e
  rcases own_ne h.2 h' (by decide) with hh | hh
  · rw [hk] at hh; cases hh
  · exact hh hk
def SnRel (w : World) (l : List F) (n gl : Nat) (M : Nat) (lv sv i : Value) (wr : World) : Prop :=
  ∃ (m : Nat) (az lf : List Int), m ≤ M ∧ i = .int .i64 m ∧ Pick n az lf ∧ az.length = m ∧ lv = .slice (some ⟨gl, 0, none⟩) (n - m) n ∧ Oz .i64 3 w.heap.size wr (.slice (some ⟨gl, 0, none⟩) (n - m) n) lf ∧ Os w.heap.size wr sv az (syz l az) ∧ Below w.heap.size w wr
theorem rd_cells {k : IntKind} {w : World} {b off n cap : Nat} {zs : List Int} (h : Rd k w (.slice (some ⟨b, off, none⟩) n cap) zs) : ∀ i, i < n → w.cell? ⟨b, off + i, none⟩ = some (.int k (gd zs i)) := by
  intro i hi
  obtain ⟨a', cap', b', off', e, h1, h2, h3, hx⟩ := h.opened
  injection e with e1 e2 e3
  rcases h3 with h3 | h3
  · omega
  · rw [h3] at e1
    injection e1 with e1
    injection e1 with e4 e5
    subst e4 e5
    exact hx i (by omega)
theorem fine_w63 {az : List Int} (h : Fine az) : W63 az := fun a ha => by
  have := h.1 a ha
  have h2 : -9223372036854775808 ≤ a ∧ a ≤ 9223372036854775807 := by omega
  simpa [Lit.wf, IntKind.min, IntKind.max, IntKind.signed, IntKind.bits] using h2
theorem rec_good (l : List F) (az : List Int) (hf : Fine az) (k : Nat) (hk1 : 1 ≤ k) (hk2 : k ≤ 64) (hl : l.length = k) (hle : k ≤ az.length) (v : Value) (w : World) (h : Rs w v az (syz l az)) :
    Calls Try.prog 34 #[.int .i64 k, v] w (RetLE w l 0) := by
  refine (rec_any k (k : Int) az (syz l az) v w h (fine_w63 hf) (syz_64 l az) rfl hk1 hk2 hf).mono (fun e w' he => ?_)
  rw [thru_syz hf (by rw [hl]; exact hle)] at he
  rcases he with ⟨h1, _⟩ | ⟨_, h1, _⟩ | ⟨_, _, h1⟩
  · omega
  · have := strip_len l; omega
  · rw [← hl, padF_strip] at h1; exact h1
theorem rec_wrong (l : List F) (az : List Int) (hf : Fine az) (k : Nat) (hk1 : 1 ≤ k) (hk2 : k ≤ 64) (hl : l.length = k) (hm : az.length = k + 1) (y : F) (hy : y ≠ 0) (v : Value) (w : World) (h : Rs w v az ((syz l az).set 0 (vl (evl l (pt (gd az 0).toNat) + y)))) :
    Calls Try.prog 34 #[.int .i64 k, v] w (RetLE w [] 5) := by
  have hw := thru_wrong hf (by rw [hl]; exact hm) y hy
  rw [hl] at hw
  have hb : B64 ((syz l az).set 0 (vl (evl l (pt (gd az 0).toNat) + y))) := fun z hz => by
    rcases List.mem_or_eq_of_mem_set hz with hz | hz
    · exact syz_64 l az z hz
    · rw [hz]; exact ⟨vl_lo _, vl_64 _⟩
  refine (rec_any k (k : Int) az _ v w h (fine_w63 hf) hb rfl hk1 hk2 hf).mono (fun e w' he => ?_)
  rcases he with ⟨h1, _⟩ | ⟨_, _, h1⟩ | ⟨_, h1, _⟩
  · omega
  · exact h1
  · omega
theorem fits_wrong (l : List F) (az : List Int) (hf : Fine az) (k : Nat) (hk1 : 1 ≤ k) (hk2 : k ≤ 64) (hl : l.length = k) (hm : az.length = k + 1) (y : F) (hy : y ≠ 0) (v : Value) (w : World) (h : Rs w v az ((syz l az).set 0 (vl (evl l (pt (gd az 0).toNat) + y)))) :
    Calls Try.prog 35 #[.int .i64 k, v] w (RetV w (.tuple #[.bool false, .int .i64 0])) := by
  have hw := thru_wrong hf (by rw [hl]; exact hm) y hy
  rw [hl] at hw
  have hb : B64 ((syz l az).set 0 (vl (evl l (pt (gd az 0).toNat) + y))) := fun z hz => by
    rcases List.mem_or_eq_of_mem_set hz with hz | hz
    · exact syz_64 l az z hz
    · rw [hz]; exact ⟨vl_lo _, vl_64 _⟩
  have h1 := fits_any (k : Int) az _ v w h (fine_w63 hf) hb (by omega) (by omega) hf
  have e : decide (((thru az ((syz l az).set 0 (vl (evl l (pt (gd az 0).toNat) + y)))).length : Int) ≤ k) = false := decide_eq_false (by omega)
  rw [e] at h1
  exact h1
theorem sh1 (w : World) (o p : Obj) : ((w.alloc o).alloc p).heap[w.heap.size]? = some o := by
  rw [Below.heap_alloc _ _ _ (by simp)]; exact heap_alloc_new w o
theorem sh2 (w : World) (o p : Obj) : ((w.alloc o).alloc p).heap[w.heap.size + 1]? = some p := by
  have h := heap_alloc_new (w.alloc o) p
  rwa [show (w.alloc o).heap.size = w.heap.size + 1 by simp] at h
set_option maxHeartbeats 8000000 in
set_option maxRecDepth 100000 in
theorem sn_bad (zs ps : List Int) (z y : Int) (v v2 : Value) (w : World) (h : Rd .u64 w v zs) (h2 : Rd .i64 w v2 ps) (hb : (zs.take 20).length < 1 ∨ z < 1 ∨ 64 < z ∨ z < (zs.take 20).length) :
    Calls Try.prog 9 #[v, .int .i64 z, v2, .int .u64 y] w (RetV w (.bool true)) := by
  obtain ⟨dz, hdz⟩ : ∃ dz, dz = zs.take 20 := ⟨_, rfl⟩
  have HD := Lib.hid hdz
  have hd20 : dz.length ≤ 20 := by rw [hdz, List.length_take]; omega
  have X := Lib.hid h
  have P := Lib.hid h2
  rw [← hdz] at hb
  clear h h2 hdz
  have lit1 : Rd .u64 (w.alloc (.cells #[.int .u64 5, .int .u64 0] 27)) (.slice (some ⟨w.heap.size, 0, none⟩) 2 2) [5, 0] := Rd.lit .u64 w [5, 0] 27 2 rfl (by simp)
  have hal := (Below.refl w.heap.size w).alloc (Nat.le_refl _) (.cells #[.int .u64 5, .int .u64 0] 27)
  have CL := Lib.hid (encode_any [5, 0] _ 3 3 _ lit1 (by intro z hz; simp at hz; omega) (by decide) (by omega) (by omega) (by decide) rfl)
  have HAL := Lib.hid hal
  clear hal lit1
  go_enter Try.func9, Try.ntmps9
  go_wp2_with fail
  refine CL.out.mono ?_
  rintro e w1 ⟨v1, rfl, ho, hb⟩
  have O1 := ho.rd
  rw [syms_lit] at O1
  have O1 := Lib.hid O1
  have B1 := Lib.hid (HAL.out.trans (hb.mono HAL.out.size))
  clear ho hb CL HAL
  go_wp2_with fail
  have hL := Rd.lit .u64 w1 [5, 5, 5] 27 3 rfl (by simp)
  have hal := (Below.refl w1.heap.size w1).alloc (Nat.le_refl _) (.cells ([5, 5, 5].map (Value.int .u64)).toArray 27)
  refine (equal_yes [5, 5, 5] _ _ _ (O1.out.below hal) hL).mono ?_
  rintro e w2 ⟨rfl, hb2⟩
  have hs1 := B1.out.size
  have B2 := Lib.hid (B1.out.trans ((hal.trans (hb2.mono (by simp))).mono hs1))
  have hsz2 := B2.out.size
  have X2 := Lib.hid (X.out.below B2.out)
  have P2 := Lib.hid (P.out.below B2.out)
  clear hL hal hb2 X P O1 B1 hs1
  go_wp2_with fail
  refine (short_z zs 20 20 _ _ X2.out (by omega) rfl).mono ?_
  rintro e w3 ⟨⟨v0, rfl, hr⟩, rfl⟩
  rw [← HD.out] at hr
  have D2 := Lib.hid hr
  obtain ⟨da, dc, db, do', rfl, hdc, hdm, hdx, hdcells⟩ := hr.opened
  have DC2 := Lib.hid hdcells
  clear hr X2 hdcells HD
  go_wp2_with fail
  refine (encode_bad dz _ z _ D2.out hb).mono ?_
  rintro e w3 ⟨v3, rfl, hown, hbel⟩
  have D_3 := Lib.hid (D2.out.below hbel)
  have P_3 := Lib.hid (P2.out.below hbel)
  have A_3 := Lib.hid (hown.mono hsz2)
  have B3 := Lib.hid (B2.out.trans (hbel.mono hsz2))
  have hsz3 := B3.out.size
  clear D2 P2 hown hbel
  obtain ⟨ea, ec, rfl, _, _⟩ := A_3.out.rd.shape
  simp only [List.map_nil, List.length_nil]
  go_wp2
  go_ret
  exact ⟨rfl, B3.out⟩
set_option maxHeartbeats 8000000 in
set_option maxRecDepth 100000 in
theorem sn_oka (zs ps : List Int) (z y : Int) (v v2 : Value) (w : World) (h : Rd .u64 w v zs) (h2 : Rd .i64 w v2 ps) (hx : B64 zs) (hwp : W64 ps) (y0 : 0 ≤ y) (y1 : y < 18446744073709551616) (n M : Nat) (hz : z = n) (hk1 : 1 ≤ (zs.take 20).length) (hn1 : 1 ≤ n) (hn2 : n ≤ 64) (hkn : (zs.take 20).length ≤ n) (hM : M = (zs.take 20).length + 1 ∧ M ≤ n) :
    Calls Try.prog 9 #[v, .int .i64 z, v2, .int .u64 y] w (RetV w (.bool true)) := by
  obtain ⟨dz, hdz⟩ : ∃ dz, dz = zs.take 20 := ⟨_, rfl⟩
  have HD := Lib.hid hdz
  have hd20 : dz.length ≤ 20 := by rw [hdz, List.length_take]; omega
  have X := Lib.hid h
  have P := Lib.hid h2
  rw [← hdz] at hk1 hkn hM
  subst hz
  have bdz : B64 dz := by rw [hdz]; exact hx.take 20
  obtain ⟨l, hl⟩ : ∃ l, l = dz.map toF := ⟨_, rfl⟩
  have ll : l.length = dz.length := by rw [hl, List.length_map]
  have GX := Lib.hid (show ∀ i, cf l i = toF (gd dz i) from fun i => by rw [hl, cf_map])
  have CE := Lib.hid (fun w v h => encode_any dz v n (n : Int) w h bdz hk1 hn1 hn2 hkn rfl)
  rw [← hl] at CE
  obtain ⟨AL, hAL⟩ : ∃ a, a = syms l n := ⟨_, rfl⟩
  rw [← hAL] at CE
  have LAL := Lib.hid (show AL.length = n by rw [hAL, syms_len])
  have CAL := Lib.hid (show ∀ q, q < n → cf AL q = evl l (pt q) from fun q hq => by rw [hAL]; unfold syms; exact cf_ofFn _ hq)
  obtain ⟨k, hk⟩ : ∃ k, k = dz.length := ⟨_, rfl⟩
  have LL := Lib.hid (show l.length = k by rw [ll, hk])
  rw [← hk] at hd20 hk1 hkn hM
  have HK := Lib.hid hk.symm
  have BD := Lib.hid bdz
  have hM1 : 1 ≤ M := by omega
  have hMn : M ≤ n := by omega
  have hkM : k ≤ M := by omega
  have e7 : IntKind.i64.wrap ((k : Int) + 1) = (M : Int) := by rw [show (k : Int) + 1 = (M : Int) by omega]; exact wrap_nat (by omega)
  have HMM := Lib.hid hM.1
  have hlt7 : ¬ n < M := by omega
  have hlt8 : M ≤ n := hM.2
  clear hM
  have WP := Lib.hid (show ∀ i, i < ps.length → -9223372036854775808 ≤ gd ps i ∧ gd ps i ≤ 9223372036854775807 from fun i hi => hwp.get hi)
  have I0 := Lib.hid (iot_zero n).symm
  have IS := Lib.hid (fun m (hm : m < n) => iot_step n hm)
  have IL := Lib.hid (fun m => iot_len n m)
  have IF := Lib.hid (iot_full n)
  have W0 := Lib.hid (show List.replicate k 0 = wnL l 0 by rw [wnL_zero, LL.out])
  have WS := Lib.hid (fun m (hm : m < k) => wnL_step l (m := m) (by rw [LL.out]; exact hm))
  have WL := Lib.hid (fun m => show (wnL l m).length = k by rw [wnL_len, LL.out])
  have WF := Lib.hid (show wnL l k = l by rw [← LL.out, wnL_full])
  clear h h2 hdz hx hwp hl ll hAL hk bdz
  have lit1 : Rd .u64 (w.alloc (.cells #[.int .u64 5, .int .u64 0] 27)) (.slice (some ⟨w.heap.size, 0, none⟩) 2 2) [5, 0] := Rd.lit .u64 w [5, 0] 27 2 rfl (by simp)
  have hal := (Below.refl w.heap.size w).alloc (Nat.le_refl _) (.cells #[.int .u64 5, .int .u64 0] 27)
  have CL := Lib.hid (encode_any [5, 0] _ 3 3 _ lit1 (by intro z hz; simp at hz; omega) (by decide) (by omega) (by omega) (by decide) rfl)
  have HAL := Lib.hid hal
  clear hal lit1
  go_enter Try.func9, Try.ntmps9
  go_wp2_with fail
  refine CL.out.mono ?_
  rintro e w1 ⟨v1, rfl, ho, hb⟩
  have O1 := ho.rd
  rw [syms_lit] at O1
  have O1 := Lib.hid O1
  have B1 := Lib.hid (HAL.out.trans (hb.mono HAL.out.size))
  clear ho hb CL HAL
  go_wp2_with fail
  have hL := Rd.lit .u64 w1 [5, 5, 5] 27 3 rfl (by simp)
  have hal := (Below.refl w1.heap.size w1).alloc (Nat.le_refl _) (.cells ([5, 5, 5].map (Value.int .u64)).toArray 27)
  refine (equal_yes [5, 5, 5] _ _ _ (O1.out.below hal) hL).mono ?_
  rintro e w2 ⟨rfl, hb2⟩
  have hs1 := B1.out.size
  have B2 := Lib.hid (B1.out.trans ((hal.trans (hb2.mono (by simp))).mono hs1))
  have hsz2 := B2.out.size
  have X2 := Lib.hid (X.out.below B2.out)
  have P2 := Lib.hid (P.out.below B2.out)
  clear hL hal hb2 X P O1 B1 hs1
  go_wp2_with fail
  refine (short_z zs 20 20 _ _ X2.out (by omega) rfl).mono ?_
  rintro e w3 ⟨⟨v0, rfl, hr⟩, rfl⟩
  rw [← HD.out] at hr
  have D2 := Lib.hid hr
  obtain ⟨da, dc, db, do', rfl, hdc, hdm, hdx, hdcells⟩ := hr.opened
  have DC2 := Lib.hid hdcells
  clear hr X2 hdcells HD
  rw [HK.out] at hdc hdx ⊢
  obtain rfl := hdx.resolve_left (by omega)
  go_wp2_with fail
  refine (CE.out _ _ (by rw [← HK.out]; exact D2.out)).mono ?_
  rintro e w3 ⟨v3, rfl, hown, hbel⟩
  have D_3 := Lib.hid (D2.out.below hbel)
  have P_3 := Lib.hid (P2.out.below hbel)
  have A_3 := Lib.hid (hown.mono hsz2)
  have B3 := Lib.hid (B2.out.trans (hbel.mono hsz2))
  have hsz3 := B3.out.size
  clear D2 P2 hown hbel
  obtain ⟨ga, ca, rfl, hca, hcam⟩ := A_3.out.opened (by rw [LAL.out]; exact hn1)
  rw [LAL.out] at hca A_3 ⊢
  have AC := Lib.hid (show ∀ q, q < n → w3.cell? ⟨ga, q, none⟩ = some (.int .u64 (vl (evl l (pt q)))) from fun q hq => by
    have h := A_3.out
    rw [← LAL.out] at h
    rw [h.cell (by rw [LAL.out]; exact hq), CAL.out q hq])
  obtain ⟨pa, pc, pb, po, rfl, hpc, hpm, hpx, hpcell⟩ := P_3.out.opened
  have PC := Lib.hid hpcell
  clear hpcell
  have DK := Lib.hid (show Rd .u64 w3 (.slice (some ⟨db, do', none⟩) k dc) dz by rw [← HK.out]; exact D_3.out)
  have DCK := Lib.hid (show ∀ i, i < k → w3.cell? ⟨db, do' + i, none⟩ = some (.int .u64 (gd dz i)) from rd_cells DK.out)
  clear CE CAL DC2 A_3 D_3
  go_wp2_with (refine wl_make_int _ rfl (.tmp 57) (.tmp 57) rfl w3.heap.size _ _ n w3 rfl rfl rfl rfl (by omega) (Below.refl _ _) (Nat.le_refl _) ?_)
  intro gl w5 _ hown1 hbel1
  rw [I0.out] at hown1
  have O5 := Lib.hid hown1
  have B5 := Lib.hid hbel1
  clear hown1 hbel1
  go_wp2
  go_loopw [15, 61] (fun _ i wr => ∃ m : Nat, m ≤ n ∧ i = .int .i64 m ∧ Oz .i64 3 w3.heap.size wr (.slice (some ⟨gl, 0, none⟩) n n) (iot n m) ∧ Below w3.heap.size w3 wr) (fun _ i _ => n - (intOf i).toNat)
  case atStart => exact ⟨0, by omega, rfl, O5.out, B5.out⟩
  case round =>
    obtain ⟨m, hm1, rfl, ho, hbel⟩ := hrel
    have OO := Lib.hid ho
    have HB := Lib.hid hbel
    have hwsz := hbel.size
    have hgl := ho.base.1
    clear ho hbel
    by_cases hml : m < n
    · have ILm := Lib.hid (IL.out m)
      have ISm := Lib.hid (IS.out m hml)
      go_wp2_with (refine wl_storeI .i64 3 _ rfl (.tmp 67) (.tmp 66) (fun _ => rfl) rfl w3.heap.size gl m n n (iot n m) (m : Int) rfl rfl OO.out ILm.out hml ?_)
      intro w6 hown6 ho6 hs6
      try rw [ISm.out] at hown6
      have O6 := Lib.hid hown6
      have B6 := Lib.hid (HB.out.trans (ho6.below (by omega) (fun gg e => by omega)))
      clear hown6 ho6
      go_wp2
      go_roundw
      case rel => exact ⟨m + 1, by omega, by go_num, O6.out, B6.out⟩
      case measure => simp [intOf] <;> omega
    · obtain rfl : n = m := by omega
      rw [IF.out] at OO
      clear O5 B5 IS I0 IL IF
      go_wp2
      go_loopw [14, 16, 17, 18, 73] (fun lv sv _ _ i wr => SnRel w3 l n gl M lv sv i wr) (fun _ _ _ _ i _ => M - (intOf i).toNat)
      case atStart => exact ⟨0, [], zi (List.range n), by omega, rfl, Pick.start n, rfl, rfl, OO.out, by rw [syz_nil]; exact Os.nil _ _, HB.out⟩
      case round =>
        clear OO HB
        obtain ⟨m, az, lf, hm, rfl, hPI, hal, rfl, hlf, hsh, hbel⟩ := hrel
        have OLF := Lib.hid hlf
        have OSH := Lib.hid hsh
        have HB := Lib.hid hbel
        have hwsz := hbel.size
        have LLF := Lib.hid (show lf.length = n - m by have := hPI.2.2; omega)
        have APX := Lib.hid (show Ap u16 (.slice (some ⟨gl, 0, none⟩) (n - m) n) from .inr (fun e => sh_ne hsh hlf gl (by rw [← e]; rfl) rfl))
        have hgl2 := hlf.base.1
        have hgl3 := hlf.base.2
        clear hlf hsh hbel
        by_cases hml : m < M
        · have hnm : 1 ≤ n - m := by omega
          by_cases hps : m < ps.length
          · obtain rfl := hpx.resolve_left (by omega)
            have cp : wr.cell? ⟨pb, po + m, none⟩ = some (.int .i64 (gd ps m)) := cell_below HB.out (PC.out m hps)
            obtain ⟨b1, b2⟩ := WP.out m hps
            obtain ⟨p, hp⟩ : ∃ p : Nat, gd ps m % ((n - m : Nat) : Int) = (p : Int) := ⟨(gd ps m % ((n - m : Nat) : Int)).toNat, by
              have := Int.emod_nonneg (gd ps m) (show ((n - m : Nat) : Int) ≠ 0 by omega)
              omega⟩
            have hpl' : p < n - m := by
              have := Int.emod_lt_of_pos (gd ps m) (show (0 : Int) < ((n - m : Nat) : Int) by omega)
              omega
            have hpl : p < lf.length := by rw [LLF.out]; exact hpl'
            go_wp2_with fail
            refine (rest_any (gd ps m) ((n - m : Nat) : Int) _ b1 b2 (by omega) (by omega)).mono ?_
            rintro e w' ⟨rfl, rfl⟩
            rw [hp]
            clear hp cp b1 b2
            have hgp := hPI.at hpl
            have hmn : n - m ≤ n := Nat.sub_le _ _
            obtain ⟨q, hq⟩ : ∃ q : Nat, gd lf p = (q : Int) := ⟨(gd lf p).toNat, by omega⟩
            have hqn : q < n := by omega
            have hqt : (gd lf p).toNat = q := by omega
            have c1 : wr.cell? ⟨gl, p, none⟩ = some (.int .i64 (q : Int)) := by rw [← hq]; exact OLF.out.cell (by rw [LLF.out]; exact hpl')
            have c2 : wr.cell? ⟨ga, q, none⟩ = some (.int .u64 (vl (evl l (pt q)))) := cell_below HB.out (AC.out q hqn)
            have TS := Lib.hid (show syz l az ++ [vl (evl l (pt q))] = syz l (az ++ [(q : Int)]) by rw [syz_snoc]; rfl)
            have PN := Lib.hid (show Pick n (az ++ [(q : Int)]) (lf.take p ++ lf.drop (p + 1)) by rw [← hq]; exact hPI.step hpl)
            have LAZ := Lib.hid (show az.length ≤ 1000000 by omega)
            have NE := Lib.hid (sh_ne OSH.out OLF.out)
            have FGL := Lib.hid (show some gl ≠ u16.ownBlock from fun e => NE.out gl e.symm rfl)
            have FGA := Lib.hid (show some ga ≠ u16.ownBlock from fun e => by have := (OSH.out.lt ga e.symm).1; have h9 := World.block_lt_of_cell? _ _ (AC.out q hqn); simp only at h9; omega)
            have hga3 : ga < wr.heap.size := by have h9 := World.block_lt_of_cell? _ _ c2; exact h9
            clear hq hgp hqt
            generalize vl (evl l (pt q)) = sv at *
            have e8 : IntKind.i64.wrap ((p : Int) + 1) = (p : Int) + 1 := IntWalk.i64_in _ (by omega)
            go_wp2
            go_region_held3 (fun w' => w'.cell? ⟨gl, p, none⟩ = some (.int .i64 (q : Int)) ∧ w'.cell? ⟨ga, q, none⟩ = some (.int .u64 sv))
              (first | go_keep | (go_split_ands; refine ⟨?_, ?_⟩; (rw [G1.cell_far _ (by simp <;> omega) FGL.out]; assumption); (rw [G1.cell_far _ (by simp <;> omega) FGA.out]; assumption)))
              (first | (refine st_app_share _ (by rfl) (.tmp 87) (.tmp 100) (by rfl) w3.heap.size u16 az (syz l az) (q : Int) sv w3 _ (by rfl) (by rfl) (OSH.out.below (by repeat (first | exact Below.refl _ _ | refine Below.drew ?_ | refine Below.alloc ?_ (by first | exact Nat.le_refl _ | (simp; done) | (simp; omega)) _))) (by first | exact heap_alloc_new _ _ | exact sh2 _ _ _ | exact sh1 _ _ _) (by repeat (first | exact HB.out | refine Below.drew ?_ | refine Below.alloc ?_ (by first | omega | (simp; omega)) _)) (by simp; omega) LAZ.out ?_; intro v1 w1 O1 B1 G1 A1; have hs1 := B1.size; have OL1 := Oz.kept (OLF.out.below (by repeat (first | exact Below.refl _ _ | refine Below.drew ?_ | refine Below.alloc ?_ (by first | exact Nat.le_refl _ | (simp; done) | (simp; omega)) _))) G1 APX.out))
            all_goals
              (rw [TS.out] at O1
               have O1h := Lib.hid O1
               have B1h := Lib.hid B1
               have OL1h := Lib.hid OL1
               clear c1 c2 O1 B1 OL1 G1 A1
               go_wp2_with fail
               refine (delete_own w3.heap.size gl (n - m) n p lf _ OL1h.out LLF.out hpl' (by omega) (p : Int) rfl).mono ?_
               rintro e w9 ⟨rfl, hd1, hd2⟩
               have NE2 := Lib.hid (sh_ne O1h.out OL1h.out)
               have OD := Lib.hid hd1
               have OS9 := Lib.hid (O1h.out.only hd2 NE2.out)
               have B9 := Lib.hid (B1h.out.trans (hd2.below B1h.out.size (fun gg e => by omega)))
               clear hd1 hd2 OL1h O1h B1h NE2
               rw [show n - m - 1 = n - (m + 1) by omega] at OD ⊢
               go_wp2
               go_roundw
               case rel => exact ⟨m + 1, az ++ [(q : Int)], lf.take p ++ lf.drop (p + 1), by omega, by go_num, PN.out, by rw [List.length_append, hal]; rfl, rfl, OD.out, OS9.out, B9.out⟩
               case measure => simp [intOf] <;> omega)
          · have hpl' : 0 < n - m := by omega
            have hpl : 0 < lf.length := by rw [LLF.out]; exact hpl'
            have hgp := hPI.at (i := 0) hpl
            have hmn : n - m ≤ n := Nat.sub_le _ _
            obtain ⟨q, hq⟩ : ∃ q : Nat, gd lf 0 = (q : Int) := ⟨(gd lf 0).toNat, by omega⟩
            have hqn : q < n := by omega
            have hqt : (gd lf 0).toNat = q := by omega
            have c1 : wr.cell? ⟨gl, 0, none⟩ = some (.int .i64 (q : Int)) := by rw [← hq]; exact OLF.out.cell (by rw [LLF.out]; exact hpl')
            have c2 : wr.cell? ⟨ga, q, none⟩ = some (.int .u64 (vl (evl l (pt q)))) := cell_below HB.out (AC.out q hqn)
            have TS := Lib.hid (show syz l az ++ [vl (evl l (pt q))] = syz l (az ++ [(q : Int)]) by rw [syz_snoc]; rfl)
            have PN := Lib.hid (show Pick n (az ++ [(q : Int)]) (lf.take 0 ++ lf.drop (0 + 1)) by rw [← hq]; exact hPI.step (i := 0) hpl)
            have LAZ := Lib.hid (show az.length ≤ 1000000 by omega)
            have NE := Lib.hid (sh_ne OSH.out OLF.out)
            have FGL := Lib.hid (show some gl ≠ u16.ownBlock from fun e => NE.out gl e.symm rfl)
            have FGA := Lib.hid (show some ga ≠ u16.ownBlock from fun e => by have := (OSH.out.lt ga e.symm).1; have h9 := World.block_lt_of_cell? _ _ (AC.out q hqn); simp only at h9; omega)
            have hga3 : ga < wr.heap.size := by have h9 := World.block_lt_of_cell? _ _ c2; exact h9
            clear hq hgp hqt
            generalize vl (evl l (pt q)) = sv at *
            go_wp2
            go_region_held3 (fun w' => w'.cell? ⟨gl, 0, none⟩ = some (.int .i64 (q : Int)) ∧ w'.cell? ⟨ga, q, none⟩ = some (.int .u64 sv))
              (first | go_keep | (go_split_ands; refine ⟨?_, ?_⟩; (rw [G1.cell_far _ (by simp <;> omega) FGL.out]; assumption); (rw [G1.cell_far _ (by simp <;> omega) FGA.out]; assumption)))
              (first | (refine st_app_share _ (by rfl) (.tmp 87) (.tmp 100) (by rfl) w3.heap.size u16 az (syz l az) (q : Int) sv w3 _ (by rfl) (by rfl) (OSH.out.below (by repeat (first | exact Below.refl _ _ | refine Below.drew ?_ | refine Below.alloc ?_ (by first | exact Nat.le_refl _ | (simp; done) | (simp; omega)) _))) (by first | exact heap_alloc_new _ _ | exact sh2 _ _ _ | exact sh1 _ _ _) (by repeat (first | exact HB.out | refine Below.drew ?_ | refine Below.alloc ?_ (by first | omega | (simp; omega)) _)) (by simp; omega) LAZ.out ?_; intro v1 w1 O1 B1 G1 A1; have hs1 := B1.size; have OL1 := Oz.kept (OLF.out.below (by repeat (first | exact Below.refl _ _ | refine Below.drew ?_ | refine Below.alloc ?_ (by first | exact Nat.le_refl _ | (simp; done) | (simp; omega)) _))) G1 APX.out))
            all_goals
              (rw [TS.out] at O1
               have O1h := Lib.hid O1
               have B1h := Lib.hid B1
               have OL1h := Lib.hid OL1
               clear c1 c2 O1 B1 OL1 G1 A1
               go_wp2_with fail
               refine (delete_own w3.heap.size gl (n - m) n 0 lf _ OL1h.out LLF.out hpl' (by omega) 0 rfl).mono ?_
               rintro e w9 ⟨rfl, hd1, hd2⟩
               have NE2 := Lib.hid (sh_ne O1h.out OL1h.out)
               have OD := Lib.hid hd1
               have OS9 := Lib.hid (O1h.out.only hd2 NE2.out)
               have B9 := Lib.hid (B1h.out.trans (hd2.below B1h.out.size (fun gg e => by omega)))
               clear hd1 hd2 OL1h O1h B1h NE2
               rw [show n - m - 1 = n - (m + 1) by omega] at OD ⊢
               go_wp2
               go_roundw
               case rel => exact ⟨m + 1, az ++ [(q : Int)], lf.take 0 ++ lf.drop (0 + 1), by omega, by go_num, PN.out, by rw [List.length_append, hal]; rfl, rfl, OD.out, OS9.out, B9.out⟩
               case measure => simp [intOf] <;> omega)
        · obtain rfl : M = m := by omega
          have FI := Lib.hid (hPI.fine hn2)
          obtain ⟨gs, cs, rfl, hcs, hcsm⟩ := OSH.out.opened (by rw [hal]; exact hM1)
          rw [hal] at OSH hcs ⊢
          have HAL2 := Lib.hid hal
          have hsz9 := hsz3
          have BEW := Lib.hid (B3.out.trans (HB.out.mono hsz3))
          have hszw := BEW.out.size
          have DC9 := Lib.hid (fun i (hi : i < k) => cell_below HB.out (DCK.out i hi))
          have hgs := OSH.out.lt gs rfl
          clear OLF APX LLF HB B3 DK DCK AC hal hPI hsz9 hgl3 hgl2
          obtain ⟨wo, hwo⟩ : ∃ wo : World, wo = wr := ⟨_, rfl⟩
          subst hwo
          go_wp2_with (refine wl_makeF _ rfl (.tmp 108) (.tmp 108) rfl wo.heap.size _ _ k wo rfl rfl rfl rfl (by omega) (Below.refl _ _) (Nat.le_refl _) ?_)
          intro gw w10 _ hown1 hbel1
          rw [W0.out] at hown1
          have O10 := Lib.hid hown1
          have B10 := Lib.hid hbel1
          clear hown1 hbel1
          go_wp2
          go_loopw [20, 21, 112] (fun _ _ i wr => ∃ m : Nat, m ≤ k ∧ i = .int .i64 m ∧ Ow wo.heap.size wr (.slice (some ⟨gw, 0, none⟩) k k) (wnL l m) ∧ Below wo.heap.size wo wr) (fun _ _ i _ => k - (intOf i).toNat)
          case atStart => exact ⟨0, by omega, rfl, O10.out, B10.out⟩
          case round =>
            obtain ⟨m, hm1, rfl, ho, hbel⟩ := hrel
            have OO := Lib.hid ho
            have HB := Lib.hid hbel
            have hwsz := hbel.size
            have hgw := ho.base.1
            clear ho hbel O10 B10
            by_cases hml : m < k
            · have cd : wr.cell? ⟨db, do' + m, none⟩ = some (.int .u64 (gd dz m)) := cell_below HB.out (DC9.out m hml)
              have hb1 := BD.out.get m
              have WSm := WS.out m hml
              rw [GX.out] at WSm
              have WSm := Lib.hid WSm
              have WLm := Lib.hid (WL.out m)
              generalize gd dz m = d at *
              go_wp2_with fail
              refine (norm_any d _ hb1.1 hb1.2).mono ?_
              rintro e w' ⟨rfl, rfl⟩
              go_wp2_with (refine wl_storeF _ rfl (.tmp 121) (.tmp 120) rfl wo.heap.size gw m k k (wnL l m) (toF d) rfl rfl OO.out WLm.out hml ?_)
              intro w6 hown6 ho6 hs6
              try rw [WSm.out] at hown6
              have O6 := Lib.hid hown6
              have B6 := Lib.hid (HB.out.trans (ho6.below hwsz (fun gg e => by omega)))
              clear hown6 ho6
              go_wp2
              go_roundw
              case rel => exact ⟨m + 1, by omega, by go_num, O6.out, B6.out⟩
              case measure => simp [intOf] <;> omega
            · obtain rfl : k = m := by omega
              rw [WF.out] at OO
              have S11 := Lib.hid (OSH.out.below HB.out)
              have B11 := Lib.hid (BEW.out.trans (HB.out.mono hszw))
              have hs11 := B11.out.size
              have hkc : k ≤ cs := by omega
              have FK := Lib.hid (fine_take FI.out k)
              have LK := Lib.hid (show (az.take k).length = k by rw [List.length_take, HAL2.out]; omega)
              have RT := Lib.hid (show Rs wr (.slice (some ⟨gs, 0, none⟩) k cs) (az.take k) (syz l (az.take k)) by rw [syz_take]; exact S11.out.rs.take hkM)
              have OW := Lib.hid (OO.out.mono (B' := w.heap.size) (by omega))
              clear OO HB OSH BEW WF W0 WS DC9
              go_wp2_with fail
              refine (rec_good l (az.take k) FK.out k hk1 (by omega) LL.out (by rw [LK.out]; exact Nat.le_refl _) _ _ RT.out).mono ?_
              rintro e w12 ⟨v12, rfl, hown, hbel⟩
              have G12 := Lib.hid (hown.mono hs11)
              have S12 := Lib.hid (S11.out.below hbel)
              have W12 := Lib.hid (OW.out.below hbel)
              have B12 := Lib.hid (B11.out.trans (hbel.mono hs11))
              have hs12 := B12.out.size
              clear hown hbel RT S11 OW B11 hs11
              go_wp2_with fail
              refine (rec_good l az FI.out k hk1 (by omega) LL.out (by rw [HAL2.out]; exact hkM) _ _ S12.out.rs).mono ?_
              rintro e w13 ⟨v13, rfl, hown, hbel⟩
              have H13 := Lib.hid (hown.mono hs12)
              have G13 := Lib.hid (G12.out.below hbel)
              have S13 := Lib.hid (S12.out.below hbel)
              have W13 := Lib.hid (W12.out.below hbel)
              have B13 := Lib.hid (B12.out.trans (hbel.mono hs12))
              have hs13 := B13.out.size
              clear hown hbel G12 S12 W12 B12 hs12
              go_wp2_with fail
              refine (equal_yes (l.map vl) _ _ _ G13.out.rd W13.out.rd).mono ?_
              rintro e w14 ⟨rfl, hbel⟩
              have H14 := Lib.hid (H13.out.below hbel)
              have S14 := Lib.hid (S13.out.below hbel)
              have W14 := Lib.hid (W13.out.below hbel)
              have B14 := Lib.hid (B13.out.trans (hbel.mono hs13))
              have hs14 := B14.out.size
              clear hbel G13 H13 S13 W13 B13 hs13
              go_wp2_with fail
              refine (equal_yes (l.map vl) _ _ _ H14.out.rd W14.out.rd).mono ?_
              rintro e w15 ⟨rfl, hbel⟩
              have S15 := Lib.hid (S14.out.below hbel)
              have B15 := Lib.hid (B14.out.trans (hbel.mono hs14))
              have hs15 := B15.out.size
              clear hbel H14 S14 W14 B14 hs14
              have gt : (k : Int) < (M : Int) := by have := HMM.out; omega
              have gt2 : k < M := by have := HMM.out; omega
              go_wp2_with fail
              refine (norm_any y _ y0 y1).mono ?_
              rintro e w' ⟨rfl, rfl⟩
              by_cases hy : toF y = 0
              · rw [hy, vl_zero]
                go_wp2
                go_ret
                exact ⟨rfl, B15.out⟩
              · have hvy : ¬ vl (toF y) = 0 := fun e => hy (by apply vl_inj; rw [e, vl_zero])
                have hv2 : (vl (toF y) != 0) = true := by simpa using hvy
                have hv3 : decide (vl (toF y) = 0) = false := decide_eq_false hvy
                have GS0 := Lib.hid (gd_syz l az (i := 0) (by rw [HAL2.out]; exact hM1))
                have cs1 : w15.cell? ⟨gs, 1, none⟩ = some (.int .u64 (vl (evl l (pt (gd az 0).toNat)))) := by
                  obtain ⟨h0, a', cap', b', off', e1, h1, h2, h3, hx⟩ := S15.out.rs
                  injection e1 with e1 e2 e3
                  rcases h3 with h3 | h3
                  · rw [HAL2.out] at h3; omega
                  · rw [h3] at e1
                    injection e1 with e1
                    injection e1 with e4 e5
                    subst e4 e5
                    have := (hx 0 (by rw [HAL2.out]; exact hM1)).2
                    rw [GS0.out] at this
                    exact this
                have fr1 : w15.frozen? ⟨gs, 1, none⟩ = false := by
                  have h := S15.out.2
                  rw [HAL2.out] at h
                  exact World.ownsRow.frozenAt h 1
                have HY := Lib.hid hy
                have ADD := Lib.hid (add_Fx (evl l (pt (gd az 0).toNat)) y w15 y0 y1)
                obtain ⟨t0, ht0⟩ : ∃ t, t = evl l (pt (gd az 0).toNat) := ⟨_, rfl⟩
                have HT0 := Lib.hid ht0
                rw [← ht0] at cs1 ADD
                clear ht0 hy hvy
                generalize vl (toF y) = vy at *
                go_wp2_with fail
                refine ADD.out.mono ?_
                rintro e w' ⟨rfl, rfl⟩
                have S16 := Lib.hid (S15.out.set0 (by rw [HAL2.out]; exact hM1) (vl (t0 + toF y)))
                have B16 := Lib.hid (B15.out.setCell (p := ⟨gs, 1, none⟩) (by show w.heap.size ≤ gs; omega) (.int .u64 (vl (t0 + toF y))))
                have hs16 := B16.out.size
                rw [HT0.out] at S16
                have CR := Lib.hid (fun v w h => rec_wrong l az FI.out k hk1 (by omega) LL.out (by rw [HAL2.out]; exact HMM.out) (toF y) HY.out v w h)
                have CF := Lib.hid (fun v w h => fits_wrong l az FI.out k hk1 (by omega) LL.out (by rw [HAL2.out]; exact HMM.out) (toF y) HY.out v w h)
                rw [← HT0.out] at CR CF S16
                generalize t0 + toF y = t1 at *
                clear S15 B15 hs15 GS0 ADD
                go_wp2_with fail
                refine (CR.out _ _ S16.out.rs).mono ?_
                rintro e w17 ⟨v17, rfl, hown, hbel⟩
                have S17 := Lib.hid (S16.out.below hbel)
                have B17 := Lib.hid (B16.out.trans (hbel.mono hs16))
                have hs17 := B17.out.size
                clear hown hbel S16 B16
                go_wp2_with fail
                refine (CF.out _ _ S17.out.rs).mono ?_
                rintro e w18 ⟨rfl, hbel⟩
                have B18 := Lib.hid (B17.out.trans (hbel.mono hs17))
                clear hbel S17 B17
                go_wp2
                go_ret
                exact ⟨rfl, B18.out⟩
set_option maxHeartbeats 8000000 in
set_option maxRecDepth 100000 in
theorem sn_okb (zs ps : List Int) (z y : Int) (v v2 : Value) (w : World) (h : Rd .u64 w v zs) (h2 : Rd .i64 w v2 ps) (hx : B64 zs) (hwp : W64 ps) (y0 : 0 ≤ y) (y1 : y < 18446744073709551616) (n : Nat) (hz : z = n) (hk1 : 1 ≤ (zs.take 20).length) (hn1 : 1 ≤ n) (hn2 : n ≤ 64) (hkn : (zs.take 20).length ≤ n) (hM : n ≤ (zs.take 20).length) :
    Calls Try.prog 9 #[v, .int .i64 z, v2, .int .u64 y] w (RetV w (.bool true)) := by
  obtain ⟨dz, hdz⟩ : ∃ dz, dz = zs.take 20 := ⟨_, rfl⟩
  have HD := Lib.hid hdz
  have hd20 : dz.length ≤ 20 := by rw [hdz, List.length_take]; omega
  have X := Lib.hid h
  have P := Lib.hid h2
  rw [← hdz] at hk1 hkn hM
  subst hz
  have bdz : B64 dz := by rw [hdz]; exact hx.take 20
  obtain ⟨l, hl⟩ : ∃ l, l = dz.map toF := ⟨_, rfl⟩
  have ll : l.length = dz.length := by rw [hl, List.length_map]
  have GX := Lib.hid (show ∀ i, cf l i = toF (gd dz i) from fun i => by rw [hl, cf_map])
  have CE := Lib.hid (fun w v h => encode_any dz v n (n : Int) w h bdz hk1 hn1 hn2 hkn rfl)
  rw [← hl] at CE
  obtain ⟨AL, hAL⟩ : ∃ a, a = syms l n := ⟨_, rfl⟩
  rw [← hAL] at CE
  have LAL := Lib.hid (show AL.length = n by rw [hAL, syms_len])
  have CAL := Lib.hid (show ∀ q, q < n → cf AL q = evl l (pt q) from fun q hq => by rw [hAL]; unfold syms; exact cf_ofFn _ hq)
  obtain ⟨k, hk⟩ : ∃ k, k = dz.length := ⟨_, rfl⟩
  have LL := Lib.hid (show l.length = k by rw [ll, hk])
  rw [← hk] at hd20 hk1 hkn hM
  have HK := Lib.hid hk.symm
  have BD := Lib.hid bdz
  have hM1 : 1 ≤ n := by omega
  have hMn : n ≤ n := by omega
  have hkM : k ≤ n := by omega
  obtain ⟨k1, hk1'⟩ : ∃ k1, k1 = k + 1 := ⟨_, rfl⟩
  have e7 : IntKind.i64.wrap ((k : Int) + 1) = (k1 : Int) := by rw [show (k : Int) + 1 = (k1 : Int) by omega]; exact wrap_nat (by omega)
  have hlt7 : n < k1 := by omega
  clear hk1'
  have WP := Lib.hid (show ∀ i, i < ps.length → -9223372036854775808 ≤ gd ps i ∧ gd ps i ≤ 9223372036854775807 from fun i hi => hwp.get hi)
  have I0 := Lib.hid (iot_zero n).symm
  have IS := Lib.hid (fun m (hm : m < n) => iot_step n hm)
  have IL := Lib.hid (fun m => iot_len n m)
  have IF := Lib.hid (iot_full n)
  have W0 := Lib.hid (show List.replicate k 0 = wnL l 0 by rw [wnL_zero, LL.out])
  have WS := Lib.hid (fun m (hm : m < k) => wnL_step l (m := m) (by rw [LL.out]; exact hm))
  have WL := Lib.hid (fun m => show (wnL l m).length = k by rw [wnL_len, LL.out])
  have WF := Lib.hid (show wnL l k = l by rw [← LL.out, wnL_full])
  clear h h2 hdz hx hwp hl ll hAL hk bdz
  have lit1 : Rd .u64 (w.alloc (.cells #[.int .u64 5, .int .u64 0] 27)) (.slice (some ⟨w.heap.size, 0, none⟩) 2 2) [5, 0] := Rd.lit .u64 w [5, 0] 27 2 rfl (by simp)
  have hal := (Below.refl w.heap.size w).alloc (Nat.le_refl _) (.cells #[.int .u64 5, .int .u64 0] 27)
  have CL := Lib.hid (encode_any [5, 0] _ 3 3 _ lit1 (by intro z hz; simp at hz; omega) (by decide) (by omega) (by omega) (by decide) rfl)
  have HAL := Lib.hid hal
  clear hal lit1
  go_enter Try.func9, Try.ntmps9
  go_wp2_with fail
  refine CL.out.mono ?_
  rintro e w1 ⟨v1, rfl, ho, hb⟩
  have O1 := ho.rd
  rw [syms_lit] at O1
  have O1 := Lib.hid O1
  have B1 := Lib.hid (HAL.out.trans (hb.mono HAL.out.size))
  clear ho hb CL HAL
  go_wp2_with fail
  have hL := Rd.lit .u64 w1 [5, 5, 5] 27 3 rfl (by simp)
  have hal := (Below.refl w1.heap.size w1).alloc (Nat.le_refl _) (.cells ([5, 5, 5].map (Value.int .u64)).toArray 27)
  refine (equal_yes [5, 5, 5] _ _ _ (O1.out.below hal) hL).mono ?_
  rintro e w2 ⟨rfl, hb2⟩
  have hs1 := B1.out.size
  have B2 := Lib.hid (B1.out.trans ((hal.trans (hb2.mono (by simp))).mono hs1))
  have hsz2 := B2.out.size
  have X2 := Lib.hid (X.out.below B2.out)
  have P2 := Lib.hid (P.out.below B2.out)
  clear hL hal hb2 X P O1 B1 hs1
  go_wp2_with fail
  refine (short_z zs 20 20 _ _ X2.out (by omega) rfl).mono ?_
  rintro e w3 ⟨⟨v0, rfl, hr⟩, rfl⟩
  rw [← HD.out] at hr
  have D2 := Lib.hid hr
  obtain ⟨da, dc, db, do', rfl, hdc, hdm, hdx, hdcells⟩ := hr.opened
  have DC2 := Lib.hid hdcells
  clear hr X2 hdcells HD
  rw [HK.out] at hdc hdx ⊢
  obtain rfl := hdx.resolve_left (by omega)
  go_wp2_with fail
  refine (CE.out _ _ (by rw [← HK.out]; exact D2.out)).mono ?_
  rintro e w3 ⟨v3, rfl, hown, hbel⟩
  have D_3 := Lib.hid (D2.out.below hbel)
  have P_3 := Lib.hid (P2.out.below hbel)
  have A_3 := Lib.hid (hown.mono hsz2)
  have B3 := Lib.hid (B2.out.trans (hbel.mono hsz2))
  have hsz3 := B3.out.size
  clear D2 P2 hown hbel
  obtain ⟨ga, ca, rfl, hca, hcam⟩ := A_3.out.opened (by rw [LAL.out]; exact hn1)
  rw [LAL.out] at hca A_3 ⊢
  have AC := Lib.hid (show ∀ q, q < n → w3.cell? ⟨ga, q, none⟩ = some (.int .u64 (vl (evl l (pt q)))) from fun q hq => by
    have h := A_3.out
    rw [← LAL.out] at h
    rw [h.cell (by rw [LAL.out]; exact hq), CAL.out q hq])
  obtain ⟨pa, pc, pb, po, rfl, hpc, hpm, hpx, hpcell⟩ := P_3.out.opened
  have PC := Lib.hid hpcell
  clear hpcell
  have DK := Lib.hid (show Rd .u64 w3 (.slice (some ⟨db, do', none⟩) k dc) dz by rw [← HK.out]; exact D_3.out)
  have DCK := Lib.hid (show ∀ i, i < k → w3.cell? ⟨db, do' + i, none⟩ = some (.int .u64 (gd dz i)) from rd_cells DK.out)
  clear CE CAL DC2 A_3 D_3
  go_wp2_with (refine wl_make_int _ rfl (.tmp 57) (.tmp 57) rfl w3.heap.size _ _ n w3 rfl rfl rfl rfl (by omega) (Below.refl _ _) (Nat.le_refl _) ?_)
  intro gl w5 _ hown1 hbel1
  rw [I0.out] at hown1
  have O5 := Lib.hid hown1
  have B5 := Lib.hid hbel1
  clear hown1 hbel1
  go_wp2
  go_loopw [15, 61] (fun _ i wr => ∃ m : Nat, m ≤ n ∧ i = .int .i64 m ∧ Oz .i64 3 w3.heap.size wr (.slice (some ⟨gl, 0, none⟩) n n) (iot n m) ∧ Below w3.heap.size w3 wr) (fun _ i _ => n - (intOf i).toNat)
  case atStart => exact ⟨0, by omega, rfl, O5.out, B5.out⟩
  case round =>
    obtain ⟨m, hm1, rfl, ho, hbel⟩ := hrel
    have OO := Lib.hid ho
    have HB := Lib.hid hbel
    have hwsz := hbel.size
    have hgl := ho.base.1
    clear ho hbel
    by_cases hml : m < n
    · have ILm := Lib.hid (IL.out m)
      have ISm := Lib.hid (IS.out m hml)
      go_wp2_with (refine wl_storeI .i64 3 _ rfl (.tmp 67) (.tmp 66) (fun _ => rfl) rfl w3.heap.size gl m n n (iot n m) (m : Int) rfl rfl OO.out ILm.out hml ?_)
      intro w6 hown6 ho6 hs6
      try rw [ISm.out] at hown6
      have O6 := Lib.hid hown6
      have B6 := Lib.hid (HB.out.trans (ho6.below (by omega) (fun gg e => by omega)))
      clear hown6 ho6
      go_wp2
      go_roundw
      case rel => exact ⟨m + 1, by omega, by go_num, O6.out, B6.out⟩
      case measure => simp [intOf] <;> omega
    · obtain rfl : n = m := by omega
      rw [IF.out] at OO
      clear O5 B5 IS I0 IL IF
      go_wp2
      go_loopw [14, 16, 17, 18, 73] (fun lv sv _ _ i wr => SnRel w3 l n gl n lv sv i wr) (fun _ _ _ _ i _ => n - (intOf i).toNat)
      case atStart => exact ⟨0, [], zi (List.range n), by omega, rfl, Pick.start n, rfl, rfl, OO.out, by rw [syz_nil]; exact Os.nil _ _, HB.out⟩
      case round =>
        clear OO HB
        obtain ⟨m, az, lf, hm, rfl, hPI, hal, rfl, hlf, hsh, hbel⟩ := hrel
        have OLF := Lib.hid hlf
        have OSH := Lib.hid hsh
        have HB := Lib.hid hbel
        have hwsz := hbel.size
        have LLF := Lib.hid (show lf.length = n - m by have := hPI.2.2; omega)
        have APX := Lib.hid (show Ap u16 (.slice (some ⟨gl, 0, none⟩) (n - m) n) from .inr (fun e => sh_ne hsh hlf gl (by rw [← e]; rfl) rfl))
        have hgl2 := hlf.base.1
        have hgl3 := hlf.base.2
        clear hlf hsh hbel
        by_cases hml : m < n
        · have hnm : 1 ≤ n - m := by omega
          by_cases hps : m < ps.length
          · obtain rfl := hpx.resolve_left (by omega)
            have cp : wr.cell? ⟨pb, po + m, none⟩ = some (.int .i64 (gd ps m)) := cell_below HB.out (PC.out m hps)
            obtain ⟨b1, b2⟩ := WP.out m hps
            obtain ⟨p, hp⟩ : ∃ p : Nat, gd ps m % ((n - m : Nat) : Int) = (p : Int) := ⟨(gd ps m % ((n - m : Nat) : Int)).toNat, by
              have := Int.emod_nonneg (gd ps m) (show ((n - m : Nat) : Int) ≠ 0 by omega)
              omega⟩
            have hpl' : p < n - m := by
              have := Int.emod_lt_of_pos (gd ps m) (show (0 : Int) < ((n - m : Nat) : Int) by omega)
              omega
            have hpl : p < lf.length := by rw [LLF.out]; exact hpl'
            go_wp2_with fail
            refine (rest_any (gd ps m) ((n - m : Nat) : Int) _ b1 b2 (by omega) (by omega)).mono ?_
            rintro e w' ⟨rfl, rfl⟩
            rw [hp]
            clear hp cp b1 b2
            have hgp := hPI.at hpl
            have hmn : n - m ≤ n := Nat.sub_le _ _
            obtain ⟨q, hq⟩ : ∃ q : Nat, gd lf p = (q : Int) := ⟨(gd lf p).toNat, by omega⟩
            have hqn : q < n := by omega
            have hqt : (gd lf p).toNat = q := by omega
            have c1 : wr.cell? ⟨gl, p, none⟩ = some (.int .i64 (q : Int)) := by rw [← hq]; exact OLF.out.cell (by rw [LLF.out]; exact hpl')
            have c2 : wr.cell? ⟨ga, q, none⟩ = some (.int .u64 (vl (evl l (pt q)))) := cell_below HB.out (AC.out q hqn)
            have TS := Lib.hid (show syz l az ++ [vl (evl l (pt q))] = syz l (az ++ [(q : Int)]) by rw [syz_snoc]; rfl)
            have PN := Lib.hid (show Pick n (az ++ [(q : Int)]) (lf.take p ++ lf.drop (p + 1)) by rw [← hq]; exact hPI.step hpl)
            have LAZ := Lib.hid (show az.length ≤ 1000000 by omega)
            have NE := Lib.hid (sh_ne OSH.out OLF.out)
            have FGL := Lib.hid (show some gl ≠ u16.ownBlock from fun e => NE.out gl e.symm rfl)
            have FGA := Lib.hid (show some ga ≠ u16.ownBlock from fun e => by have := (OSH.out.lt ga e.symm).1; have h9 := World.block_lt_of_cell? _ _ (AC.out q hqn); simp only at h9; omega)
            have hga3 : ga < wr.heap.size := by have h9 := World.block_lt_of_cell? _ _ c2; exact h9
            clear hq hgp hqt
            generalize vl (evl l (pt q)) = sv at *
            have e8 : IntKind.i64.wrap ((p : Int) + 1) = (p : Int) + 1 := IntWalk.i64_in _ (by omega)
            go_wp2
            go_region_held3 (fun w' => w'.cell? ⟨gl, p, none⟩ = some (.int .i64 (q : Int)) ∧ w'.cell? ⟨ga, q, none⟩ = some (.int .u64 sv))
              (first | go_keep | (go_split_ands; refine ⟨?_, ?_⟩; (rw [G1.cell_far _ (by simp <;> omega) FGL.out]; assumption); (rw [G1.cell_far _ (by simp <;> omega) FGA.out]; assumption)))
              (first | (refine st_app_share _ (by rfl) (.tmp 87) (.tmp 100) (by rfl) w3.heap.size u16 az (syz l az) (q : Int) sv w3 _ (by rfl) (by rfl) (OSH.out.below (by repeat (first | exact Below.refl _ _ | refine Below.drew ?_ | refine Below.alloc ?_ (by first | exact Nat.le_refl _ | (simp; done) | (simp; omega)) _))) (by first | exact heap_alloc_new _ _ | exact sh2 _ _ _ | exact sh1 _ _ _) (by repeat (first | exact HB.out | refine Below.drew ?_ | refine Below.alloc ?_ (by first | omega | (simp; omega)) _)) (by simp; omega) LAZ.out ?_; intro v1 w1 O1 B1 G1 A1; have hs1 := B1.size; have OL1 := Oz.kept (OLF.out.below (by repeat (first | exact Below.refl _ _ | refine Below.drew ?_ | refine Below.alloc ?_ (by first | exact Nat.le_refl _ | (simp; done) | (simp; omega)) _))) G1 APX.out))
            all_goals
              (rw [TS.out] at O1
               have O1h := Lib.hid O1
               have B1h := Lib.hid B1
               have OL1h := Lib.hid OL1
               clear c1 c2 O1 B1 OL1 G1 A1
               go_wp2_with fail
               refine (delete_own w3.heap.size gl (n - m) n p lf _ OL1h.out LLF.out hpl' (by omega) (p : Int) rfl).mono ?_
               rintro e w9 ⟨rfl, hd1, hd2⟩
               have NE2 := Lib.hid (sh_ne O1h.out OL1h.out)
               have OD := Lib.hid hd1
               have OS9 := Lib.hid (O1h.out.only hd2 NE2.out)
               have B9 := Lib.hid (B1h.out.trans (hd2.below B1h.out.size (fun gg e => by omega)))
               clear hd1 hd2 OL1h O1h B1h NE2
               rw [show n - m - 1 = n - (m + 1) by omega] at OD ⊢
               go_wp2
               go_roundw
               case rel => exact ⟨m + 1, az ++ [(q : Int)], lf.take p ++ lf.drop (p + 1), by omega, by go_num, PN.out, by rw [List.length_append, hal]; rfl, rfl, OD.out, OS9.out, B9.out⟩
               case measure => simp [intOf] <;> omega)
          · have hpl' : 0 < n - m := by omega
            have hpl : 0 < lf.length := by rw [LLF.out]; exact hpl'
            have hgp := hPI.at (i := 0) hpl
            have hmn : n - m ≤ n := Nat.sub_le _ _
            obtain ⟨q, hq⟩ : ∃ q : Nat, gd lf 0 = (q : Int) := ⟨(gd lf 0).toNat, by omega⟩
            have hqn : q < n := by omega
            have hqt : (gd lf 0).toNat = q := by omega
            have c1 : wr.cell? ⟨gl, 0, none⟩ = some (.int .i64 (q : Int)) := by rw [← hq]; exact OLF.out.cell (by rw [LLF.out]; exact hpl')
            have c2 : wr.cell? ⟨ga, q, none⟩ = some (.int .u64 (vl (evl l (pt q)))) := cell_below HB.out (AC.out q hqn)
            have TS := Lib.hid (show syz l az ++ [vl (evl l (pt q))] = syz l (az ++ [(q : Int)]) by rw [syz_snoc]; rfl)
            have PN := Lib.hid (show Pick n (az ++ [(q : Int)]) (lf.take 0 ++ lf.drop (0 + 1)) by rw [← hq]; exact hPI.step (i := 0) hpl)
            have LAZ := Lib.hid (show az.length ≤ 1000000 by omega)
            have NE := Lib.hid (sh_ne OSH.out OLF.out)
            have FGL := Lib.hid (show some gl ≠ u16.ownBlock from fun e => NE.out gl e.symm rfl)
            have FGA := Lib.hid (show some ga ≠ u16.ownBlock from fun e => by have := (OSH.out.lt ga e.symm).1; have h9 := World.block_lt_of_cell? _ _ (AC.out q hqn); simp only at h9; omega)
            have hga3 : ga < wr.heap.size := by have h9 := World.block_lt_of_cell? _ _ c2; exact h9
            clear hq hgp hqt
            generalize vl (evl l (pt q)) = sv at *
            go_wp2
            go_region_held3 (fun w' => w'.cell? ⟨gl, 0, none⟩ = some (.int .i64 (q : Int)) ∧ w'.cell? ⟨ga, q, none⟩ = some (.int .u64 sv))
              (first | go_keep | (go_split_ands; refine ⟨?_, ?_⟩; (rw [G1.cell_far _ (by simp <;> omega) FGL.out]; assumption); (rw [G1.cell_far _ (by simp <;> omega) FGA.out]; assumption)))
              (first | (refine st_app_share _ (by rfl) (.tmp 87) (.tmp 100) (by rfl) w3.heap.size u16 az (syz l az) (q : Int) sv w3 _ (by rfl) (by rfl) (OSH.out.below (by repeat (first | exact Below.refl _ _ | refine Below.drew ?_ | refine Below.alloc ?_ (by first | exact Nat.le_refl _ | (simp; done) | (simp; omega)) _))) (by first | exact heap_alloc_new _ _ | exact sh2 _ _ _ | exact sh1 _ _ _) (by repeat (first | exact HB.out | refine Below.drew ?_ | refine Below.alloc ?_ (by first | omega | (simp; omega)) _)) (by simp; omega) LAZ.out ?_; intro v1 w1 O1 B1 G1 A1; have hs1 := B1.size; have OL1 := Oz.kept (OLF.out.below (by repeat (first | exact Below.refl _ _ | refine Below.drew ?_ | refine Below.alloc ?_ (by first | exact Nat.le_refl _ | (simp; done) | (simp; omega)) _))) G1 APX.out))
            all_goals
              (rw [TS.out] at O1
               have O1h := Lib.hid O1
               have B1h := Lib.hid B1
               have OL1h := Lib.hid OL1
               clear c1 c2 O1 B1 OL1 G1 A1
               go_wp2_with fail
               refine (delete_own w3.heap.size gl (n - m) n 0 lf _ OL1h.out LLF.out hpl' (by omega) 0 rfl).mono ?_
               rintro e w9 ⟨rfl, hd1, hd2⟩
               have NE2 := Lib.hid (sh_ne O1h.out OL1h.out)
               have OD := Lib.hid hd1
               have OS9 := Lib.hid (O1h.out.only hd2 NE2.out)
               have B9 := Lib.hid (B1h.out.trans (hd2.below B1h.out.size (fun gg e => by omega)))
               clear hd1 hd2 OL1h O1h B1h NE2
               rw [show n - m - 1 = n - (m + 1) by omega] at OD ⊢
               go_wp2
               go_roundw
               case rel => exact ⟨m + 1, az ++ [(q : Int)], lf.take 0 ++ lf.drop (0 + 1), by omega, by go_num, PN.out, by rw [List.length_append, hal]; rfl, rfl, OD.out, OS9.out, B9.out⟩
               case measure => simp [intOf] <;> omega)
        · obtain rfl : n = m := by omega
          have FI := Lib.hid (hPI.fine hn2)
          obtain ⟨gs, cs, rfl, hcs, hcsm⟩ := OSH.out.opened (by rw [hal]; exact hM1)
          rw [hal] at OSH hcs ⊢
          have HAL2 := Lib.hid hal
          have hsz9 := hsz3
          have BEW := Lib.hid (B3.out.trans (HB.out.mono hsz3))
          have hszw := BEW.out.size
          have DC9 := Lib.hid (fun i (hi : i < k) => cell_below HB.out (DCK.out i hi))
          have hgs := OSH.out.lt gs rfl
          clear OLF APX LLF HB B3 DK DCK AC hal hPI hsz9 hgl3 hgl2
          obtain ⟨wo, hwo⟩ : ∃ wo : World, wo = wr := ⟨_, rfl⟩
          subst hwo
          go_wp2_with (refine wl_makeF _ rfl (.tmp 108) (.tmp 108) rfl wo.heap.size _ _ k wo rfl rfl rfl rfl (by omega) (Below.refl _ _) (Nat.le_refl _) ?_)
          intro gw w10 _ hown1 hbel1
          rw [W0.out] at hown1
          have O10 := Lib.hid hown1
          have B10 := Lib.hid hbel1
          clear hown1 hbel1
          go_wp2
          go_loopw [20, 21, 112] (fun _ _ i wr => ∃ m : Nat, m ≤ k ∧ i = .int .i64 m ∧ Ow wo.heap.size wr (.slice (some ⟨gw, 0, none⟩) k k) (wnL l m) ∧ Below wo.heap.size wo wr) (fun _ _ i _ => k - (intOf i).toNat)
          case atStart => exact ⟨0, by omega, rfl, O10.out, B10.out⟩
          case round =>
            obtain ⟨m, hm1, rfl, ho, hbel⟩ := hrel
            have OO := Lib.hid ho
            have HB := Lib.hid hbel
            have hwsz := hbel.size
            have hgw := ho.base.1
            clear ho hbel O10 B10
            by_cases hml : m < k
            · have cd : wr.cell? ⟨db, do' + m, none⟩ = some (.int .u64 (gd dz m)) := cell_below HB.out (DC9.out m hml)
              have hb1 := BD.out.get m
              have WSm := WS.out m hml
              rw [GX.out] at WSm
              have WSm := Lib.hid WSm
              have WLm := Lib.hid (WL.out m)
              generalize gd dz m = d at *
              go_wp2_with fail
              refine (norm_any d _ hb1.1 hb1.2).mono ?_
              rintro e w' ⟨rfl, rfl⟩
              go_wp2_with (refine wl_storeF _ rfl (.tmp 121) (.tmp 120) rfl wo.heap.size gw m k k (wnL l m) (toF d) rfl rfl OO.out WLm.out hml ?_)
              intro w6 hown6 ho6 hs6
              try rw [WSm.out] at hown6
              have O6 := Lib.hid hown6
              have B6 := Lib.hid (HB.out.trans (ho6.below hwsz (fun gg e => by omega)))
              clear hown6 ho6
              go_wp2
              go_roundw
              case rel => exact ⟨m + 1, by omega, by go_num, O6.out, B6.out⟩
              case measure => simp [intOf] <;> omega
            · obtain rfl : k = m := by omega
              rw [WF.out] at OO
              have S11 := Lib.hid (OSH.out.below HB.out)
              have B11 := Lib.hid (BEW.out.trans (HB.out.mono hszw))
              have hs11 := B11.out.size
              have hkc : k ≤ cs := by omega
              have FK := Lib.hid (fine_take FI.out k)
              have LK := Lib.hid (show (az.take k).length = k by rw [List.length_take, HAL2.out]; omega)
              have RT := Lib.hid (show Rs wr (.slice (some ⟨gs, 0, none⟩) k cs) (az.take k) (syz l (az.take k)) by rw [syz_take]; exact S11.out.rs.take hkM)
              have OW := Lib.hid (OO.out.mono (B' := w.heap.size) (by omega))
              clear OO HB OSH BEW WF W0 WS DC9
              go_wp2_with fail
              refine (rec_good l (az.take k) FK.out k hk1 (by omega) LL.out (by rw [LK.out]; exact Nat.le_refl _) _ _ RT.out).mono ?_
              rintro e w12 ⟨v12, rfl, hown, hbel⟩
              have G12 := Lib.hid (hown.mono hs11)
              have S12 := Lib.hid (S11.out.below hbel)
              have W12 := Lib.hid (OW.out.below hbel)
              have B12 := Lib.hid (B11.out.trans (hbel.mono hs11))
              have hs12 := B12.out.size
              clear hown hbel RT S11 OW B11 hs11
              go_wp2_with fail
              refine (rec_good l az FI.out k hk1 (by omega) LL.out (by rw [HAL2.out]; exact hkM) _ _ S12.out.rs).mono ?_
              rintro e w13 ⟨v13, rfl, hown, hbel⟩
              have H13 := Lib.hid (hown.mono hs12)
              have G13 := Lib.hid (G12.out.below hbel)
              have S13 := Lib.hid (S12.out.below hbel)
              have W13 := Lib.hid (W12.out.below hbel)
              have B13 := Lib.hid (B12.out.trans (hbel.mono hs12))
              have hs13 := B13.out.size
              clear hown hbel G12 S12 W12 B12 hs12
              go_wp2_with fail
              refine (equal_yes (l.map vl) _ _ _ G13.out.rd W13.out.rd).mono ?_
              rintro e w14 ⟨rfl, hbel⟩
              have H14 := Lib.hid (H13.out.below hbel)
              have S14 := Lib.hid (S13.out.below hbel)
              have W14 := Lib.hid (W13.out.below hbel)
              have B14 := Lib.hid (B13.out.trans (hbel.mono hs13))
              have hs14 := B14.out.size
              clear hbel G13 H13 S13 W13 B13 hs13
              go_wp2_with fail
              refine (equal_yes (l.map vl) _ _ _ H14.out.rd W14.out.rd).mono ?_
              rintro e w15 ⟨rfl, hbel⟩
              have S15 := Lib.hid (S14.out.below hbel)
              have B15 := Lib.hid (B14.out.trans (hbel.mono hs14))
              have hs15 := B15.out.size
              clear hbel H14 S14 W14 B14 hs14
              go_wp2
              go_ret
              exact ⟨rfl, B15.out⟩
theorem wShareAny (zs ps : List Int) (z y : Int) (v v2 : Value) (w : World) (h : Rd .u64 w v zs) (h2 : Rd .i64 w v2 ps) (hx : B64 zs) (hwp : W64 ps) (wy : (Lit.int .u64 y).wf = true) :
    Calls Try.prog 9 #[v, .int .i64 z, v2, .int .u64 y] w (RetV w (.bool true)) := by
  obtain ⟨y0, y1⟩ := u64_bounds wy
  by_cases hb : (zs.take 20).length < 1 ∨ z < 1 ∨ 64 < z ∨ z < (zs.take 20).length
  · exact sn_bad zs ps z y v v2 w h h2 hb
  · obtain ⟨n, hn⟩ : ∃ n : Nat, z = n := ⟨z.toNat, by omega⟩
    by_cases hk : n ≤ (zs.take 20).length
    · exact sn_okb zs ps z y v v2 w h h2 hx hwp y0 y1 n hn (by omega) (by omega) (by omega) (by omega) hk
    · exact sn_oka zs ps z y v v2 w h h2 hx hwp y0 y1 n ((zs.take 20).length + 1) hn (by omega) (by omega) (by omega) (by omega) ⟨rfl, by omega⟩
end Go.Proofs.Ytjljndnpefdifaa.Gm
