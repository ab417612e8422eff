/- ref Phases: line by line. -/
import Derived.Test.YtcakeenfkdhedaaDoorGe
namespace Go.Proofs.YtcakeenfkdhedaaDoor.Gm
open Go.RowKit
set_option linter.unusedVariables false
/-- how often each line is covered -/
@[irreducible] def ctL (l : List T3) (n : Nat) : List Int := (List.range n).map fun k => (cntL l (k : Nat) : Int)
theorem ctL_len (l : List T3) (n : Nat) : (ctL l n).length = n := by unfold ctL; simp
theorem gd_ctL (l : List T3) {n k : Nat} (h : k < n) : gd (ctL l n) k = (cntL l (k : Int) : Int) := by
  unfold ctL; rw [gd_eq, List.getElem?_map, List.getElem?_range h]; rfl
theorem ctL_nil (n : Nat) : ctL [] n = List.replicate n 0 := by
  unfold ctL
  rw [List.eq_replicate_iff]
  refine ⟨by simp, fun b hb => ?_⟩
  obtain ⟨k, _, rfl⟩ := List.mem_map.1 hb
  rw [cnt_nil]; rfl
/-- .. in the middle of a task -/
@[irreducible] def ctP (l : List T3) (n f k : Nat) : List Int := (List.range n).map fun (j : Nat) => (cntL l (j : Int) : Int) + if f ≤ j ∧ j < k then 1 else 0
theorem ctP_len (l : List T3) (n f k : Nat) : (ctP l n f k).length = n := by unfold ctP; simp
theorem gd_ctP (l : List T3) {n f k j : Nat} (h : j < n) : gd (ctP l n f k) j = (cntL l (j : Int) : Int) + if f ≤ j ∧ j < k then 1 else 0 := by
  unfold ctP; rw [gd_eq, List.getElem?_map, List.getElem?_range h]; rfl
theorem ctP_start (l : List T3) (n f : Nat) : ctP l n f f = ctL l n := by
  unfold ctP ctL
  refine List.map_congr_left fun j _ => ?_
  rw [if_neg (by omega)]; omega
theorem cnt_snoc (l : List T3) (t : T3) (k : Int) : cntL (l ++ [t]) k = cntL l k + if t.2.1 ≤ k ∧ k < t.2.2 then 1 else 0 := by
  have h1 : cntL (l ++ [t]) k = cntL (t :: l) k := cntL_perm (List.perm_append_comm (l₁ := l) (l₂ := [t])) k
  rw [h1, cnt_cons]; omega
theorem ctP_end (l : List T3) (n f u : Nat) (x : Int) : ctP l n f u = ctL (l ++ [(x, (f : Int), (u : Int))]) n := by
  unfold ctP ctL
  refine List.map_congr_left fun j _ => ?_
  rw [cnt_snoc]
  by_cases h : f ≤ j ∧ j < u
  · rw [if_pos h, if_pos ⟨by show (f : Int) ≤ j; omega, by show (j : Int) < u; omega⟩]; omega
  · rw [if_neg h, if_neg (fun e => h ⟨by have := e.1; simp only at this; omega, by have := e.2; simp only at this; omega⟩)]; omega
theorem ctP_set (l : List T3) {n f k : Nat} (hf : f ≤ k) (hk : k < n) : (ctP l n f k).set k ((cntL l (k : Int) : Int) + 1) = ctP l n f (k + 1) := by
  refine List.ext_getElem (by rw [List.length_set, ctP_len, ctP_len]) fun j h1 h2 => ?_
  rw [List.length_set, ctP_len] at h1
  have e1 : ((ctP l n f k).set k ((cntL l (k : Int) : Int) + 1))[j]'(by rw [List.length_set, ctP_len]; exact h1) = gd ((ctP l n f k).set k ((cntL l (k : Int) : Int) + 1)) j := by rw [gd_eq, List.getElem?_eq_getElem]; rfl
  have e2 : (ctP l n f (k + 1))[j]'(by rw [ctP_len]; exact h1) = gd (ctP l n f (k + 1)) j := by rw [gd_eq, List.getElem?_eq_getElem]; rfl
  rw [e1, e2, gd_set _ _ _ _ (by rw [ctP_len]; exact hk), gd_ctP _ h1, gd_ctP _ h1]
  by_cases e : k = j
  · subst e; rw [if_pos rfl, if_pos ⟨hf, by omega⟩]
  · rw [if_neg e]
    by_cases h : f ≤ j ∧ j < k
    · rw [if_pos h, if_pos ⟨h.1, by omega⟩]
    · rw [if_neg h, if_neg (fun h' => h ⟨h'.1, by omega⟩)]
theorem cnt_len (l : List T3) (k : Int) : cntL l k ≤ l.length := List.countP_le_length
theorem rp_of {x lines : Nat} {l : List T3} (h1 : ∀ j, j < l.length → okT x lines (tg l j)) (h2 : ∀ k : Nat, k < lines → cntL l (k : Int) = 1) : RP x lines l := by
  refine ⟨fun t ht => ?_, fun k h0 hk => ?_⟩
  · obtain ⟨j, hj, rfl⟩ := List.getElem_of_mem ht
    rw [← tg_lt hj]; exact h1 j hj
  · obtain ⟨n, rfl⟩ : ∃ n : Nat, k = n := ⟨k.toNat, by omega⟩
    exact h2 n (by omega)
theorem not_rp_at {x lines : Nat} {l : List T3} {j : Nat} (hj : j < l.length) (h : ¬ okT x lines (tg l j)) : ¬ RP x lines l := fun hr => h (hr.1 _ (by rw [tg_lt hj]; exact List.getElem_mem hj))
theorem not_rp_cnt {x lines : Nat} {l : List T3} {k : Nat} (hk : k < lines) (h : cntL l (k : Int) ≠ 1) : ¬ RP x lines l := fun hr => h (hr.2 k (by omega) (by omega))
def PhA (w : World) (ds : List Nat) (ll : List (List T3)) (K : Nat) (lg ax : Value) (wr : World) : Prop :=
  ∃ (x : Nat) (b : Bool), x ≤ K ∧ ax = .int .i64 (x : Int) ∧ lg = .bool b ∧ (∀ y, y < x → RP y (lnX ds y) (pg ll y)) ∧ (b = true → ∃ y, y < x ∧ 64 < (pg ll y).length) ∧ (b = false → ∀ y, y < x → (pg ll y).length ≤ 64) ∧ Below w.heap.size w wr
def PhB (w : World) (x lines g : Nat) (p : List T3) (i : Value) (wr : World) : Prop :=
  ∃ j : Nat, j ≤ p.length ∧ i = .int .i64 (j : Int) ∧ (∀ k, k < j → okT x lines (tg p k)) ∧ Oz .i64 3 w.heap.size wr (.slice (some ⟨g, 0, none⟩) lines lines) (ctL (p.take j) lines) ∧ Below w.heap.size w wr
def PhC (w w5 : World) (lines g f u : Nat) (q : List T3) (i : Value) (wr : World) : Prop :=
  ∃ k : Nat, f ≤ k ∧ k ≤ u ∧ i = .int .i64 (k : Int) ∧ Oz .i64 3 w.heap.size wr (.slice (some ⟨g, 0, none⟩) lines lines) (ctP q lines f k) ∧ Only (fun k => k = g) w5 wr ∧ Below w.heap.size w wr
def PhD (lines : Nat) (p : List T3) (i : Value) : Prop :=
  ∃ k : Nat, k ≤ lines ∧ i = .int .i64 (k : Int) ∧ ∀ j : Nat, j < k → cntL p (j : Int) = 1
def PhP (ds : List Nat) (ll : List (List T3)) (w : World) (e : Ending) (w' : World) : Prop := ∃ n : Int, e = .returned (.int .i64 n) ∧ ChkN ds ll n ∧ Below w.heap.size w w'
theorem rphases_bad (zs : List Int) (v v2 : Value) (w : World) (n : Int) (h : Rd .i64 w v zs) (hw : W64 zs) (hn : n = 1 ∧ Bad zs ∨ n = 2 ∧ Big zs) :
    Calls Tryd.prog 13 #[v, v2] w fun e w' => e = .returned (.int .i64 n) ∧ w = w' := by
  have HR := Lib.hid h
  have HN := Lib.hid hn
  have hn0 : (n == 0) = false := by rcases hn with ⟨rfl, _⟩ | ⟨rfl, _⟩ <;> rfl
  clear h hn
  go_enter Tryd.func13, Tryd.ntmps13
  go_wp2_with fail
  refine (rshape_any _ _ _ HR.out hw).mono ?_
  rintro e w' ⟨he, rfl⟩
  have he : e = .returned (.tuple #[.int .i64 0, .int .i64 n]) := by
    rcases HN.out with ⟨rfl, hb⟩ | ⟨rfl, hb⟩
    · exact he.bad hb
    · exact he.big hb
  subst he
  go_wp2
  go_ret
  exact ⟨rfl, rfl⟩
set_option maxHeartbeats 4000000 in
set_option maxRecDepth 100000 in
theorem rphases_any (ds : List Nat) (ll : List (List T3)) (v v2 : Value) (w : World) (h : Rd .i64 w v (zi ds)) (h2 : RPs w v2 ll) (hw : W64 (zi ds)) (hs : Shp ds) (hl : ∀ i, i < ll.length → (pg ll i).length ≤ 5864062014634) :
    Calls Tryd.prog 13 #[v, v2] w (PhP ds ll w) := by
  have HR := Lib.hid h
  have HS := Lib.hid hs
  have HL := Lib.hid hl
  have hN3 := hs.len3
  have hN1 := hs.len0
  have hn2 := hs.le
  obtain ⟨a, cap, b, off, rfl, hcap, hm, hx, hcx⟩ := h.opened
  have LZ := Lib.hid (zi_len ds)
  rw [LZ.out] at hcap hx hcx HR ⊢
  obtain rfl := hx.resolve_left (by omega)
  have SC := Lib.hid (show ∀ x, x < ds.length → w.cell? ⟨b, off + x, none⟩ = some (.int .i64 (nd ds x : Int)) from fun x hx => by rw [hcx x hx, gd_zi])
  have DD := Lib.hid (show ∀ x, x < ds.length → 1 ≤ nd ds x ∧ nd ds x ≤ 1024 from fun x hx => ⟨hs.nd1 hx, hs.ndle hx⟩)
  have LNE := Lib.hid (fun x => show pr ds / nd ds x = lnX ds x from rfl)
  have LNL := Lib.hid (fun x => lnX_le hs x)
  obtain ⟨pa, pc, pb, po, rfl, hpc, hpm, hpx, hpcell⟩ := h2
  have PCL := Lib.hid hpcell
  obtain ⟨N, hN⟩ : ∃ N, N = ds.length := ⟨_, rfl⟩
  have HNN := Lib.hid hN
  rw [← hN] at hN1 hN3 hcap HR SC DD ⊢
  obtain ⟨K, hK⟩ : ∃ K, K = ll.length := ⟨_, rfl⟩
  have HKK := Lib.hid hK
  rw [← hK] at hpc hpx PCL HL ⊢
  obtain ⟨n, hn⟩ : ∃ n, n = pr ds := ⟨_, rfl⟩
  have HPR := Lib.hid hn
  rw [← hn] at hn2 LNE
  clear h hs hcx hx hN hK hn LZ hl hpcell
  go_enter Tryd.func13, Tryd.ntmps13
  go_wp2_with fail
  refine (rshape_any _ _ _ HR.out hw).mono ?_
  rintro e w' ⟨he, rfl⟩
  obtain rfl := he.ok HS.out
  rw [← HPR.out]
  by_cases hkn : K = N
  · have HKN := Lib.hid hkn
    subst hkn
    go_wp2
    go_loopw [7, 8, 9, 10, 11, 12, 13] (fun lg x _ _ _ _ _ wr => PhA w ds ll K lg x wr) (fun _ x _ _ _ _ _ _ => K - (intOf x).toNat)
    case atStart => exact ⟨0, false, by omega, rfl, rfl, fun y hy => absurd hy (by omega), (fun h => by cases h), fun _ y hy => absurd hy (by omega), Below.refl _ _⟩
    case round =>
      obtain ⟨x, lg, hx1, rfl, rfl, hall, hl1, hl2, hbel⟩ := hrel
      have HA := Lib.hid hall
      have HB := Lib.hid hbel
      have HL1 := Lib.hid hl1
      have HL2 := Lib.hid hl2
      have hwsz := hbel.size
      clear hall hbel hl1 hl2
      by_cases hxl : x < K
      · obtain rfl := hpx.resolve_left (by omega)
        obtain ⟨u, hcu, hru, hnu⟩ := PCL.out x hxl
        have CU := Lib.hid hcu
        obtain ⟨ua, uc, ub, uo, rfl, hu1, hu2, hu3, hucell⟩ := hru
        have UC := Lib.hid hucell
        have c3 : wr.cell? ⟨b, off + x, none⟩ = some (.int .i64 (nd ds x : Int)) := cell_below HB.out (SC.out x hxl)
        obtain ⟨d1, d2⟩ := DD.out x hxl
        have le := LNE.out x
        have ll2 := LNL.out x
        have hlx := HL.out x hxl
        have HJ := Lib.hid (show RP x (lnX ds x) (pg ll x) → ∀ y, y < x + 1 → RP y (lnX ds y) (pg ll y) from fun h y hy => by
          by_cases e : y = x
          · rw [e]; exact h
          · exact HA.out y (by omega))
        have HX := Lib.hid (show ¬ RP x (lnX ds x) (pg ll x) → ChkN ds ll 5 from fun h => .inl ⟨rfl, .inr ⟨x, by rw [← HNN.out]; exact hxl, h⟩⟩)
        clear hcu hnu hucell
        generalize nd ds x = d at *
        generalize lnX ds x = lines at *
        have HPG := Lib.hid (show pg ll x = pg ll x from rfl)
        obtain ⟨p, hp⟩ : ∃ p, p = pg ll x := ⟨_, rfl⟩
        have HP := Lib.hid hp
        rw [← hp] at hlx UC HJ HX hu1 hu3 CU
        clear hp HPG
        obtain ⟨pl, hpl⟩ : ∃ pl, pl = p.length := ⟨_, rfl⟩
        have HPL := Lib.hid hpl
        rw [← hpl] at hlx hu1 hu3 CU
        clear hpl
        have hd0 : ¬ d = 0 := by omega
        have e1 := nat_quo n d
        rw [le] at e1
        have e2 : IntKind.i64.wrap (lines : Int) = (lines : Int) := wrap_nat (by omega)
        clear le
        go_wp2_with (refine wl_make_int _ rfl (.tmp 38) (.tmp 38) rfl w.heap.size (lines : Int) (lines : Int) lines w rfl rfl rfl rfl (by omega) HB.out hwsz ?_)
        intro g w5 hg hoz hb5
        have OZ5 := Lib.hid hoz
        have HB5 := Lib.hid hb5
        have hs5 := hb5.size
        clear hoz hb5 c3 e1 hg
        go_wp2
        go_loopw [10, 11, 12] (fun i _ _ wr => PhB w x lines g p i wr) (fun i _ _ _ => pl - (intOf i).toNat)
        case atStart => exact ⟨0, by omega, rfl, fun k hk => absurd hk (by omega), by rw [List.take_zero, ctL_nil]; exact OZ5.out, HB5.out⟩
        case round =>
          obtain ⟨j, hj, rfl, hok, hoz, hbel⟩ := hrel
          rw [← HPL.out] at hj
          have OK := Lib.hid hok
          have OZ := Lib.hid hoz
          have BW := Lib.hid hbel
          have hsw := hbel.size
          have cu := cell_below BW.out CU.out
          have hgB := (Oz.base hoz).1
          clear hok hoz hbel
          by_cases hjl : j < pl
          · obtain rfl := hu3.resolve_left (by omega)
            obtain ⟨c0, c1, c2⟩ := UC.out j (by rw [← HPL.out]; exact hjl)
            have c0 := cell_below BW.out c0
            have c1 := cell_below BW.out c1
            have c2 := cell_below BW.out c2
            have HT := Lib.hid (show tg p j = ((tg p j).1, (tg p j).2.1, (tg p j).2.2) from rfl)
            have HTK := Lib.hid (show p.take (j + 1) = p.take j ++ [tg p j] from by rw [List.take_succ_eq_append_getElem (by rw [← HPL.out]; exact hjl), tg_lt (by rw [← HPL.out]; exact hjl)])
            have HNR := Lib.hid (show ¬ okT x lines (tg p j) → ChkN ds ll 5 from fun h => HX.out (not_rp_at (by rw [← HPL.out]; exact hjl) h))
            generalize (tg p j).1 = y0 at *
            generalize (tg p j).2.1 = y1 at *
            generalize (tg p j).2.2 = y2 at *
            rw [HT.out] at HTK HNR
            have hal := (Below.refl wr.heap.size wr).alloc (Nat.le_refl _) (.cells #[.int .i64 y0, .int .i64 y1, .int .i64 y2] 56)
            have KB := Lib.hid (Blk.new wr 56 #[.int .i64 y0, .int .i64 y1, .int .i64 y2])
            have BA := Lib.hid (BW.out.trans (hal.mono hsw))
            clear hal
            have h5 : ¬ okT x lines (y0, y1, y2) ∨ okT x lines (y0, y1, y2) := Classical.em _ |>.symm
            rcases h5 with h5 | h5
            · have C5 := Lib.hid (HNR.out h5)
              have h6 : ¬ y0 = x ∨ (y0 = x ∧ y1 < 0) ∨ (y0 = x ∧ 0 ≤ y1 ∧ lines < y2) ∨ (y0 = x ∧ 0 ≤ y1 ∧ y2 ≤ lines ∧ y2 ≤ y1) := by
                unfold okT at h5
                simp only at h5
                omega
              clear h5
              rcases h6 with h6 | ⟨rfl, h6⟩ | ⟨rfl, h6, h7⟩ | ⟨rfl, h6, h7, h8⟩
              all_goals
                go_wp2
                go_ret
                exact ⟨5, rfl, C5.out, BA.out⟩
            · have HOK := Lib.hid h5
              unfold okT at h5
              simp only at h5
              obtain ⟨rfl, h6, h7, h8⟩ := h5
              obtain ⟨f, rfl⟩ : ∃ f : Nat, y1 = (f : Int) := ⟨y1.toNat, by omega⟩
              obtain ⟨u, rfl⟩ : ∃ u : Nat, y2 = (u : Int) := ⟨y2.toNat, by omega⟩
              have hfu : f < u := by omega
              have hul : u ≤ lines := by omega
              have OA := Lib.hid (OZ.out.alloc (.cells #[.int .i64 (x : Int), .int .i64 (f : Int), .int .i64 (u : Int)] 56))
              have NEB := Lib.hid (show wr.heap.size ≠ g by have := (Oz.base OZ.out).2; omega)
              have HQL := Lib.hid (show (p.take j).length ≤ 5864062014634 by rw [List.length_take]; omega)
              have e1 : ¬ ((f : Int) < 0) := by omega
              go_wp2
              clear h6 h7 h8 c0 c1 c2 cu e1
              obtain ⟨bt, hbt⟩ : ∃ bt, bt = wr.heap.size := ⟨_, rfl⟩
              obtain ⟨w6, hw6⟩ : ∃ w6, w6 = wr.alloc (.cells #[.int .i64 (x : Int), .int .i64 (f : Int), .int .i64 (u : Int)] 56) := ⟨_, rfl⟩
              rw [← hbt, ← hw6] at KB
              rw [← hw6] at BA OA ⊢
              rw [← hbt] at NEB ⊢
              clear hbt hw6 OZ
              go_loopw [12] (fun k wq => PhC w w6 lines g f u (p.take j) k wq) (fun k _ => u - (intOf k).toNat)
              case atStart => exact ⟨f, by omega, by omega, rfl, by rw [ctP_start]; exact OA.out, Only.refl _ _, BA.out⟩
              case round =>
                obtain ⟨k, hk1, hk2, rfl, hoz, ho, hb⟩ := hrel
                have KQ := KB.out.only ho NEB.out
                have HO := Lib.hid ho
                have HB6 := Lib.hid hb
                have OQ := Lib.hid hoz
                clear hoz ho hb
                by_cases hku : k < u
                · have b2 := KQ.cell 2
                  simp only [List.getElem?_toArray, List.getElem?_cons_succ, List.getElem?_cons_zero] at b2
                  have hkl : k < lines := by omega
                  have ck := OQ.out.cell (i := k) (by rw [ctP_len]; exact hkl)
                  rw [gd_ctP _ hkl, if_neg (by omega), Int.add_zero] at ck
                  have hcl := cnt_len (p.take j) (k : Int)
                  have hql := HQL.out
                  have CTS := Lib.hid (ctP_set (p.take j) (n := lines) hk1 hkl)
                  have CTN := Lib.hid (ctP_len (p.take j) lines f k)
                  generalize cntL (p.take j) (k : Int) = c at *
                  have ew : IntKind.i64.wrap ((c : Int) + 1) = (c : Int) + 1 := IntWalk.i64_in _ (by omega)
                  clear KQ hcl hql
                  go_wp2_with (refine wl_storeI .i64 3 _ rfl (.tmp 92) (.tmp 91) (fun _ => rfl) rfl w.heap.size g k lines lines (ctP (p.take j) lines f k) ((c : Int) + 1) rfl rfl OQ.out CTN.out hkl ?_)
                  intro w7 hoz7 ho7 hs7
                  rw [CTS.out] at hoz7
                  have O7 := Lib.hid hoz7
                  have HO7 := Lib.hid (HO.out.trans ho7)
                  have B7 := Lib.hid (HB6.out.trans (ho7.below HB6.out.size (fun k e => by rw [e]; exact hgB)))
                  clear hoz7 ho7 hs7 ck b2 CTS CTN
                  go_wp2
                  go_roundw
                  case rel => exact ⟨k + 1, by omega, by omega, by go_num, O7.out, HO7.out, B7.out⟩
                  case measure => simp [intOf] <;> omega
                · obtain rfl : u = k := by omega
                  have b2 := KQ.cell 2
                  simp only [List.getElem?_toArray, List.getElem?_cons_succ, List.getElem?_cons_zero] at b2
                  rw [ctP_end (p.take j) lines f u (x : Int), ← HTK.out] at OQ
                  have OK2 := Lib.hid (show ∀ k, k < j + 1 → okT x lines (tg p k) from fun k hk => by
                    by_cases e : k = j
                    · rw [e, HT.out]; exact HOK.out
                    · exact OK.out k (by omega))
                  clear KQ
                  go_wp2
                  go_roundw
                  case rel => exact ⟨j + 1, by rw [← HPL.out]; omega, by go_num, OK2.out, OQ.out, HB6.out⟩
                  case measure => simp [intOf] <;> omega
          · obtain rfl : pl = j := by omega
            have htk : p.take pl = p := by rw [HPL.out]; exact List.take_length
            rw [htk] at OZ
            go_wp2
            go_loop [13] (fun k => PhD lines p k) (fun k => lines - (intOf k).toNat)
            case atStart => exact ⟨0, by omega, rfl, fun j hj => absurd hj (by omega)⟩
            case round =>
              obtain ⟨k, hk, rfl, hc⟩ := hrel
              have HC := Lib.hid hc
              clear hc
              by_cases hkl : k < lines
              · have ck := OZ.out.cell (i := k) (by rw [ctL_len]; exact hkl)
                rw [gd_ctL _ hkl] at ck
                by_cases h1 : cntL p (k : Int) = 1
                · rw [h1] at ck
                  have HC2 := Lib.hid (show ∀ j : Nat, j < k + 1 → cntL p (j : Int) = 1 from fun j hj => by
                    by_cases e : j = k
                    · rw [e]; exact h1
                    · exact HC.out j (by omega))
                  clear h1
                  go_wp2
                  go_round
                  case rel => exact ⟨k + 1, by omega, by go_num, HC2.out⟩
                  case measure => simp [intOf] <;> omega
                · have C5 := Lib.hid (HX.out (not_rp_cnt hkl h1))
                  generalize cntL p (k : Int) = c at *
                  have hd : ((c : Int) == 1) = false := by rw [Bool.eq_false_iff]; intro h; simp at h; omega
                  go_wp2
                  go_ret
                  exact ⟨5, rfl, C5.out, BW.out⟩
              · obtain rfl : lines = k := by omega
                have HR2 := Lib.hid (HJ.out (rp_of (fun j hj => OK.out j (by rw [HPL.out]; exact hj)) HC.out))
                cases lg
                · by_cases h64 : 64 < pl
                  · have H1 := Lib.hid (show ∃ y, y < x + 1 ∧ 64 < (pg ll y).length from ⟨x, by omega, by rw [← HP.out, ← HPL.out]; exact h64⟩)
                    have hd : decide ((64 : Int) < (pl : Int)) = true := decide_eq_true (by omega)
                    have hd2 : decide (64 < pl) = true := decide_eq_true h64
                    go_wp2
                    go_roundw
                    case rel => exact ⟨x + 1, true, by omega, by go_num, rfl, HR2.out, (fun _ => H1.out), (fun h => by cases h), BW.out⟩
                    case measure => simp [intOf] <;> omega
                  · have H2 := Lib.hid (show ∀ y, y < x + 1 → (pg ll y).length ≤ 64 from fun y hy => by
                      by_cases e : y = x
                      · rw [e, ← HP.out, ← HPL.out]; omega
                      · exact HL2.out rfl y (by omega))
                    have hd : decide ((64 : Int) < (pl : Int)) = false := decide_eq_false (by omega)
                    have hd2 : decide (64 < pl) = false := decide_eq_false h64
                    go_wp2
                    go_roundw
                    case rel => exact ⟨x + 1, false, by omega, by go_num, rfl, HR2.out, (fun h => by cases h), (fun _ => H2.out), BW.out⟩
                    case measure => simp [intOf] <;> omega
                · have H1 := Lib.hid (show ∃ y, y < x + 1 ∧ 64 < (pg ll y).length from by
                    obtain ⟨y, h1, h2⟩ := HL1.out rfl
                    exact ⟨y, by omega, h2⟩)
                  go_wp2
                  go_roundw
                  case rel => exact ⟨x + 1, true, by omega, by go_num, rfl, HR2.out, (fun _ => H1.out), (fun h => by cases h), BW.out⟩
                  case measure => simp [intOf] <;> omega
      · obtain rfl : K = x := by omega
        cases lg
        · have HF := Lib.hid (show ChkN ds ll 0 from .inr ⟨by rw [← HKK.out, ← HNN.out], fun y hy => HA.out y (by rw [HNN.out]; exact hy), .inr ⟨rfl, fun y hy => HL2.out rfl y (by rw [HKK.out]; exact hy)⟩⟩)
          go_wp2
          go_ret
          exact ⟨0, rfl, HF.out, HB.out⟩
        · have HF := Lib.hid (show ChkN ds ll 2 from .inr ⟨by rw [← HKK.out, ← HNN.out], fun y hy => HA.out y (by rw [HNN.out]; exact hy), .inl ⟨rfl, by
            obtain ⟨y, h1, h2⟩ := HL1.out rfl
            exact ⟨y, by rw [← HKK.out]; exact h1, h2⟩⟩⟩)
          go_wp2
          go_ret
          exact ⟨2, rfl, HF.out, HB.out⟩
  · have HF := Lib.hid (show ChkN ds ll 5 from .inl ⟨rfl, .inl (by rw [← HKK.out, ← HNN.out]; exact hkn)⟩)
    go_wp2
    go_ret
    exact ⟨5, rfl, HF.out, Below.refl _ _⟩
end Go.Proofs.YtcakeenfkdhedaaDoor.Gm
