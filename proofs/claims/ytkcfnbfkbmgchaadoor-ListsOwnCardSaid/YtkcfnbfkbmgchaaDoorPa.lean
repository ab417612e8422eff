/- The walks of poly.Norm, Add, mul, Mul. -/
import Derived.Test.YtkcfnbfkbmgchaaDoorPe
import Derived.StillTailTactics
namespace Go.Proofs.YtkcfnbfkbmgchaaDoor.Gm
open Go.RowKit
theorem s_same {P : Program} {f : FuncId} {args : Array Value} {w : World} {v : Value}
    (h : Calls P f args w fun e w' => e = .returned v ∧ w = w') : Calls P f args w fun e w'' => e = .returned v ∧ w'' = w :=
  h.mono fun _ _ ⟨he, hm⟩ => ⟨he, hm.symm⟩
theorem Rd.shape {k : IntKind} {w : World} {v : Value} {zs : List Int} (h : Rd k w v zs) : ∃ a cap, v = .slice a zs.length cap ∧ zs.length ≤ cap ∧ cap ≤ 9223372036854775807 := by
  obtain ⟨a, cap, b, off, rfl, hcap, hm, _, _⟩ := h
  exact ⟨a, cap, rfl, hcap, hm⟩
set_option maxHeartbeats 1000000 in
theorem pnorm_any (zs : List Int) (v : Value) (w : World) (h : Rd .u64 w v zs) (hz : B64 zs) (hl : zs.length ≤ 2048) :
    Calls Tryd.prog 34 #[v] w (RetLE w (strip (zs.map toF)) 0) := by
  have HR := Lib.hid h
  obtain ⟨a, cap, rfl, hcap, hm⟩ := h.shape
  clear h
  have hc1 : (w.alloc (.cells #[.slice a zs.length cap] 22)).cell? ⟨w.heap.size, 0, none⟩ = some (.slice a zs.length cap) := by
    rw [World.cell?_alloc_at _ _ _ _ rfl]; rfl
  go_enter Tryd.func34, Tryd.ntmps34
  go_wp2_with fail
  refine (large1_no w.heap.size a zs.length cap _ hc1 hl).mono ?_
  rintro e w' ⟨rfl, rfl⟩
  go_wp2_with fail
  refine (normal_any zs _ _ (HR.out.alloc _) hz (by omega)).mono ?_
  rintro e w' ⟨v', rfl, hown, hbel⟩
  have Ho := Lib.hid (hown.mono (B' := w.heap.size) (by simp))
  have Hb := Lib.hid (((Below.refl w.heap.size w).alloc (Nat.le_refl _) (.cells #[.slice a zs.length cap] 22)).trans (hbel.mono (B' := w.heap.size) (by simp)))
  clear hown hbel hc1
  go_wp2
  go_ret2
  exact ⟨_, rfl, Ho.out, Hb.out⟩
theorem pnorm_large (zs : List Int) (v : Value) (w : World) (h : Rd .u64 w v zs) (hl : 2048 < zs.length) :
    Calls Tryd.prog 34 #[v] w (RetLE w [] 2) := by
  obtain ⟨a, cap, rfl, hcap, hm⟩ := h.shape
  clear h
  have hc1 : (w.alloc (.cells #[.slice a zs.length cap] 22)).cell? ⟨w.heap.size, 0, none⟩ = some (.slice a zs.length cap) := by
    rw [World.cell?_alloc_at _ _ _ _ rfl]; rfl
  go_enter Tryd.func34, Tryd.ntmps34
  go_wp2_with fail
  refine (large1_yes w.heap.size a zs.length cap _ hc1 hl).mono ?_
  rintro e w' ⟨rfl, rfl⟩
  go_wp2
  go_ret2
  exact ⟨_, rfl, Ow.nil _ _, (Below.refl _ _).alloc (Nat.le_refl _) _⟩
theorem eval_large (zs : List Int) (v : Value) (x : Int) (w : World) (h : Rd .u64 w v zs) (hl : 2048 < zs.length) :
    Calls Tryd.prog 88 #[v, .int .u64 x] w (RetV w (.tuple #[.int .u64 0, .int .i64 2])) := by
  obtain ⟨a, cap, rfl, hcap, hm⟩ := h.shape
  clear h
  have hc1 : (w.alloc (.cells #[.slice a zs.length cap] 22)).cell? ⟨w.heap.size, 0, none⟩ = some (.slice a zs.length cap) := by
    rw [World.cell?_alloc_at _ _ _ _ rfl]; rfl
  go_enter Tryd.func88, Tryd.ntmps88
  go_wp2_with fail
  refine (large1_yes w.heap.size a zs.length cap _ hc1 hl).mono ?_
  rintro e w' ⟨rfl, rfl⟩
  go_wp2
  go_ret2
  exact ⟨rfl, (Below.refl _ _).alloc (Nat.le_refl _) _⟩
/-- two cells, just laid -/
theorem two_cells (w : World) (x y : Value) (t : TypeId) : (w.alloc (.cells #[x, y] t)).cell? ⟨w.heap.size, 0, none⟩ = some x ∧ (w.alloc (.cells #[x, y] t)).cell? ⟨w.heap.size, 1, none⟩ = some y := by
  constructor
  · rw [World.cell?_alloc_at _ _ _ _ rfl]; rfl
  · rw [World.cell?_alloc_at _ _ _ _ rfl]; rfl
theorem padd_large (zs ys : List Int) (v v2 : Value) (w : World) (h : Rd .u64 w v zs) (h2 : Rd .u64 w v2 ys) (hl : 2048 < zs.length ∨ 2048 < ys.length) :
    Calls Tryd.prog 49 #[v, v2] w (RetLE w [] 2) := by
  obtain ⟨a, cap, rfl, hcap, hm⟩ := h.shape
  obtain ⟨a2, cap2, rfl, hcap2, hm2⟩ := h2.shape
  clear h h2
  obtain ⟨c1, c2⟩ := two_cells w (.slice a zs.length cap) (.slice a2 ys.length cap2) 22
  have Hl := Lib.hid hl
  clear hl
  go_enter Tryd.func49, Tryd.ntmps49
  go_wp2_with fail
  refine (large2_yes w.heap.size _ _ _ _ _ _ _ c1 c2 Hl.out).mono ?_
  rintro e w' ⟨rfl, rfl⟩
  go_wp2
  go_ret2
  exact ⟨_, rfl, Ow.nil _ _, (Below.refl _ _).alloc (Nat.le_refl _) _⟩
theorem pmul_large (zs ys : List Int) (v v2 : Value) (w : World) (h : Rd .u64 w v zs) (h2 : Rd .u64 w v2 ys) (hl : 2048 < zs.length ∨ 2048 < ys.length) :
    Calls Tryd.prog 33 #[v, v2] w (RetLE w [] 2) := by
  obtain ⟨a, cap, rfl, hcap, hm⟩ := h.shape
  obtain ⟨a2, cap2, rfl, hcap2, hm2⟩ := h2.shape
  clear h h2
  obtain ⟨c1, c2⟩ := two_cells w (.slice a zs.length cap) (.slice a2 ys.length cap2) 22
  have Hl := Lib.hid hl
  clear hl
  go_enter Tryd.func33, Tryd.ntmps33
  go_wp2_with fail
  refine (large2_yes w.heap.size _ _ _ _ _ _ _ c1 c2 Hl.out).mono ?_
  rintro e w' ⟨rfl, rfl⟩
  go_wp2
  go_ret2
  exact ⟨_, rfl, Ow.nil _ _, (Below.refl _ _).alloc (Nat.le_refl _) _⟩
/-- the sum's array, behind k places -/
def AddRel (B : Nat) (w : World) (fa fb : List F) (n g : Nat) (i : Value) (wr : World) : Prop :=
  ∃ (k : Nat) (l : List F), k ≤ n ∧ i = .int .i64 k ∧ l.length = n ∧ (∀ j, j < k → cf l j = cf fa j + cf fb j) ∧ (∀ j, k ≤ j → cf l j = 0) ∧ Ow B wr (.slice (some ⟨g, 0, none⟩) n n) l ∧ Below B w wr
theorem addrel_step {fa fb l : List F} {k n : Nat} {y : F} (hk : k < n) (hl : l.length = n) (h1 : ∀ j, j < k → cf l j = cf fa j + cf fb j) (h2 : ∀ j, k ≤ j → cf l j = 0) (hy : y = cf fa k + cf fb k) :
    (∀ j, j < k + 1 → cf (l.set k y) j = cf fa j + cf fb j) ∧ (∀ j, k + 1 ≤ j → cf (l.set k y) j = 0) := by
  constructor
  · intro j hj
    rw [cf_set _ _ _ _ (by omega)]
    by_cases h : k = j
    · subst h; rw [if_pos rfl, hy]
    · rw [if_neg h]; exact h1 j (by omega)
  · intro j hj
    rw [cf_set _ _ _ _ (by omega), if_neg (by omega)]; exact h2 j (by omega)
theorem set_set (l : List F) (k : Nat) (x y : F) : (l.set k x).set k y = l.set k y := by rw [List.set_set]
set_option maxHeartbeats 4000000 in
set_option maxRecDepth 100000 in
theorem padd_any (zs ys : List Int) (v v2 : Value) (w : World) (h : Rd .u64 w v zs) (h2 : Rd .u64 w v2 ys) (hz : B64 zs) (hy : B64 ys) (hl : zs.length ≤ 2048) (hl2 : ys.length ≤ 2048) :
    Calls Tryd.prog 49 #[v, v2] w (RetLE w (strip (addL (zs.map toF) (ys.map toF))) 0) := by
  obtain ⟨a, cap, b, off, rfl, hcap, hm, hx, hc⟩ := h.opened
  obtain ⟨a2, cap2, b2, off2, rfl, hcap2, hm2, hx2, hc2⟩ := h2.opened
  obtain ⟨c1, c2⟩ := two_cells w (.slice a zs.length cap) (.slice a2 ys.length cap2) 22
  obtain ⟨fa, hfa⟩ : ∃ fa, fa = zs.map toF := ⟨_, rfl⟩
  obtain ⟨fb, hfb⟩ : ∃ fb, fb = ys.map toF := ⟨_, rfl⟩
  have La := Lib.hid (show fa.length = zs.length by rw [hfa, List.length_map])
  have Lb := Lib.hid (show fb.length = ys.length by rw [hfb, List.length_map])
  have Ga := Lib.hid (show ∀ i, cf fa i = toF (gd zs i) from fun i => by rw [hfa, cf_map])
  have Gb := Lib.hid (show ∀ i, cf fb i = toF (gd ys i) from fun i => by rw [hfb, cf_map])
  rw [← hfa, ← hfb]
  have Hc := Lib.hid hc
  have Hc2 := Lib.hid hc2
  clear hfa hfb hc hc2
  obtain ⟨n, hn⟩ : ∃ n, n = max zs.length ys.length := ⟨_, rfl⟩
  have hn1 : n ≤ 2048 := by omega
  have hn2 : zs.length ≤ n := by omega
  have hn3 : ys.length ≤ n := by omega
  have Hn := Lib.hid hn
  clear hn
  have hnm : n ≤ 1000000 := by omega
  have hlt : (zs.length < ys.length ∧ n ≤ ys.length) ∨ (ys.length ≤ zs.length ∧ n ≤ zs.length) := by have := Hn.out; omega
  rcases hx with hx | rfl <;> rcases hx2 with hx2 | rfl <;> rcases hlt with ⟨hlt, hnx⟩ | ⟨hlt, hnx⟩
  all_goals
    first
    | (exfalso; omega)
    | (go_enter Tryd.func49, Tryd.ntmps49
       go_wp2_with fail
       refine (large2_no w.heap.size _ _ _ _ _ _ _ c1 c2 hl hl2).mono ?_
       rintro e w' ⟨rfl, rfl⟩
       clear c1 c2
       go_wp2_with (refine wl_make _ rfl (.tmp 16) (.tmp 16) rfl w.heap.size _ _ n w rfl rfl ?_ ?_ hnm ?_ ?_ ?_)
       rotate_left
       rotate_left
       · exact (Below.refl _ _).alloc (Nat.le_refl _) _
       · simp
       rotate_left
       · omega
       · omega
       intro g w1 _ hown1 hbel1
       have Ho1 := Lib.hid hown1
       have Hb1 := Lib.hid hbel1
       have hwsz1 := hbel1.size
       clear hown1 hbel1
       go_wp2
       go_loopw [7, 20] (fun _ i wr => AddRel w.heap.size w fa fb n g i wr) (fun _ i _ => n - (intOf i).toNat)
       case atStart => exact ⟨0, List.replicate n 0, by omega, rfl, by simp, by omega, fun j _ => cf_replicate n j, Ho1.out, Hb1.out⟩
       case round =>
         obtain ⟨k, l, hk, rfl, hll, h1, h2, hown, hbel⟩ := hrel
         have H1 := Lib.hid h1
         have H2 := Lib.hid h2
         have Ho := Lib.hid hown
         have Hb := Lib.hid hbel
         have Hll := Lib.hid hll
         have hwsz := hbel.size
         clear h1 h2 hll
         by_cases hkn : k < n
         · by_cases hka : k < zs.length
           · first
             | (exfalso; omega)
             | (have hcw := Hc.out k hka
                have hca : wr.cell? ⟨b, off + k, none⟩ = some (.int .u64 (gd zs k)) := (hbel.cell (p := ⟨b, off + k, none⟩) (World.block_lt_of_cell? _ _ hcw)).trans hcw
                have hba := hz.get k
                have HGa := Lib.hid (Ga.out k)
                by_cases hkb : k < ys.length
                · first
                  | (exfalso; omega)
                  | (
                     clear hown hbel hcw
                     go_wp2_with fail
                     refine (norm_any _ _ hba.1 hba.2).mono ?_
                     rintro e w' ⟨rfl, rfl⟩
                     clear hca
                     go_wp2_with (refine wl_store _ rfl (.tmp 34) (.tmp 33) rfl w.heap.size g k n n l (toF (gd zs k)) w rfl rfl Ho.out Hll.out hkn Hb.out ?_)
                     intro w2 hown2 hbel2 _
                     have Ho2 := Lib.hid hown2
                     have Hb2 := Lib.hid hbel2
                     have Hl2 := Lib.hid (show (l.set k (toF (gd zs k))).length = n by rw [List.length_set]; exact Hll.out)
                     have hcw2 := Hc2.out k hkb
                     have hcb : w2.cell? ⟨b2, off2 + k, none⟩ = some (.int .u64 (gd ys k)) := (hbel2.cell (p := ⟨b2, off2 + k, none⟩) (World.block_lt_of_cell? _ _ hcw2)).trans hcw2
                     have hbb := hy.get k
                     have HGb := Lib.hid (Gb.out k)
                     clear hown2 hbel2
                     have hco : w2.cell? ⟨g, k, none⟩ = some (.int .u64 (vl (toF (gd zs k)))) := (by have h5 := Ho2.out; have h6 := Hl2.out; have h7 := Ow.cell (l := l.set k (toF (gd zs k))) (cap := n) (by rw [h6]; exact h5) (i := k) (by omega); rw [h7, cf_set _ _ _ _ (by have := Hll.out; omega), if_pos rfl])
                     clear hcw2
                     go_wp2_with fail
                     go_still_tail 12, (by kernel_rfl)
                     still_call (s_same (add_Fx _ _ _ hbb.1 hbb.2))
                     repeat still_step
                     refine wpStill_nil ?_
                     change wpList _ _ _ _ _ w2.drew
                     go_wp2_with (refine wl_store _ rfl (.tmp 50) (.tmp 49) rfl w.heap.size g k n n (l.set k (toF (gd zs k))) (toF (gd zs k) + toF (gd ys k)) w rfl rfl (Ow.drewN Ho2.out 1) Hl2.out hkn (below_drewN Hb2.out 1) ?_)
                     intro w3 hown3 hbel3 _
                     have Ho3 := Lib.hid hown3
                     have Hb3 := Lib.hid hbel3
                     clear hown3 hbel3
                     go_wp2
                     go_roundw
                     case rel =>
                       have hs := addrel_step (fa := fa) (fb := fb) (l := l) (y := toF (gd zs k) + toF (gd ys k)) hkn Hll.out H1.out H2.out (by rw [HGa.out, HGb.out])
                       have h8 := Ho3.out
                       exact ⟨k + 1, _, by omega, by go_num, by rw [List.length_set]; exact Hll.out, hs.1, hs.2, h8, Hb3.out⟩
                     case measure => simp [intOf] <;> omega
                     )
                ·
                  clear hown hbel hcw
                  have hzb : cf fb k = 0 := cf_ge (by have := Lb.out; omega)
                  have Hzb := Lib.hid hzb
                  clear hzb
                  go_wp2_with fail
                  refine (norm_any _ _ hba.1 hba.2).mono ?_
                  rintro e w' ⟨rfl, rfl⟩
                  clear hca
                  go_wp2_with (refine wl_store _ rfl (.tmp 34) (.tmp 33) rfl w.heap.size g k n n l (toF (gd zs k)) w rfl rfl Ho.out Hll.out hkn Hb.out ?_)
                  intro w2 hown2 hbel2 _
                  have Ho2 := Lib.hid hown2
                  have Hb2 := Lib.hid hbel2
                  clear hown2 hbel2
                  go_wp2
                  go_roundw
                  case rel =>
                    have hs := addrel_step (fa := fa) (fb := fb) (l := l) (y := toF (gd zs k)) hkn Hll.out H1.out H2.out (by rw [HGa.out, Hzb.out]; grind)
                    exact ⟨k + 1, _, by omega, by go_num, by rw [List.length_set]; exact Hll.out, hs.1, hs.2, Ho2.out, Hb2.out⟩
                  case measure => simp [intOf] <;> omega
                )
           · have hkb : k < ys.length := by omega
             first
             | (exfalso; omega)
             | (
                have hza : cf fa k = 0 := cf_ge (by have := La.out; omega)
                have Hza := Lib.hid hza
                clear hza
                have hcw2 := Hc2.out k hkb
                have hcb : wr.cell? ⟨b2, off2 + k, none⟩ = some (.int .u64 (gd ys k)) := (hbel.cell (p := ⟨b2, off2 + k, none⟩) (World.block_lt_of_cell? _ _ hcw2)).trans hcw2
                have hbb := hy.get k
                have HGb := Lib.hid (Gb.out k)
                clear hown hbel
                have hco : wr.cell? ⟨g, k, none⟩ = some (.int .u64 (vl (0))) := (by have h5 := Ho.out; have h6 := Hll.out; have h7 := Ow.cell (l := l) (cap := n) (by rw [h6]; exact h5) (i := k) (by omega); rw [h7, H2.out k (Nat.le_refl _)])
                clear hcw2
                go_wp2_with fail
                go_still_tail 12, (by kernel_rfl)
                still_call (s_same (add_Fx _ _ _ hbb.1 hbb.2))
                repeat still_step
                refine wpStill_nil ?_
                change wpList _ _ _ _ _ wr.drew
                go_wp2_with (refine wl_store _ rfl (.tmp 50) (.tmp 49) rfl w.heap.size g k n n l (toF (gd ys k)) w rfl rfl (Ow.drewN Ho.out 1) Hll.out hkn (below_drewN Hb.out 1) ?_)
                intro w3 hown3 hbel3 _
                have Ho3 := Lib.hid hown3
                have Hb3 := Lib.hid hbel3
                clear hown3 hbel3
                go_wp2
                go_roundw
                case rel =>
                  have hs := addrel_step (fa := fa) (fb := fb) (l := l) (y := toF (gd ys k)) hkn Hll.out H1.out H2.out (by rw [Hza.out, HGb.out]; grind)
                  exact ⟨k + 1, _, by omega, by go_num, by rw [List.length_set]; exact Hll.out, hs.1, hs.2, Ho3.out, Hb3.out⟩
                case measure => simp [intOf] <;> omega
                )
         ·
           obtain rfl : k = n := by omega
           have hle : l = addL fa fb := ext_cf (by rw [Hll.out]; simp only [addL, List.length_map, List.length_range, La.out, Lb.out]; exact Hn.out) (fun j hj => by rw [H1.out j (by have := Hll.out; omega), cf_addL])
           have hvl : (l.map vl).length ≤ 1000000 := by rw [List.length_map, Hll.out]; exact hnm
           have hrd : Rd .u64 wr (.slice (some ⟨g, 0, none⟩) k k) (l.map vl) := hown.rd
           have Hrd := Lib.hid hrd
           have Hle := Lib.hid hle
           clear hown hbel hle hrd
           go_wp2_with fail
           refine (normal_any (l.map vl) _ _ Hrd.out (B64.vl l) hvl).mono ?_
           rintro e w' ⟨v', rfl, hown', hbel'⟩
           rw [map_toF_vl, Hle.out] at hown'
           have Ho' := Lib.hid (hown'.mono hwsz)
           have Hb' := Lib.hid (Hb.out.trans (hbel'.mono hwsz))
           clear hown' hbel'
           go_wp2
           go_ret2
           exact ⟨_, rfl, Ho'.out, Hb'.out⟩
       )
end Go.Proofs.YtkcfnbfkbmgchaaDoor.Gm
