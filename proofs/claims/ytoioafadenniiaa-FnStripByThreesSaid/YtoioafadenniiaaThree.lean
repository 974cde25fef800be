/- The strip of three points, of the reference. -/
import Derived.Test.YtoioafadenniiaaOvers
import Derived.Test.YtoioafadenniiaaBoxF
namespace Go.Proofs.Ytoioafadenniiaa
open Go.RowKit

set_option maxHeartbeats 8000000 in
set_option maxRecDepth 100000 in
theorem three_any (b o c b' o' c' n i k j : Nat) (xs ys : List Int) (r : Rat) (w : World) (h : RowI w b o xs) (h' : RowI w b' o' ys) (hp : Pl xs ys 7) (hn : xs.length = n) (hi : i < n) (hk : k < n) (hj : j < n) (hne : gi xs i ≠ gi xs j) (hr : dvH xs ys i j k = r) :
    Calls Try.prog 49 #[.slice (some ⟨b, o, none⟩) n c, .slice (some ⟨b', o', none⟩) n c', .int .i64 i, .int .i64 k, .int .i64 j] w fun e w' =>
      e = .returned (.agg #[.int .i64 (up r), .int .i64 (dn r)]) ∧ Below w.heap.size w w' := by
  have hl := hp.ne
  have c1 := h.cell i (by omega)
  have c2 := h.cell k (by omega)
  have c3 := h.cell j (by omega)
  have c4 := h'.cell i (by omega)
  have c5 := h'.cell k (by omega)
  have c6 := h'.cell j (by omega)
  have a1 := hp.x i (by omega)
  have a2 := hp.x k (by omega)
  have a3 := hp.x j (by omega)
  have a4 := hp.y i (by omega)
  have a5 := hp.y k (by omega)
  have a6 := hp.y j (by omega)
  have sm := dv_sm hp (i := i) (k := j) (j := k) (by omega) (by omega) (by omega) hne
  obtain ⟨sl, hsl⟩ : ∃ s, qd (gi ys j - gi ys i) (gi xs j - gi xs i) = s := ⟨_, rfl⟩
  have ssl : Sm 24 24 sl := hsl ▸ sm_slope (by omega) (by omega) (by omega)
  have e3 := three_eq (k := k) hne hsl
  obtain ⟨h0, hh0⟩ : ∃ s, qd (gi ys i) 1 - (sl * qd (gi xs i) 1 + 0) = s := ⟨_, rfl⟩
  rw [hh0] at e3
  obtain ⟨d, hd⟩ : ∃ s, qd (gi ys k) 1 - atR xs ys i j k = s := ⟨_, rfl⟩
  rw [hd] at e3
  have sd : Sm 1152 24 d := hd ▸ sm.2.2.2.1
  obtain ⟨sz, hsz⟩ : ∃ s, szR d = s := ⟨_, rfl⟩
  have ssz : Sm 1152 24 sz := hsz ▸ sm_sz sd
  have hrr : sz * qd 1 2 = r := by rw [← hsz, ← hd]; exact hr
  have sh0 : Sm 576 24 h0 := by
    have s1 := sm_prod ssl (sm_int (z := gi xs i) (M := 12) (by omega) (by omega))
    have s2 : Sm 288 24 (sl * qd (gi xs i) 1) := s1
    have s3 := sm_sub (sm_int (z := gi ys i) (M := 12) (by omega) (by omega)) s2
    rw [show sl * qd (gi xs i) 1 = sl * qd (gi xs i) 1 + 0 from by grind, hh0] at s3
    exact s3
  generalize gi xs i = x1 at *
  generalize gi xs k = x2 at *
  generalize gi xs j = x3 at *
  generalize gi ys i = y1 at *
  generalize gi ys k = y2 at *
  generalize gi ys j = y3 at *
  obtain ⟨q0, hq0⟩ : ∃ q, qd 0 1 = q := ⟨_, rfl⟩
  obtain ⟨q2, hq2⟩ : ∃ q, qd 1 2 = q := ⟨_, rfl⟩
  have e0 : q0 = 0 := by rw [← hq0, qd_i]; rfl
  have s0 : Sm 0 1 q0 := hq0 ▸ sm_int (by omega) (by omega)
  have s2 : Sm 1 2 q2 := hq2 ▸ sm_qd (by omega) (by omega) (by omega) (by omega)
  rw [← e0] at hh0
  rw [hq2] at hrr
  have t1 := sm_mul ssz s2
  have t2 := mul_bd (x := up sz) (y := up q2) (A := 1152) (B := 1) ⟨ssz.1, ssz.2.1⟩ ⟨s2.1, s2.2.1⟩
  have F0 := Lib.hid (fun w => sfrac_as 0 1 q0 hq0 w (by omega) (by omega) (by omega) (by omega) (by omega))
  have F2 := Lib.hid (fun w => sfrac_as 1 2 q2 hq2 w (by omega) (by omega) (by omega) (by omega) (by omega))
  have FS := Lib.hid (fun w => sfrac_as (y3 - y1) (x3 - x1) sl hsl w (by omega) (by omega) (by omega) (by omega) (by omega))
  have O1 := Lib.hid (fun w => sover_any x1 y1 sl q0 _ _ h0 24 24 0 1 w a1 a4 rfl rfl hh0 ssl s0 (by omega) (by omega) (by omega) (by omega) (by omega))
  have O2 := Lib.hid (fun w => sover_any x2 y2 sl h0 _ _ d 24 24 576 24 w a2 a5 rfl rfl e3 ssl sh0 (by omega) (by omega) (by omega) (by omega) (by omega))
  have SZ := Lib.hid (fun w => ssize_any d sz hsz w (by have := sd.1; omega) (by have := sd.2.1; omega))
  have TW := Lib.hid (fun w => stimes_any sz q2 r hrr w (by omega) (by omega))
  have tb : (x1 == x3) = false := by simpa using hne
  clear hr hsl ssl e3 hh0 hd sd hsz ssz hrr sh0 sm hq0 hq2 e0 s0 s2 t1 t2 hl h h' hp hn hne
  go_enter Try.func49, Try.ntmps49
  go_upto_region 1 with fail
  refine wp_abstract (fun W => Blk W w.heap.size 31 [.int .i64 0, .int .i64 0] ∧ Below w.heap.size w W) ⟨Blk.made' _ rfl rfl, by (repeat' (first | (with_reducible exact Below.refl _ _) | (with_reducible assumption) | (with_reducible refine Below.drewN ?_ _) | (with_reducible refine Below.alloc ?_ ?_ _) | (with_reducible refine Below.drew ?_) | (with_reducible refine Below.setCell ?_ ?_ _) | (with_reducible refine Below.trans ?_ (Below.mono (by assumption) ?_)) | go_size | (with_reducible refine Nat.le_trans ?_ (Below.size (by assumption)))))⟩ ?_
  rintro W0 ⟨k10, hb⟩
  have c1 := keepC hb c1
  have c2 := keepC hb c2
  have c3 := keepC hb c3
  have c4 := keepC hb c4
  have c5 := keepC hb c5
  have c6 := keepC hb c6
  have K10 := Lib.hid k10
  have B0 := Lib.hid hb
  have hz := hb.size
  clear k10 hb
  go_quiet (fail)
  go_upto_region 3 with fail
  (refine region_box_tail 19 (by kernel_rfl) (by kernel_rfl) rfl allocF ?_; intro WB gB hWB hgB; obtain ⟨ι, W, hCW, hWn, hWm, hWb⟩ := cl_worlds WB; rw [hCW])
  have b3 := (Below.drewN (Below.refl W0.heap.size W0) nq).trans (hWB.mono (by simp))
  have z1 : ∀ i', (W i').cell? ⟨b, o + i, none⟩ = some (.int .i64 x1) := fun i => keepC (hWb i) (keepC b3 c1)
  have z3 : ∀ i', (W i').cell? ⟨b, o + j, none⟩ = some (.int .i64 x3) := fun i => keepC (hWb i) (keepC b3 c3)
  have z4 : ∀ i', (W i').cell? ⟨b', o' + i, none⟩ = some (.int .i64 y1) := fun i => keepC (hWb i) (keepC b3 c4)
  have z6 : ∀ i', (W i').cell? ⟨b', o' + j, none⟩ = some (.int .i64 y3) := fun i => keepC (hWb i) (keepC b3 c6)
  (simp only [Act.put, List.setIfInBounds_toArray, List.set_cons_zero, List.set_cons_succ, List.take_succ_cons, List.take_zero]; (repeat (go_big_quiet_step ((go_at_call 47; exact (FS.out _).mono fun e w'' h => ⟨h.1, hWm _ _ h.2⟩)))); refine wpQuiet_nil ?_; rintro _ ⟨iw, rfl⟩ hkB)
  have b0 := hkB.cell (j := 0) rfl
  have b1 := hkB.cell (j := 1) rfl
  have b2 := hkB.frozen 0
  have b4 := hkB.frozen 1
  have lB := hkB.lt
  go_upto_region 4 with fail
  obtain ⟨g11, rfl⟩ : ∃ g, g = gB := ⟨_, rfl⟩
  obtain ⟨w9, hw9⟩ : ∃ w9, w9 = ((W iw).setCell ⟨g11, 0, none⟩ (.int .i64 (up sl))).setCell ⟨g11, 1, none⟩ (.int .i64 (dn sl)) := ⟨_, rfl⟩
  rw [← hw9]
  have k11 : Blk w9 g11 31 [.int .i64 (up sl), .int .i64 (dn sl)] := by rw [hw9]; exact hkB.two (x := .int .i64 0) (y := .int .i64 0) _ _
  have hg11 : W0.heap.size ≤ g11 := by simpa using hgB
  have bw9 : Below W0.heap.size W0 w9 := by rw [hw9]; exact ((b3.trans ((hWb iw).mono b3.size)).setCell (by show W0.heap.size ≤ g11; exact hg11) _).setCell (by show W0.heap.size ≤ g11; exact hg11) _
  have hz9 := bw9.size
  have d1 := k11.cell (j := 0) rfl
  have d2 := k11.cell (j := 1) rfl
  have c1 := keepC bw9 c1
  have c2 := keepC bw9 c2
  have c4 := keepC bw9 c4
  have c5 := keepC bw9 c5
  have K10 := Lib.hid (K10.out.below bw9)
  have B9 := Lib.hid (B0.out.trans (bw9.mono hz))
  clear hw9 hkB b0 b1 b2 b3 b4 lB k11 bw9 hWB z1 z3 z4 z6 hWb hWm hCW hWn hgB c3 c6 B0
  clear iw W
  have BX := Lib.hid K10.out.lt
  (refine region_box_tail 21 (by kernel_rfl) (by kernel_rfl) rfl allocF ?_; intro WB gB hWB hgB; obtain ⟨ι, W, hCW, hWn, hWm, hWb⟩ := cl_worlds WB; rw [hCW])
  have z1 : ∀ i', (W i').cell? ⟨b, o + i, none⟩ = some (.int .i64 x1) := fun i => keepC (hWb i) (keepC hWB c1)
  have z2 : ∀ i', (W i').cell? ⟨b, o + k, none⟩ = some (.int .i64 x2) := fun i => keepC (hWb i) (keepC hWB c2)
  have z4 : ∀ i', (W i').cell? ⟨b', o' + i, none⟩ = some (.int .i64 y1) := fun i => keepC (hWb i) (keepC hWB c4)
  have z5 : ∀ i', (W i').cell? ⟨b', o' + k, none⟩ = some (.int .i64 y2) := fun i => keepC (hWb i) (keepC hWB c5)
  have z7 : ∀ i, (W i).cell? ⟨g11, 0, none⟩ = some (.int .i64 (up sl)) := fun i => keepC (hWb i) (keepC hWB d1)
  have z8 : ∀ i, (W i).cell? ⟨g11, 1, none⟩ = some (.int .i64 (dn sl)) := fun i => keepC (hWb i) (keepC hWB d2)
  (simp only [Act.put, List.setIfInBounds_toArray, List.set_cons_zero, List.set_cons_succ, List.take_succ_cons, List.take_zero]; (repeat (go_big_quiet_step (first
    | (go_at_call 47; exact (F0.out _).mono fun e w'' h => ⟨h.1, hWm _ _ h.2⟩)
    | (go_at_call_of 75 q0; exact (O1.out _).mono fun e w'' h => ⟨h.1, hWm _ _ h.2⟩)
    | (go_at_call_of 75 h0; exact (O2.out _).mono fun e w'' h => ⟨h.1, hWm _ _ h.2⟩)))); refine wpQuiet_nil ?_; rintro _ ⟨iw, rfl⟩ hkB)
  have b0 := hkB.cell (j := 0) rfl
  have b1 := hkB.cell (j := 1) rfl
  have b2 := hkB.frozen 0
  have b4 := hkB.frozen 1
  have lB := hkB.lt
  have hbW := hWB.trans ((hWb iw).mono hWB.size)
  have K10 := Lib.hid (K10.out.below hbW)
  have BW := Lib.hid (B9.out.trans (hbW.mono B9.out.size))
  have l10 : w.heap.size < gB := by have := B9.out.size; have := BX.out; omega
  go_upto_region 5 with fail
  refine wp_abstract (fun W => Blk W gB 31 [.int .i64 (up d), .int .i64 (dn d)] ∧ Blk W w.heap.size 31 [.int .i64 0, .int .i64 0] ∧ Below w.heap.size w W)
    ⟨hkB.two (x := .int .i64 0) (y := .int .i64 0) _ _, (K10.out.others (show gB ≠ w.heap.size by omega)).others (show gB ≠ w.heap.size by omega), (BW.out.setCell (show w.heap.size ≤ gB by omega) _).setCell (show w.heap.size ≤ gB by omega) _⟩ ?_
  rintro w13 ⟨k12, k10, b13⟩
  have d1 := k12.cell (j := 0) rfl
  have d2 := k12.cell (j := 1) rfl
  have z13 := b13.size
  clear k12 hbW b0 b1 b2 b4 lB hkB hWB hWb hWm hCW hWn z1 z2 z4 z5 z7 z8 c1 c2 c4 c5
  go_wp2_with (first
    | (go_at_call 76; refine (SZ.out _).mono ?_; rintro e w14 ⟨rfl, b14⟩; have k14 := k10.below b14)
    | (go_at_call 47; refine (F2.out _).mono ?_; rintro e w15 ⟨rfl, b15⟩; have k15 := k14.below b15)
    | (go_at_call 67; refine (TW.out _).mono ?_; rintro e w16 ⟨rfl, b16⟩; have k16 := k15.below b16; have e1 := k16.cell (j := 0) rfl; have e2 := k16.cell (j := 1) rfl; have e3 := k16.frozen 0; have e4 := k16.frozen 1))
  refine bodyPost_ret (v := .agg #[.int .i64 (up r), .int .i64 (dn r)]) ?_ rfl ⟨rfl, ?_⟩
  · simp [results, Try.results49, go_sem, e1, e2]
  · have z14 := b14.size
    have z15 := b15.size
    exact ((b13.trans (((b14.trans (b15.mono z14)).trans (b16.mono (by omega))).mono z13)).setCell (Nat.le_refl _) _).setCell (Nat.le_refl _) _

end Go.Proofs.Ytoioafadenniiaa
