/- The reference's distance from a line, and size; the strip of three points. -/
import Derived.Test.YtoioafadenniiaaStripP
import Derived.Test.YtoioafadenniiaaLineSq
namespace Go.Proofs.Ytoioafadenniiaa
open Go.RowKit

set_option maxHeartbeats 1000000 in
theorem ssize_any (p r : Rat) (hr : szR p = r) (w : World) (h1 : -4611686018427387904 ≤ up p) (h2 : up p ≤ 4611686018427387904) :
    Calls Try.prog 76 #[.agg #[.int .i64 (up p), .int .i64 (dn p)]] w fun e w' =>
      e = .returned (.agg #[.int .i64 (up r), .int .i64 (dn r)]) ∧ Below w.heap.size w w' := by
  have e1 := up_sz p
  have e2 := dn_sz p
  rw [hr] at e1 e2
  rw [e1, e2]
  clear e1 e2 hr
  generalize up p = a at *
  generalize dn p = b at *
  obtain ⟨m, hm⟩ : ∃ m, (if a < -a then -a else a) = m := ⟨_, rfl⟩
  have hx : max a (-a) = m := by rw [← hm]; split <;> omega
  rw [hm]
  go_enter Try.func76, Try.ntmps76
  go_wp2
  refine bodyPost_ret (v := .agg #[.int .i64 m, .int .i64 b]) ?_ rfl ⟨rfl, ?_⟩
  · simp [results, Try.results76, go_sem]
  · (repeat' (first | (with_reducible exact Below.refl _ _) | (with_reducible assumption) | (with_reducible refine Below.drewN ?_ _) | (with_reducible refine Below.alloc ?_ ?_ _) | (with_reducible refine Below.drew ?_) | (with_reducible refine Below.setCell ?_ ?_ _) | (with_reducible refine Below.trans ?_ (Below.mono (by assumption) ?_)) | go_size | (with_reducible refine Nat.le_trans ?_ (Below.size (by assumption)))))

set_option maxHeartbeats 4000000 in
/-- y - (a x + b) is r. -/
theorem sover_any (x y : Int) (A B t s r : Rat) (a1 a2 b1 b2 : Int) (w : World) (h1 : -12 ≤ x ∧ x ≤ 12) (h2 : -12 ≤ y ∧ y ≤ 12) (ht : A * qd x 1 = t) (hs : t + B = s) (hr : qd y 1 - s = r)
    (sa : Sm a1 a2 A) (sb : Sm b1 b2 B) (l1 : a1 * 12 * b2 + b1 * (a2 * 1) ≤ 100000000000000000) (l2 : a2 * 1 * b2 ≤ 100000000000000000) (l3 : 0 ≤ a1 * 12 * b2 + b1 * (a2 * 1)) (l4 : a1 * 12 ≤ 100000000000000000) (l5 : a2 ≤ 100000000000000000) :
    Calls Try.prog 75 #[.int .i64 x, .int .i64 y, .agg #[.int .i64 (up A), .int .i64 (dn A)], .agg #[.int .i64 (up B), .int .i64 (dn B)]] w fun e w' =>
      e = .returned (.agg #[.int .i64 (up r), .int .i64 (dn r)]) ∧ Below w.heap.size w w' := by
  obtain ⟨qx, hqx⟩ : ∃ q, qd x 1 = q := ⟨_, rfl⟩
  obtain ⟨qy, hqy⟩ : ∃ q, qd y 1 = q := ⟨_, rfl⟩
  have sqx : Sm 12 1 qx := hqx ▸ sm_int h1.1 h1.2
  have sqy : Sm 12 1 qy := hqy ▸ sm_int h2.1 h2.2
  have st : Sm (a1 * 12) (a2 * 1) t := by have := sm_prod sa sqx; rw [hqx] at ht; rw [ht] at this; exact this
  have ss : Sm (a1 * 12 * b2 + b1 * (a2 * 1)) (a2 * 1 * b2) s := hs ▸ sm_add st sb
  have k1 := mul_bd (x := up A) (y := up qx) ⟨sa.1, sa.2.1⟩ ⟨sqx.1, sqx.2.1⟩
  have k2 := (sm_mul sa sqx).1
  have k3 := sm_mul st sb
  have k4 := sm_mul sqy ss
  rw [hqx] at ht
  rw [hqy] at hr
  have FX := Lib.hid (fun w => sfrac_as x 1 qx hqx w (by omega) (by omega) (by omega) (by omega) (by omega))
  have FY := Lib.hid (fun w => sfrac_as y 1 qy hqy w (by omega) (by omega) (by omega) (by omega) (by omega))
  have TW := Lib.hid (fun w => stimes_any A qx t ht w (by omega) (by omega))
  have PW := Lib.hid (fun w => splus_any t B s hs w (by omega) (by omega))
  have RW := Lib.hid (fun w => sminus_any qy s r hr w (by omega) (by omega))
  obtain ⟨uA, huA⟩ : ∃ u, up A = u := ⟨_, rfl⟩
  obtain ⟨dA, hdA⟩ : ∃ u, dn A = u := ⟨_, rfl⟩
  obtain ⟨uB, huB⟩ : ∃ u, up B = u := ⟨_, rfl⟩
  obtain ⟨dB, hdB⟩ : ∃ u, dn B = u := ⟨_, rfl⟩
  rw [huA, hdA] at TW ⊢
  rw [huB, hdB] at PW ⊢
  clear ht hs hr sa sb l1 l2 l3 l4 l5 st ss k1 k2 k3 k4 hqx hqy sqx sqy huA hdA huB hdB
  go_enter Try.func75, Try.ntmps75
  go_upto_region 1 with fail
  refine wp_abstract (fun W => W.cell? ⟨w.heap.size, 0, none⟩ = some (.int .i64 uA) ∧ W.cell? ⟨w.heap.size, 1, none⟩ = some (.int .i64 dA) ∧ W.cell? ⟨w.heap.size + 1, 0, none⟩ = some (.int .i64 uB) ∧ W.cell? ⟨w.heap.size + 1, 1, none⟩ = some (.int .i64 dB) ∧
    Blk W (w.heap.size + 1 + 1) 31 [.int .i64 0, .int .i64 0] ∧ Below w.heap.size w W) ⟨by simp [go_sem], by simp [go_sem], by simp [go_sem], by simp [go_sem], Blk.made' _ (by simp) rfl, by (repeat' (first | (with_reducible exact Below.refl _ _) | (with_reducible assumption) | (with_reducible refine Below.drewN ?_ _) | (with_reducible refine Below.alloc ?_ ?_ _) | (with_reducible refine Below.drew ?_) | (with_reducible refine Below.setCell ?_ ?_ _) | (with_reducible refine Below.trans ?_ (Below.mono (by assumption) ?_)) | go_size | (with_reducible refine Nat.le_trans ?_ (Below.size (by assumption)))))⟩ ?_
  rintro W0 ⟨c1, c2, c3, c4, hbk, hb⟩
  obtain ⟨ι, W, hW0, hWm, hWb⟩ := good_worlds W0
  have hWn : Nonempty ι := hW0.elim fun i _ => ⟨i⟩
  have z1 : ∀ i, (W i).cell? ⟨w.heap.size, 0, none⟩ = some (.int .i64 uA) := fun i => keepC (hWb i) c1
  have z2 : ∀ i, (W i).cell? ⟨w.heap.size, 1, none⟩ = some (.int .i64 dA) := fun i => keepC (hWb i) c2
  have z3 : ∀ i, (W i).cell? ⟨w.heap.size + 1, 0, none⟩ = some (.int .i64 uB) := fun i => keepC (hWb i) c3
  have z4 : ∀ i, (W i).cell? ⟨w.heap.size + 1, 1, none⟩ = some (.int .i64 dB) := fun i => keepC (hWb i) c4
  have z5 : ∀ i, (W i).frozen? ⟨w.heap.size + 1 + 1, 0, none⟩ = false := fun i => (hbk.below (hWb i)).frozen 0
  have z6 : ∀ i, (W i).frozen? ⟨w.heap.size + 1 + 1, 1, none⟩ = false := fun i => (hbk.below (hWb i)).frozen 1
  have z7 : ∀ i, (W i).cell? ⟨w.heap.size + 1 + 1, 0, none⟩ = some (.int .i64 0) := fun i => (hbk.below (hWb i)).cell rfl
  have z8 : ∀ i, (W i).cell? ⟨w.heap.size + 1 + 1, 1, none⟩ = some (.int .i64 0) := fun i => (hbk.below (hWb i)).cell rfl
  have HBK := Lib.hid hbk
  have hz := hb.size
  clear hbk c1 c2 c3 c4
  (refine region_quiet_tail (C := fun w' => ∃ i, w' = W i) 9 (by kernel_rfl) (by kernel_rfl) hW0 ?_; simp only [List.take_succ_cons, List.take_zero, List.drop_succ_cons, List.drop_zero]; (repeat (go_big_quiet_step (first
    | (go_at_call_of 47 y; exact (FY.out _).mono fun e w'' h => ⟨h.1, hWm _ _ h.2⟩)
    | (go_at_call_of 47 x; exact (FX.out _).mono fun e w'' h => ⟨h.1, hWm _ _ h.2⟩)
    | (go_at_call 67; exact (TW.out _).mono fun e w'' h => ⟨h.1, hWm _ _ h.2⟩)
    | (go_at_call 66; exact (PW.out _).mono fun e w'' h => ⟨h.1, hWm _ _ h.2⟩)
    | (go_at_call 77; exact (RW.out _).mono fun e w'' h => ⟨h.1, hWm _ _ h.2⟩)))); refine wpQuiet_nil ?_; rintro _ ⟨iw, rfl⟩)
  go_wp2
  have y1 := (((HBK.out.below (hWb iw)).set 0 (.int .i64 (up r))).set 1 (.int .i64 (dn r))).cell (j := 0) rfl
  have y2 := (((HBK.out.below (hWb iw)).set 0 (.int .i64 (up r))).set 1 (.int .i64 (dn r))).cell (j := 1) rfl
  refine bodyPost_ret (v := .agg #[.int .i64 (up r), .int .i64 (dn r)]) ?_ rfl ⟨rfl, ?_⟩
  · simp [results, Try.results75, go_sem, y1, y2]
  · exact ((hb.trans ((hWb iw).mono hz)).setCell (show w.heap.size ≤ w.heap.size + 1 + 1 by omega) _).setCell (show w.heap.size ≤ w.heap.size + 1 + 1 by omega) _

end Go.Proofs.Ytoioafadenniiaa
