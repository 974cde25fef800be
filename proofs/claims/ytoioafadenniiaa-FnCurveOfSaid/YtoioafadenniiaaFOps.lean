/- What the program's quotient, half, size and slope of fractions return; sums of numbers. -/
import Derived.Test.YtoioafadenniiaaTimesQ
import Derived.Test.YtoioafadenniiaaTail
namespace Go.Proofs.Ytoioafadenniiaa
open Go.RowKit

set_option maxHeartbeats 1000000 in
theorem over_core (a b c d f1 f2 r1 r2 : Int) (w : World)
    (hp : ∀ w, Calls Try.prog 69 #[.int .i64 d, .int .i64 c] w fun e w' => e = .returned (.agg #[.int .i64 f1, .int .i64 f2]) ∧ Below w.heap.size w w')
    (hq : ∀ w, Calls Try.prog 57 #[.agg #[.int .i64 a, .int .i64 b], .agg #[.int .i64 f1, .int .i64 f2]] w fun e w' => e = .returned (.agg #[.int .i64 r1, .int .i64 r2]) ∧ Below w.heap.size w w') :
    Calls Try.prog 71 #[.agg #[.int .i64 a, .int .i64 b], .agg #[.int .i64 c, .int .i64 d]] w fun e w' =>
      e = .returned (.agg #[.int .i64 r1, .int .i64 r2]) ∧ Below w.heap.size w w' := by
  have HP := Lib.hid hp
  have HQ := Lib.hid hq
  clear hp hq
  go_enter Try.func71, Try.ntmps71
  go_upto_region 1 with fail
  refine wp_abstract (fun W => W.cell? ⟨w.heap.size, 0, none⟩ = some (.int .i64 a) ∧ W.cell? ⟨w.heap.size, 1, none⟩ = some (.int .i64 b) ∧ W.cell? ⟨w.heap.size + 1, 0, none⟩ = some (.int .i64 c) ∧ W.cell? ⟨w.heap.size + 1, 1, none⟩ = some (.int .i64 d) ∧
    Blk W (w.heap.size + 1 + 1) 31 [.int .i64 0, .int .i64 0] ∧ Below w.heap.size w W) ⟨by simp [go_sem], by simp [go_sem], by simp [go_sem], by simp [go_sem], Blk.made' _ (by simp) rfl, by (repeat' (first | (with_reducible exact Below.refl _ _) | (with_reducible assumption) | (with_reducible refine Below.drewN ?_ _) | (with_reducible refine Below.alloc ?_ ?_ _) | (with_reducible refine Below.drew ?_) | (with_reducible refine Below.setCell ?_ ?_ _) | (with_reducible refine Below.trans ?_ (Below.mono (by assumption) ?_)) | go_size | (with_reducible refine Nat.le_trans ?_ (Below.size (by assumption)))))⟩ ?_
  rintro W0 ⟨c1, c2, c3, c4, hbk, hb⟩
  obtain ⟨ι, W, hW0, hWm, hWb⟩ := good_worlds W0
  have hWn : Nonempty ι := hW0.elim fun i _ => ⟨i⟩
  have z1 : ∀ i, (W i).cell? ⟨w.heap.size, 0, none⟩ = some (.int .i64 a) := fun i => keepC (hWb i) c1
  have z2 : ∀ i, (W i).cell? ⟨w.heap.size, 1, none⟩ = some (.int .i64 b) := fun i => keepC (hWb i) c2
  have z3 : ∀ i, (W i).cell? ⟨w.heap.size + 1, 0, none⟩ = some (.int .i64 c) := fun i => keepC (hWb i) c3
  have z4 : ∀ i, (W i).cell? ⟨w.heap.size + 1, 1, none⟩ = some (.int .i64 d) := fun i => keepC (hWb i) c4
  have z5 : ∀ i, (W i).frozen? ⟨w.heap.size + 1 + 1, 0, none⟩ = false := fun i => (hbk.below (hWb i)).frozen 0
  have z6 : ∀ i, (W i).frozen? ⟨w.heap.size + 1 + 1, 1, none⟩ = false := fun i => (hbk.below (hWb i)).frozen 1
  have z7 : ∀ i, (W i).cell? ⟨w.heap.size + 1 + 1, 0, none⟩ = some (.int .i64 0) := fun i => (hbk.below (hWb i)).cell rfl
  have z8 : ∀ i, (W i).cell? ⟨w.heap.size + 1 + 1, 1, none⟩ = some (.int .i64 0) := fun i => (hbk.below (hWb i)).cell rfl
  have HBK := Lib.hid hbk
  have hz := hb.size
  clear hbk c1 c2 c3 c4
  (refine region_quiet_tail (C := fun w' => ∃ i, w' = W i) 7 (by kernel_rfl) (by kernel_rfl) hW0 ?_; simp only [List.take_succ_cons, List.take_zero, List.drop_succ_cons, List.drop_zero]; (repeat (go_big_quiet_step (first
    | (go_at_call 69; exact (HP.out _).mono fun e w'' h => ⟨h.1, hWm _ _ h.2⟩)
    | (go_at_call 57; exact (HQ.out _).mono fun e w'' h => ⟨h.1, hWm _ _ h.2⟩)))); refine wpQuiet_nil ?_; rintro _ ⟨iw, rfl⟩)
  go_wp2
  have y1 := (((HBK.out.below (hWb iw)).set 0 (.int .i64 r1)).set 1 (.int .i64 r2)).cell (j := 0) rfl
  have y2 := (((HBK.out.below (hWb iw)).set 0 (.int .i64 r1)).set 1 (.int .i64 r2)).cell (j := 1) rfl
  refine bodyPost_ret (v := .agg #[.int .i64 r1, .int .i64 r2]) ?_ rfl ⟨rfl, ?_⟩
  · simp [results, Try.results71, go_sem, y1, y2]
  · exact ((hb.trans ((hWb iw).mono hz)).setCell (show w.heap.size ≤ w.heap.size + 1 + 1 by omega) _).setCell (show w.heap.size ≤ w.heap.size + 1 + 1 by omega) _

/-- p over q is r. -/
theorem over_any (p q f r : Rat) (A B C D : Int) (hf : qd (dn q) (up q) = f) (hr : p * f = r) (w : World) (h0 : up q ≠ 0) (hp : Sm A B p) (hq : Sm C D q)
    (h1 : A ≤ 4611686018427387904) (h2 : B ≤ 4611686018427387904) (h3 : C ≤ 4611686018427387904) (h4 : D ≤ 4611686018427387904) (h5 : A * D ≤ 4611686018427387904) (h6 : B * C ≤ 4611686018427387904) :
    Calls Try.prog 71 #[.agg #[.int .i64 (up p), .int .i64 (dn p)], .agg #[.int .i64 (up q), .int .i64 (dn q)]] w fun e w' =>
      e = .returned (.agg #[.int .i64 (up r), .int .i64 (dn r)]) ∧ Below w.heap.size w w' := by
  have sf : Sm D C f := by
    have d1 := dn_pos q
    obtain ⟨q1, q2, q3⟩ := hq
    rw [← hf]
    rcases Int.lt_or_gt_of_ne h0 with hn | hn
    · rw [show qd (dn q) (up q) = qd (-dn q) (-up q) from (qd_eq (by omega) (by omega)).2 (by grind)]
      exact sm_qd (by omega) (by omega) (by omega) (by omega)
    · exact sm_qd (by omega) (by omega) (by omega) (by omega)
  have sp := sm_prod hp sf
  rw [hr] at sp
  obtain ⟨p1, p2, p3⟩ := hp
  obtain ⟨q1, q2, q3⟩ := hq
  obtain ⟨f1, f2, f3⟩ := sf
  exact over_core _ _ _ _ _ _ _ _ w (fun w => frac_as _ _ f hf w (by have := dn_pos q; omega) (by omega) (by omega) (by omega) h0)
    (fun w => times_any p f r hr w (by omega) (by omega) (by omega) (by omega) (by omega) (by omega))

set_option maxHeartbeats 1000000 in
theorem half_any (p r : Rat) (A B : Int) (hr : p * qd 1 2 = r) (w : World) (hp : Sm A B p) (h1 : A ≤ 4611686018427387904) (h2 : B * 2 ≤ 4611686018427387904) :
    Calls Try.prog 53 #[.agg #[.int .i64 (up p), .int .i64 (dn p)]] w fun e w' =>
      e = .returned (.agg #[.int .i64 (up r), .int .i64 (dn r)]) ∧ Below w.heap.size w w' := by
  have hu : up (qd 1 2) = 1 := by rw [num_pos (by decide)]; rfl
  have hd : dn (qd 1 2) = 2 := by rw [den_pos (by decide)]; rfl
  have sp := sm_prod hp (sm_qd (n := 1) (d := 2) (A := 1) (B := 2) (by omega) (by omega) (by omega) (by omega))
  have hp0 := dn_pos p
  rw [hr] at sp
  obtain ⟨p1, p2, p3⟩ := hp
  have TW := Lib.hid (fun w => times_any p (qd 1 2) r hr w (by omega) (by omega) (by rw [hu]; omega) (by rw [hd]; omega) (by omega) (by omega))
  rw [hu, hd] at TW
  obtain ⟨a, ha⟩ : ∃ a, up p = a := ⟨_, rfl⟩
  obtain ⟨b, hb⟩ : ∃ a, dn p = a := ⟨_, rfl⟩
  rw [ha, hb] at TW ⊢
  clear hr hu hd sp p1 p2 p3 hp0 ha hb
  go_enter Try.func53, Try.ntmps53
  go_wp2_with (go_at_call 57; refine (TW.out _).mono ?_; rintro e w1 ⟨rfl, hb1⟩; obtain ⟨hc1, hf1⟩ := bcell hb1)
  refine bodyPost_ret (v := .agg #[.int .i64 (up r), .int .i64 (dn r)]) ?_ rfl ⟨rfl, ?_⟩
  · simp [results, Try.results53, go_sem, hc1]
  · (repeat' (first | (with_reducible exact Below.refl _ _) | (with_reducible assumption) | (with_reducible refine Below.drewN ?_ _) | (with_reducible refine Below.alloc ?_ ?_ _) | (with_reducible refine Below.drew ?_) | (with_reducible refine Below.setCell ?_ ?_ _) | (with_reducible refine Below.trans ?_ (Below.mono (by assumption) ?_)) | go_size | (with_reducible refine Nat.le_trans ?_ (Below.size (by assumption)))))

/-- The size of a rational number. -/
def szR (q : Rat) : Rat := if q < 0 then -q else q
theorem dn_sz (q : Rat) : dn (szR q) = dn q := by unfold szR; split <;> simp [dn_neg]
theorem up_sz (q : Rat) : up (szR q) = if up q < -up q then -up q else up q := by
  unfold szR
  by_cases hq : q < 0
  · have := (up_lt_zero q).2 hq
    rw [if_pos hq, up_neg, if_pos (by omega)]
  · have : ¬ up q < 0 := fun h => hq ((up_lt_zero q).1 h)
    rw [if_neg hq, if_neg (by omega)]
theorem sm_sz {A B : Int} {q : Rat} (h : Sm A B q) : Sm A B (szR q) := by
  obtain ⟨h1, h2, h3⟩ := h
  refine ⟨?_, ?_, by rw [dn_sz]; exact h3⟩ <;> rw [up_sz] <;> split <;> omega

set_option maxHeartbeats 1000000 in
theorem size_any (p r : Rat) (hr : szR p = r) (w : World) (h1 : -4611686018427387904 ≤ up p) (h2 : up p ≤ 4611686018427387904) :
    Calls Try.prog 52 #[.agg #[.int .i64 (up p), .int .i64 (dn p)]] w fun e w' =>
      e = .returned (.agg #[.int .i64 (up r), .int .i64 (dn r)]) ∧ Below w.heap.size w w' := by
  have e1 := up_sz p
  have e2 := dn_sz p
  rw [hr] at e1 e2
  rw [e1, e2]
  clear e1 e2 hr
  generalize up p = a at *
  generalize dn p = b at *
  obtain ⟨m, hm⟩ : ∃ m, (if a < -a then -a else a) = m := ⟨_, rfl⟩
  have hx : max a (-a) = m := by rw [← hm]; split <;> omega
  rw [hm]
  go_enter Try.func52, Try.ntmps52
  go_wp2
  refine bodyPost_ret (v := .agg #[.int .i64 m, .int .i64 b]) ?_ rfl ⟨rfl, ?_⟩
  · simp [results, Try.results52, go_sem]
  · (repeat' (first | (with_reducible exact Below.refl _ _) | (with_reducible assumption) | (with_reducible refine Below.drewN ?_ _) | (with_reducible refine Below.alloc ?_ ?_ _) | (with_reducible refine Below.drew ?_) | (with_reducible refine Below.setCell ?_ ?_ _) | (with_reducible refine Below.trans ?_ (Below.mono (by assumption) ?_)) | go_size | (with_reducible refine Nat.le_trans ?_ (Below.size (by assumption)))))

set_option maxHeartbeats 1000000 in
theorem slope_any (b o c b' o' c' i k : Nat) (xs ys : List Int) (r : Rat) (w : World) (h : RowI w b o xs) (h' : RowI w b' o' ys) (hi : i < xs.length) (hk : k < xs.length) (hl : xs.length = ys.length)
    (hx : ∀ j, j < xs.length → -1000000 ≤ gi xs j ∧ gi xs j ≤ 1000000) (hy : ∀ j, j < ys.length → -1000000 ≤ gi ys j ∧ gi ys j ≤ 1000000) (hne : gi xs i ≠ gi xs k) (hr : qd (gi ys i - gi ys k) (gi xs i - gi xs k) = r) :
    Calls Try.prog 56 #[.slice (some ⟨b, o, none⟩) xs.length c, .slice (some ⟨b', o', none⟩) ys.length c', .int .i64 i, .int .i64 k] w fun e w' =>
      e = .returned (.agg #[.int .i64 (up r), .int .i64 (dn r)]) ∧ Below w.heap.size w w' := by
  have a1 := hx i hi
  have a2 := hx k hk
  have a3 := hy i (by omega)
  have a4 := hy k (by omega)
  have c1 := h.cell i hi
  have c2 := h.cell k hk
  have c3 := h'.cell i (by omega)
  have c4 := h'.cell k (by omega)
  obtain ⟨n, hn⟩ : ∃ n, ys.length = n := ⟨_, rfl⟩
  rw [hl, hn] at hi hk ⊢
  clear h h' hx hy hl hn
  generalize gi xs i = x at *
  generalize gi xs k = y at *
  generalize gi ys i = u at *
  generalize gi ys k = v at *
  have q1 : IntKind.i64.wrap (x - y) = x - y := IntWalk.i64_in _ (by omega)
  have q2 : IntKind.i64.wrap (u - v) = u - v := IntWalk.i64_in _ (by omega)
  have FW := Lib.hid (fun w => frac_as (u - v) (x - y) r hr w (by omega) (by omega) (by omega) (by omega) (by omega))
  clear hr hne
  go_enter Try.func56, Try.ntmps56
  go_upto_region 1 with fail
  refine wp_abstract (fun W => Blk W w.heap.size 31 [.int .i64 0, .int .i64 0] ∧ Below w.heap.size w W) ⟨Blk.made' _ (by simp) rfl, by (repeat' (first | (with_reducible exact Below.refl _ _) | (with_reducible assumption) | (with_reducible refine Below.drewN ?_ _) | (with_reducible refine Below.alloc ?_ ?_ _) | (with_reducible refine Below.drew ?_) | (with_reducible refine Below.setCell ?_ ?_ _) | (with_reducible refine Below.trans ?_ (Below.mono (by assumption) ?_)) | go_size | (with_reducible refine Nat.le_trans ?_ (Below.size (by assumption)))))⟩ ?_
  rintro W0 ⟨hbk, hb⟩
  obtain ⟨ι, W, hW0, hWm, hWb⟩ := good_worlds W0
  have hWn : Nonempty ι := hW0.elim fun i _ => ⟨i⟩
  have z1 : ∀ i', (W i').cell? ⟨b, o + i, none⟩ = some (.int .i64 x) := fun i => keepC (hWb i) (keepC hb c1)
  have z2 : ∀ i', (W i').cell? ⟨b, o + k, none⟩ = some (.int .i64 y) := fun i => keepC (hWb i) (keepC hb c2)
  have z3 : ∀ i', (W i').cell? ⟨b', o' + i, none⟩ = some (.int .i64 u) := fun i => keepC (hWb i) (keepC hb c3)
  have z4 : ∀ i', (W i').cell? ⟨b', o' + k, none⟩ = some (.int .i64 v) := fun i => keepC (hWb i) (keepC hb c4)
  have z5 : ∀ i, (W i).frozen? ⟨w.heap.size, 0, none⟩ = false := fun i => (hbk.below (hWb i)).frozen 0
  have z6 : ∀ i, (W i).frozen? ⟨w.heap.size, 1, none⟩ = false := fun i => (hbk.below (hWb i)).frozen 1
  have z7 : ∀ i, (W i).cell? ⟨w.heap.size, 0, none⟩ = some (.int .i64 0) := fun i => (hbk.below (hWb i)).cell rfl
  have z8 : ∀ i, (W i).cell? ⟨w.heap.size, 1, none⟩ = some (.int .i64 0) := fun i => (hbk.below (hWb i)).cell rfl
  have HBK := Lib.hid hbk
  have hz := hb.size
  clear hbk c1 c2 c3 c4
  (refine region_quiet_tail (C := fun w' => ∃ i, w' = W i) 19 (by kernel_rfl) (by kernel_rfl) hW0 ?_; simp only [List.take_succ_cons, List.take_zero, List.drop_succ_cons, List.drop_zero]; (repeat (go_big_quiet_step ((go_at_call 69; exact (FW.out _).mono fun e w'' h => ⟨h.1, hWm _ _ h.2⟩)))); refine wpQuiet_nil ?_; rintro _ ⟨iw, rfl⟩)
  go_wp2
  have y1 := (((HBK.out.below (hWb iw)).set 0 (.int .i64 (up r))).set 1 (.int .i64 (dn r))).cell (j := 0) rfl
  have y2 := (((HBK.out.below (hWb iw)).set 0 (.int .i64 (up r))).set 1 (.int .i64 (dn r))).cell (j := 1) rfl
  refine bodyPost_ret (v := .agg #[.int .i64 (up r), .int .i64 (dn r)]) ?_ rfl ⟨rfl, ?_⟩
  · simp [results, Try.results56, go_sem, y1, y2]
  · exact ((hb.trans ((hWb iw).mono hz)).setCell (Nat.le_refl _) _).setCell (Nat.le_refl _) _

end Go.Proofs.Ytoioafadenniiaa
