/- What the program's product of fractions returns. -/
import Derived.Test.YtoioafadenniiaaFRow
import Derived.Test.YtoioafadenniiaaBlk2
import Derived.Deep.DeepCutAuto
namespace Go.Proofs.Ytoioafadenniiaa
open Go.RowKit

set_option maxHeartbeats 1000000 in
theorem times_core (a b c d a1 a2 b1 b2 : Int) (w : World)
    (hp : ∀ w, Calls Try.prog 69 #[.int .i64 a, .int .i64 d] w fun e w' => e = .returned (.agg #[.int .i64 a1, .int .i64 a2]) ∧ Below w.heap.size w w')
    (hq : ∀ w, Calls Try.prog 69 #[.int .i64 c, .int .i64 b] w fun e w' => e = .returned (.agg #[.int .i64 b1, .int .i64 b2]) ∧ Below w.heap.size w w')
    (s1 : -9223372036854775808 ≤ a1 * b1) (s2 : a1 * b1 ≤ 9223372036854775807) (s3 : -9223372036854775808 ≤ a2 * b2) (s4 : a2 * b2 ≤ 9223372036854775807) :
    Calls Try.prog 57 #[.agg #[.int .i64 a, .int .i64 b], .agg #[.int .i64 c, .int .i64 d]] w fun e w' =>
      e = .returned (.agg #[.int .i64 (a1 * b1), .int .i64 (a2 * b2)]) ∧ Below w.heap.size w w' := by
  have HP := Lib.hid hp
  have HQ := Lib.hid hq
  have w1 : IntKind.i64.wrap (a1 * b1) = a1 * b1 := IntWalk.i64_in _ (by omega)
  have w2 : IntKind.i64.wrap (a2 * b2) = a2 * b2 := IntWalk.i64_in _ (by omega)
  clear hp hq
  go_enter Try.func57, Try.ntmps57
  go_upto_region 1 with fail
  refine wp_abstract (fun W => W.cell? ⟨w.heap.size, 0, none⟩ = some (.int .i64 a) ∧ W.cell? ⟨w.heap.size, 1, none⟩ = some (.int .i64 b) ∧ W.cell? ⟨w.heap.size + 1, 0, none⟩ = some (.int .i64 c) ∧ W.cell? ⟨w.heap.size + 1, 1, none⟩ = some (.int .i64 d) ∧
    Blk W (w.heap.size + 1 + 1) 31 [.int .i64 0, .int .i64 0] ∧ Below w.heap.size w W) ⟨by simp [go_sem], by simp [go_sem], by simp [go_sem], by simp [go_sem], Blk.made' _ (by simp) rfl, by (repeat' (first | (with_reducible exact Below.refl _ _) | (with_reducible assumption) | (with_reducible refine Below.drewN ?_ _) | (with_reducible refine Below.alloc ?_ ?_ _) | (with_reducible refine Below.drew ?_) | (with_reducible refine Below.setCell ?_ ?_ _) | (with_reducible refine Below.trans ?_ (Below.mono (by assumption) ?_)) | go_size | (with_reducible refine Nat.le_trans ?_ (Below.size (by assumption)))))⟩ ?_
  rintro W0 ⟨c1, c2, c3, c4, hbk, hb⟩
  have HBK := Lib.hid hbk
  have hlt := hbk.lt
  have hz := hb.size
  clear hbk
  have l6 : w.heap.size < W0.heap.size := by omega
  have l7 : w.heap.size + 1 < W0.heap.size := by omega
  have l8 : w.heap.size < W0.heap.size + 1 := by omega
  have l9 : w.heap.size + 1 < W0.heap.size + 1 := by omega
  have l10 : w.heap.size < W0.heap.size + 2 := by omega
  have l11 : w.heap.size + 1 < W0.heap.size + 2 := by omega
  go_cut [5, 6] (fun s5 s6 wx => ∃ g5 g6, s5 = .pointer (some ⟨g5, 0, none⟩) ∧ s6 = .pointer (some ⟨g6, 0, none⟩) ∧ W0.heap.size ≤ g5 ∧ W0.heap.size ≤ g6 ∧ Blk wx g5 31 [.int .i64 a1, .int .i64 a2] ∧ Blk wx g6 31 [.int .i64 b1, .int .i64 b2] ∧ Below W0.heap.size W0 wx)
  case first =>
    go_region_held3 (fun w' => w'.cell? ⟨w.heap.size, 0, none⟩ = some (.int .i64 a) ∧ w'.cell? ⟨w.heap.size, 1, none⟩ = some (.int .i64 b) ∧ w'.cell? ⟨w.heap.size + 1, 0, none⟩ = some (.int .i64 c) ∧ w'.cell? ⟨w.heap.size + 1, 1, none⟩ = some (.int .i64 d) ∧ Below w.heap.size w w')
      ((exact keepS4 (W := W0) (by (repeat' (first | (with_reducible exact Below.refl _ _) | (with_reducible assumption) | (with_reducible refine Below.drewN ?_ _) | (with_reducible refine Below.alloc ?_ ?_ _) | (with_reducible refine Below.drew ?_) | (with_reducible refine Below.setCell ?_ ?_ _) | (with_reducible refine Below.trans ?_ (Below.mono (by assumption) ?_)) | go_size | (with_reducible refine Nat.le_trans ?_ (Below.size (by assumption)))))) ⟨c1, c2, c3, c4, hb⟩))
      (first | (go_at_call_of 69 a; refine (HP.out _).mono ?_; rintro e w1 ⟨rfl, hb1⟩; obtain ⟨hc1, hf1⟩ := bcell hb1; have hz1 := hb1.size; (try simp only [World.size_alloc, World.size_drew] at hz1); (try have l100 : w.heap.size < w1.heap.size := (by omega)); (try have l101 : w.heap.size < w1.heap.size + 1 := (by omega)); (try have l110 : w.heap.size + 1 < w1.heap.size := (by omega)); (try have l111 : w.heap.size + 1 < w1.heap.size + 1 := (by omega)); (try have l120 : W0.heap.size < w1.heap.size := (by omega)); (try have l121 : W0.heap.size < w1.heap.size + 1 := (by omega)); (try have l130 : W0.heap.size + 1 < w1.heap.size := (by omega)); (try have l131 : W0.heap.size + 1 < w1.heap.size + 1 := (by omega)); (try have l140 : w2.heap.size < w1.heap.size := (by omega)); (try have l141 : w2.heap.size < w1.heap.size + 1 := (by omega)); (try have l150 : w2.heap.size + 1 < w1.heap.size := (by omega)); (try have l151 : w2.heap.size + 1 < w1.heap.size + 1 := (by omega))) | (go_at_call_of 69 c; refine (HQ.out _).mono ?_; rintro e w2 ⟨rfl, hb2⟩; obtain ⟨hc2, hf2⟩ := bcell hb2; have hz2 := hb2.size; (try simp only [World.size_alloc] at hz2); (try have l200 : w.heap.size < w2.heap.size := (by omega)); (try have l201 : w.heap.size < w2.heap.size + 1 := (by omega)); (try have l210 : w.heap.size + 1 < w2.heap.size := (by omega)); (try have l211 : w.heap.size + 1 < w2.heap.size + 1 := (by omega)); (try have l220 : W0.heap.size < w2.heap.size := (by omega)); (try have l221 : W0.heap.size < w2.heap.size + 1 := (by omega)); (try have l230 : W0.heap.size + 1 < w2.heap.size := (by omega)); (try have l231 : W0.heap.size + 1 < w2.heap.size + 1 := (by omega)); (try have l240 : w1.heap.size < w2.heap.size := (by omega)); (try have l241 : w1.heap.size < w2.heap.size + 1 := (by omega)); (try have l250 : w1.heap.size + 1 < w2.heap.size := (by omega)); (try have l251 : w1.heap.size + 1 < w2.heap.size + 1 := (by omega))))
    any_goals go_wp2_with fail
    any_goals go_meet
    all_goals refine ⟨_, _, rfl, rfl, ?_, ?_, ?_, ?_, ?_⟩
    all_goals first | omega | skip
    all_goals first | ((repeat' (first | ((with_reducible refine Blk.made' _ ?_ ?_) <;> first | rfl | (simp; done)) | (with_reducible refine Blk.two (x := .int .i64 0) (y := .int .i64 0) ?_ _ _) | (with_reducible refine Blk.drews ?_) | (with_reducible refine Blk.allocs ?_ _) | ((with_reducible refine Blk.others ?_ ?_); rotate_left; (focus (first | (simp; done) | (simp; omega)))) | (with_reducible refine Blk.below ?_ (by with_reducible assumption)))); done) | skip
    all_goals (repeat' (first | (with_reducible exact Below.refl _ _) | (with_reducible assumption) | (with_reducible refine Below.drewN ?_ _) | (with_reducible refine Below.alloc ?_ ?_ _) | (with_reducible refine Below.drew ?_) | (with_reducible refine Below.setCell ?_ ?_ _) | (with_reducible refine Below.trans ?_ (Below.mono (by assumption) ?_)) | go_size | (with_reducible refine Nat.le_trans ?_ (Below.size (by assumption)))))
  case rest =>
    obtain ⟨g5, g6, rfl, rfl, hg5, hg6, hk5, hk6, hb5⟩ := hcut
    have d1 := hk5.cell (j := 0) rfl
    have d2 := hk5.cell (j := 1) rfl
    have d3 := hk6.cell (j := 0) rfl
    have d4 := hk6.cell (j := 1) rfl
    have hl5 := hk5.lt
    have hl6 := hk6.lt
    have hb6 := HBK.out.below hb5
    have e1 := hb6.cell (j := 0) rfl
    have e2 := hb6.cell (j := 1) rfl
    have f1 := hb6.frozen 0
    have f2 := hb6.frozen 1
    have hb7 := hb.trans (hb5.mono hz)
    go_wp2_with fail
    have y1 := (hb6.set 0 (.int .i64 (a1 * b1))).cell (j := 0) rfl
    have y2 := ((hb6.set 0 (.int .i64 (a1 * b1))).set 1 (.int .i64 (a2 * b2))).cell (j := 1) rfl
    refine bodyPost_ret (v := .agg #[.int .i64 (a1 * b1), .int .i64 (a2 * b2)]) ?_ rfl ⟨rfl, ?_⟩
    · simp [results, Try.results57, go_sem, y1, y2]
    · exact (hb7.setCell (show w.heap.size ≤ w.heap.size + 1 + 1 by omega) _).setCell (show w.heap.size ≤ w.heap.size + 1 + 1 by omega) _

end Go.Proofs.Ytoioafadenniiaa
