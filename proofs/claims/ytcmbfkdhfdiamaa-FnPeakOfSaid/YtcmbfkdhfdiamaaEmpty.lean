/- blocks, rise and riseMiss of no numbers. -/
import Derived.Test.YtcmbfkdhfdiamaaRiseMiss
namespace Go.Proofs.Ytcmbfkdhfdiamaa
open Go.RowKit

set_option maxHeartbeats 400000 in
theorem clipI_nil (w : World) : Calls Try.prog 98 #[.slice none 0 0] w fun e w' => e = .returned (.slice none 0 0) ∧ w = w' := by
  go_enter Try.func98, Try.ntmps98
  go_wp2
  go_ret
  exact ⟨rfl, rfl⟩

set_option maxHeartbeats 1000000 in
theorem blocks_nil (a a' : Option Addr) (c c' : Nat) (w : World) :
    Calls Try.prog 63 #[.slice a 0 c, .slice a' 0 c'] w fun e w' => e = .returned (.slice none 0 0) ∧ Below w.heap.size w w' := by
  go_enter Try.func63, Try.ntmps63
  go_wp2_with fail
  go_rounds 1
  go_wp2_with (go_at_call 98; refine (clipI_nil _).mono ?_; rintro e w1 ⟨rfl, rfl⟩)
  go_ret
  exact ⟨rfl, by (repeat' (first | (with_reducible exact Below.refl _ _) | (with_reducible assumption) | (with_reducible refine Below.drewN ?_ _) | (with_reducible refine Below.alloc ?_ ?_ _) | (with_reducible refine Below.drew ?_) | (with_reducible refine Below.setCell ?_ ?_ _) | (with_reducible refine Below.trans ?_ (Below.mono (by assumption) ?_)) | go_size | (with_reducible refine Nat.le_trans ?_ (Below.size (by assumption)))))⟩

set_option maxHeartbeats 1000000 in
theorem rise_nil (a a' : Option Addr) (c c' : Nat) (w : World) :
    Calls Try.prog 75 #[.slice a 0 c, .slice a' 0 c'] w fun e w' => ∃ g cap, e = .returned (.slice (some ⟨g, 0, none⟩) 0 cap) ∧ Below w.heap.size w w' := by
  obtain ⟨i0, hi, hz0, hz1, hz2⟩ := info_parts infoF
  go_enter Try.func75, Try.ntmps75
  go_wp2_with (first
    | (at_make; refine wpList_make_full _ rfl _ _ 37 rfl w.heap.size 29 i0 (.agg #[.int .i64 0, .int .i64 0]) 2 Try.underlying37 hi hz0 hz1 .i64 .i64 _ _ 0 rfl rfl rfl rfl (by rw [hz2]; omega) (by unfold maxLen; omega) (Nat.le_refl _) ?_; intro w2 o2 g2; have hb2 : Below w.heap.size w w2 := (Below.refl _ _).grown g2 (Nat.le_refl _) (fun k hk => by cases hk); have hz2' := hb2.size)
    | (go_at_call 63; refine (blocks_nil _ _ _ _ _).mono ?_; rintro e w3 ⟨rfl, hb3⟩; have hb4 : Below w.heap.size w w3 := hb2.trans (hb3.mono hz2'))
    | (at_builtin; refine wpList_app1 rfl (.tmp 15) (.tmp 18) 23 rfl w3.heap.size 3 (.int .i64 0) 1 8 Try.underlying23 infoI rfl (by decide) (by decide) _ _ _ rfl (World.ownsRow.alloc (OwnI.nil _ _) _) ⟨w3.heap.size, 0, none⟩ 1 [.int .i64 0] rfl rfl (cell_one_new _ _ _) (by simp [Value.oneCell']) (by omega) (by simp) ?_; intro g5 cap5 w5 o5 p5 q5))
  have hz4 := hb4.size
  have hb5 : Below w.heap.size w w5 := (hb4.alloc hz4 _).trans ((Below.app (World.ownsRow.alloc (OwnI.nil w3 w3.heap.size) _) (by simp) p5).mono (by omega))
  go_rounds 1
  go_wp2_with fail
  go_ret
  exact ⟨_, _, rfl, hb5⟩

theorem missR_nil : missR [] [] = 0 := rfl

set_option maxHeartbeats 1000000 in
theorem riseMiss_nil (a a' : Option Addr) (c c' : Nat) (w : World) :
    Calls Try.prog 69 #[.slice a 0 c, .slice a' 0 c'] w fun e w' => e = .returned (.agg #[.int .i64 0, .int .i64 1]) ∧ Below w.heap.size w w' := by
  have W0 := Lib.hid (whole_as 0 0 (by rw [qd_one]; rfl))
  go_enter Try.func69, Try.ntmps69
  go_wp2_with (first
    | (go_at_call 89; refine (W0.out _).mono ?_; rintro e w1 ⟨rfl, hb1⟩; have hz1 := hb1.size; have hk1 := (Blk.made w #[.int .i64 0, .int .i64 0] 29).below hb1; simp only [World.size_alloc] at hz1; have hbA : Below w.heap.size w w1 := below_alloc.trans (hb1.mono (by simp)); have hzA : w.heap.size ≤ w1.heap.size := (by omega))
    | (go_at_call 75; refine (rise_nil _ _ _ _ _).mono ?_; rintro e w2 ⟨g2, cap2, rfl, hb2⟩))
  have hz2 := hb2.size
  simp only [World.size_alloc] at hz2
  have hbB : Below w.heap.size w w2 := (hbA.alloc hzA _).trans (hb2.mono (by simp; omega))
  have hk5 := (Blk.made w1 #[.int .i64 0, .int .i64 1] 29).below hb2
  have hk4 := (hk1.below (below_alloc (W := w1) (o := .cells #[.int .i64 0, .int .i64 1] 29))).below hb2
  have o1 := hk5.cell (j := 0) rfl
  have o2 := hk5.cell (j := 1) rfl
  have x1 := hk4.cell (j := 0) rfl
  have x2 := hk4.cell (j := 1) rfl
  have f1 := hk4.frozen 0
  have f2 := hk4.frozen 1
  have l4 := hk4.lt
  have y1 := (hk4.set 0 (.int .i64 0)).cell (j := 0) rfl
  have y2 := ((hk4.set 0 (.int .i64 0)).set 1 (.int .i64 1)).cell (j := 1) rfl
  go_rounds 1
  go_wp2_with fail
  refine bodyPost_ret (v := .agg #[.int .i64 0, .int .i64 1]) ?_ rfl ⟨rfl, ?_⟩
  · simp [results, Try.results69, go_sem, y1, y2]
  · exact (hbB.setCell (Nat.le_refl _) _).setCell (Nat.le_refl _) _

end Go.Proofs.Ytcmbfkdhfdiamaa
