/- impl.rowsOf: the rows that fit, handed over one by one to a callback. -/
import Derived.Test.YtpcnjkgoehepaaaTabG
import Derived.Test.YtpcnjkgoehepaaaTabF
import Derived.RegionTactic
import Derived.Deep.RegionHeld3
import Derived.Deep.DeepCutAuto
namespace Go.Proofs.Ytpcnjkgoehepaaa
open Go.RowKit

/-- All blocks that were there but those of S are as they were. -/
structure Kp (S : Nat → Prop) (w w' : World) : Prop where
  os : w'.os = w.os
  tape : w'.tape = w.tape
  output : w'.output = w.output
  size : w.heap.size ≤ w'.heap.size
  block : ∀ k, k < w.heap.size → ¬ S k → w'.heap[k]? = w.heap[k]?
theorem Kp.refl (S : Nat → Prop) (w : World) : Kp S w w := ⟨rfl, rfl, rfl, Nat.le_refl _, fun _ _ _ => rfl⟩
theorem Kp.trans {S : Nat → Prop} {w w1 w2 : World} (h : Kp S w w1) (h' : Kp S w1 w2) : Kp S w w2 :=
  ⟨h'.os.trans h.os, h'.tape.trans h.tape, h'.output.trans h.output, Nat.le_trans h.size h'.size, fun k hk hs => (h'.block k (Nat.lt_of_lt_of_le hk h.size) hs).trans (h.block k hk hs)⟩
theorem Kp.of_below {S : Nat → Prop} {w w' : World} (h : Below w.heap.size w w') : Kp S w w' := ⟨h.os, h.tape, h.output, h.size, fun k hk _ => h.block k hk⟩
theorem Kp.cell {S : Nat → Prop} {w w' : World} (h : Kp S w w') {p : Addr} {v : Value} (hp : ¬ S p.block) (hc : w.cell? p = some v) : w'.cell? p = some v :=
  (World.cell?_of_block (h.block p.block (World.block_lt_of_cell? w p hc) hp)).trans hc
theorem Kp.row {S : Nat → Prop} {w w' : World} (h : Kp S w w') {b o : Nat} {xs : List Int} (hp : ¬ S b) (hc : RowI w b o xs) : RowI w' b o xs :=
  ⟨Nat.lt_of_lt_of_le hc.blk h.size, fun k hk => (World.cell?_of_block (a := ⟨b, o + k, none⟩) (h.block b hc.blk hp)).trans (hc.cell k hk)⟩
/-- A row that is handed over: nil, or a row of its own. -/
def Rv (w : World) (v : Value) (row : List Int) : Prop := (v = .slice none 0 0 ∧ row = []) ∨ ∃ b c, v = .slice (some ⟨b, 0, none⟩) row.length c ∧ RowI w b 0 row
theorem Rv.below {w w' : World} {v : Value} {row : List Int} (h : Rv w v row) (hb : Below w.heap.size w w') : Rv w' v row := by
  rcases h with h | ⟨b, c, h1, h2⟩
  · exact .inl h
  · exact .inr ⟨b, c, h1, h2.below hb⟩
theorem Rv.of_own {w : World} {base n : Nat} {v : Value} {xs : List Int} (h : OwnI w base v n xs) : Rv w v xs := by
  have hl := h.len
  by_cases e : n = 0
  · subst e
    rcases h.2 with ⟨h1, _⟩ | ⟨g, cap, cur, rfl, _, _⟩
    · exact .inl ⟨h1, List.eq_nil_of_length_eq_zero hl⟩
    · exact .inr ⟨g, cap, by rw [hl], h.row⟩
  · obtain ⟨g, cap, rfl, _⟩ := OwnI.shape h e
    exact .inr ⟨g, cap, by rw [hl], h.row⟩
/-- What a callback does at the i-th row. -/
def CBK (S : Nat → Prop) (F : FuncId) (args : Value → Array Value) (J : Nat → World → Prop) (i : Nat) (row : List Int) : Prop :=
  ∀ W v, J i W → Rv W v row → Calls Try.prog F (args v) W fun e W' => e = .returned (.tuple #[]) ∧ J (i + 1) W' ∧ Kp S W W'
/-- A state that the blocks below base tell. -/
def Stb (base : Nat) (J : Nat → World → Prop) : Prop := ∀ i W W', J i W → Below base W W' → J i W'
theorem cell2_at {w : World} {a b : Value} {t : TypeId} {g : Nat} (hg : w.heap.size = g) : (w.alloc (.cells #[a, b] t)).cell? ⟨g, 0, none⟩ = some a ∧ (w.alloc (.cells #[a, b] t)).cell? ⟨g, 1, none⟩ = some b := by
  subst hg
  have h := Blk.made w #[a, b] t
  exact ⟨h.cell (j := 0) rfl, h.cell (j := 1) rfl⟩
theorem below2 {w : World} {a b : Obj} : Below w.heap.size w ((w.alloc a).alloc b) := below_alloc.trans (below_alloc.mono below_alloc.size)
set_option maxHeartbeats 8000000 in
set_option maxRecDepth 100000 in
theorem rows1_t (S : Nat → Prop) (base : Nat) (J : Nat → World → Prop) (i : Nat) (a1 a2 a3 a4 v : Value) (x : Int) (row : List Int) (g5 g6 : Nat) (w : World) (hS : Stb base J) (hb : base ≤ w.heap.size) (hl : row.length ≤ 10)
    (hcb : CBK S 41 (fun v => #[v, a1, a2, a3, a4]) J i (x :: row)) (hJ : J i w) (hv : Rv w v row) (h5 : w.cell? ⟨g5, 0, none⟩ = some (.func (.func 41) #[] #[a1, a2, a3, a4])) (h6 : w.cell? ⟨g6, 0, none⟩ = some (.int .i64 x)) :
    Calls Try.prog 49 #[v, .pointer (some ⟨g5, 0, none⟩), .pointer (some ⟨g6, 0, none⟩)] w fun e w' => e = .returned (.tuple #[]) ∧ J (i + 1) w' ∧ Kp S w w' := by
  obtain ⟨A, c, hve⟩ : ∃ A c, v = .slice A row.length c := by
    rcases hv with ⟨h1, h2⟩ | ⟨b, c, h1, _⟩
    · exact ⟨none, 0, by rw [h1, h2]; rfl⟩
    · exact ⟨_, c, h1⟩
  subst hve
  go_enter Try.func49, Try.ntmps49
  have HJ := Lib.hid hJ
  have HV := Lib.hid hv
  have H5 := Lib.hid h5
  have H6 := Lib.hid h6
  have HCB := Lib.hid hcb
  have l5 := World.block_lt_of_cell? w _ h5
  have l6 := World.block_lt_of_cell? w _ h6
  simp only at l5 l6
  obtain ⟨W2, hW2⟩ : ∃ W2, (w.alloc (.cells #[.int .i64 x] 3)).alloc (.cells #[.slice (some ⟨w.heap.size, 0, none⟩) 1 1, .slice A row.length c] 23) = W2 := ⟨_, rfl⟩
  have d0 : W2.cell? ⟨w.heap.size + 1, 0, none⟩ = some (.slice (some ⟨w.heap.size, 0, none⟩) 1 1) := by rw [← hW2]; exact (cell2_at (by simp)).1
  have d1 : W2.cell? ⟨w.heap.size + 1, 1, none⟩ = some (.slice A row.length c) := by rw [← hW2]; exact (cell2_at (by simp)).2
  have d2 : W2.cell? ⟨w.heap.size, 0, none⟩ = some (.int .i64 x) := by rw [← hW2]; exact (below_alloc.cell (World.block_lt_of_cell? _ _ (cell_one_new w (.int .i64 x) 3 0 (.int .i64 x) rfl))).trans (cell_one_new w (.int .i64 x) 3 0 (.int .i64 x) rfl)
  have d3 : Below w.heap.size w W2 := by rw [← hW2]; exact below2
  have HC := Lib.hid (fun (W : World) (hW : Below W2.heap.size W2 W) => concat2_any (w.heap.size + 1) 2 w.heap.size 1 x (.slice A row.length c) row W
    ((hW.cell (World.block_lt_of_cell? _ _ d0)).trans d0) ((hW.cell (World.block_lt_of_cell? _ _ d1)).trans d1) ((hW.cell (World.block_lt_of_cell? _ _ d2)).trans d2) ((hv.below d3).below hW) hl)
  have HW2 := Lib.hid hW2
  have D3 := Lib.hid d3
  clear d0 d1 d2 d3 hW2
  clear hJ hv hcb
  go_region_with (first
    | (go_at_call 50; have hbw := (Below.refl W2.heap.size W2).drew; rw [← HW2.out] at hbw; have hb9 := (D3.out.trans (((Below.refl W2.heap.size W2).drew).mono D3.out.size)); rw [← HW2.out] at hb9; have hcw := HC.out; rw [← HW2.out] at hcw; refine (hcw _ hbw).mono ?_; rintro e w2 ⟨v2, rfl, ho, hb2⟩; have HO := Lib.hid ho; have HB2 := Lib.hid (hb9.trans (hb2.mono hb9.size)); have c5 := HB2.out.cell l5 |>.trans H5.out; clear ho hb2 hb9 hbw hcw)
    | (go_at_call 41; refine (HCB.out _ v2 (hS _ _ _ HJ.out (HB2.out.mono hb)) (Rv.of_own HO.out)).mono ?_; rintro e w3 ⟨rfl, hj3, hk3⟩; have HJ3 := Lib.hid hj3; have HK3 := Lib.hid (Kp.trans (Kp.of_below HB2.out) hk3); clear hj3 hk3))
  all_goals (go_end0; exact ⟨rfl, HJ3.out, HK3.out⟩)

set_option maxHeartbeats 8000000 in
set_option maxRecDepth 100000 in
theorem rows1_r (S : Nat → Prop) (base : Nat) (J : Nat → World → Prop) (i : Nat) (a1 a2 v : Value) (x : Int) (row : List Int) (g5 g6 : Nat) (w : World) (hS : Stb base J) (hb : base ≤ w.heap.size) (hl : row.length ≤ 10)
    (hcb : CBK S 49 (fun v => #[v, a1, a2]) J i (x :: row)) (hJ : J i w) (hv : Rv w v row) (h5 : w.cell? ⟨g5, 0, none⟩ = some (.func (.func 49) #[] #[a1, a2])) (h6 : w.cell? ⟨g6, 0, none⟩ = some (.int .i64 x)) :
    Calls Try.prog 49 #[v, .pointer (some ⟨g5, 0, none⟩), .pointer (some ⟨g6, 0, none⟩)] w fun e w' => e = .returned (.tuple #[]) ∧ J (i + 1) w' ∧ Kp S w w' := by
  obtain ⟨A, c, hve⟩ : ∃ A c, v = .slice A row.length c := by
    rcases hv with ⟨h1, h2⟩ | ⟨b, c, h1, _⟩
    · exact ⟨none, 0, by rw [h1, h2]; rfl⟩
    · exact ⟨_, c, h1⟩
  subst hve
  go_enter Try.func49, Try.ntmps49
  have HJ := Lib.hid hJ
  have HV := Lib.hid hv
  have H5 := Lib.hid h5
  have H6 := Lib.hid h6
  have HCB := Lib.hid hcb
  have l5 := World.block_lt_of_cell? w _ h5
  have l6 := World.block_lt_of_cell? w _ h6
  simp only at l5 l6
  obtain ⟨W2, hW2⟩ : ∃ W2, (w.alloc (.cells #[.int .i64 x] 3)).alloc (.cells #[.slice (some ⟨w.heap.size, 0, none⟩) 1 1, .slice A row.length c] 23) = W2 := ⟨_, rfl⟩
  have d0 : W2.cell? ⟨w.heap.size + 1, 0, none⟩ = some (.slice (some ⟨w.heap.size, 0, none⟩) 1 1) := by rw [← hW2]; exact (cell2_at (by simp)).1
  have d1 : W2.cell? ⟨w.heap.size + 1, 1, none⟩ = some (.slice A row.length c) := by rw [← hW2]; exact (cell2_at (by simp)).2
  have d2 : W2.cell? ⟨w.heap.size, 0, none⟩ = some (.int .i64 x) := by rw [← hW2]; exact (below_alloc.cell (World.block_lt_of_cell? _ _ (cell_one_new w (.int .i64 x) 3 0 (.int .i64 x) rfl))).trans (cell_one_new w (.int .i64 x) 3 0 (.int .i64 x) rfl)
  have d3 : Below w.heap.size w W2 := by rw [← hW2]; exact below2
  have HC := Lib.hid (fun (W : World) (hW : Below W2.heap.size W2 W) => concat2_any (w.heap.size + 1) 2 w.heap.size 1 x (.slice A row.length c) row W
    ((hW.cell (World.block_lt_of_cell? _ _ d0)).trans d0) ((hW.cell (World.block_lt_of_cell? _ _ d1)).trans d1) ((hW.cell (World.block_lt_of_cell? _ _ d2)).trans d2) ((hv.below d3).below hW) hl)
  have HW2 := Lib.hid hW2
  have D3 := Lib.hid d3
  clear d0 d1 d2 d3 hW2
  clear hJ hv hcb
  go_region_with (first
    | (go_at_call 50; have hbw := (Below.refl W2.heap.size W2).drew; rw [← HW2.out] at hbw; have hb9 := (D3.out.trans (((Below.refl W2.heap.size W2).drew).mono D3.out.size)); rw [← HW2.out] at hb9; have hcw := HC.out; rw [← HW2.out] at hcw; refine (hcw _ hbw).mono ?_; rintro e w2 ⟨v2, rfl, ho, hb2⟩; have HO := Lib.hid ho; have HB2 := Lib.hid (hb9.trans (hb2.mono hb9.size)); have c5 := HB2.out.cell l5 |>.trans H5.out; clear ho hb2 hb9 hbw hcw)
    | (go_at_call 49; refine (HCB.out _ v2 (hS _ _ _ HJ.out (HB2.out.mono hb)) (Rv.of_own HO.out)).mono ?_; rintro e w3 ⟨rfl, hj3, hk3⟩; have HJ3 := Lib.hid hj3; have HK3 := Lib.hid (Kp.trans (Kp.of_below HB2.out) hk3); clear hj3 hk3))
  all_goals (go_end0; exact ⟨rfl, HJ3.out, HK3.out⟩)

end Go.Proofs.Ytpcnjkgoehepaaa
