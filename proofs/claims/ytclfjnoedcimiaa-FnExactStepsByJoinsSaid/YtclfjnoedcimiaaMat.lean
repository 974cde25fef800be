/- Rows of rows of numbers: the laws' copies, sizes and tests. -/
import Derived.Test.YtclfjnoedcimiaaToInt
import Derived.Test.YtclfjnoedcimiaaTail
import Derived.Deep.DeepCutAuto
namespace Go.Proofs.Ytclfjnoedcimiaa
open Go.RowKit

/-- A slice of slices of numbers that came in. -/
def ArgM (w : World) (v : Value) (xss : List (List Int)) : Prop :=
  (∃ a c, v = .slice a 0 c ∧ xss = []) ∨ ∃ (b o c : Nat) (A : Nat → Option Addr) (C : Nat → Nat), v = .slice (some ⟨b, o, none⟩) xss.length c ∧ b < w.heap.size ∧
    ∀ k, k < xss.length → w.cell? ⟨b, o + k, none⟩ = some (.slice (A k) (gl xss k).length (C k)) ∧ ArgI w (.slice (A k) (gl xss k).length (C k)) (gl xss k)
theorem ArgM.below {w w' : World} {v : Value} {xss : List (List Int)} (h : ArgM w v xss) (hb : Below w.heap.size w w') : ArgM w' v xss := by
  rcases h with h | ⟨b, o, c, A, C, h1, h2, h3⟩
  · exact .inl h
  · exact .inr ⟨b, o, c, A, C, h1, Nat.lt_of_lt_of_le h2 hb.size, fun k hk => ⟨(hb.cell (p := ⟨b, o + k, none⟩) h2).trans (h3 k hk).1, (h3 k hk).2.below hb⟩⟩

/-- Rows of the call's own, of any room, below a row of slices of its own. -/
def MatC (w : World) (g : Nat) (H C : Nat → Nat) (xss : List (List Int)) : Prop :=
  (∃ cs, cs.length = xss.length ∧ (∀ j, j < xss.length → cs[j]? = some (.slice (some ⟨H j, 0, none⟩) (gl xss j).length (C j))) ∧ Blk w g 36 cs) ∧ ∀ j, j < xss.length → Blk w (H j) 3 (ic (gl xss j))
theorem MatC.below {w w' : World} {g : Nat} {H C : Nat → Nat} {xss : List (List Int)} (h : MatC w g H C xss) (hb : Below w.heap.size w w') : MatC w' g H C xss := by
  obtain ⟨⟨cs, h1, h2, h3⟩, h4⟩ := h
  exact ⟨⟨cs, h1, h2, h3.below hb⟩, fun j hj => (h4 j hj).below hb⟩
theorem MatC.row {w : World} {g : Nat} {H C : Nat → Nat} {xss : List (List Int)} (h : MatC w g H C xss) {j : Nat} (hj : j < xss.length) : w.cell? ⟨g, j, none⟩ = some (.slice (some ⟨H j, 0, none⟩) (gl xss j).length (C j)) ∧ RowI w (H j) 0 (gl xss j) := by
  obtain ⟨⟨cs, h1, h2, h3⟩, h4⟩ := h
  exact ⟨h3.cell (h2 j hj), (h4 j hj).row⟩
/-- Rows without room behind them. -/
def Mat (w : World) (g : Nat) (H : Nat → Nat) (xss : List (List Int)) : Prop := MatC w g H (fun j => (gl xss j).length) xss
theorem Mat.below {w w' : World} {g : Nat} {H : Nat → Nat} {xss : List (List Int)} (h : Mat w g H xss) (hb : Below w.heap.size w w') : Mat w' g H xss := MatC.below h hb
theorem Mat.row {w : World} {g : Nat} {H : Nat → Nat} {xss : List (List Int)} (h : Mat w g H xss) {j : Nat} (hj : j < xss.length) : w.cell? ⟨g, j, none⟩ = some (.slice (some ⟨H j, 0, none⟩) (gl xss j).length (gl xss j).length) ∧ RowI w (H j) 0 (gl xss j) := MatC.row h hj

theorem infoSS : (Try.prog.info? 36).map (fun i => (i.zero, i.size, i.bytes)) = some (some (.slice none 0 0), 1, 24) := by kernel_rfl

set_option maxHeartbeats 1000000 in
theorem szIntS_any (a : Option Addr) (n c : Nat) (left : Int) (w : World) (h0 : 0 ≤ left) (h1 : left ≤ 1048576) (hn : n ≤ 9223372036854775807) :
    Calls Try.prog 48 #[.slice a n c, .int .i64 left] w fun e w' => ∃ r : Int, e = .returned (.int .i64 r) ∧ -1 ≤ r ∧ r ≤ 1048576 ∧ (0 ≤ r → n ≤ 1048576) ∧ w = w' := by
  have q1 : IntKind.i64.wrap (left - (n : Int)) = left - (n : Int) := IntWalk.i64_in _ (by omega)
  by_cases t : left - (n : Int) < 0
  · have t1 : decide (left - (n : Int) < 0) = true := by simpa using t
    go_enter Try.func48, Try.ntmps48
    go_wp2_with fail
    go_ret
    exact ⟨-1, rfl, by omega, by omega, fun h => by omega, rfl⟩
  · have t1 : decide (left - (n : Int) < 0) = false := by simpa using t
    go_enter Try.func48, Try.ntmps48
    go_wp2_with fail
    go_ret
    exact ⟨left - (n : Int), rfl, by omega, by omega, fun h => by omega, rfl⟩

set_option maxHeartbeats 2000000 in
theorem szIntSS_any (v : Value) (xss : List (List Int)) (w : World) (h : ArgM w v xss) (hn : xss.length ≤ 9223372036854775807) (hr : ∀ k, k < xss.length → (gl xss k).length ≤ 9223372036854775807) :
    Calls Try.prog 22 #[v, .int .i64 1048576] w fun e w' => ∃ r : Int, e = .returned (.int .i64 r) ∧ (0 ≤ r → xss.length ≤ 1048576 ∧ ∀ k, k < xss.length → (gl xss k).length ≤ 1048576) ∧ w = w' := by
  rcases h with ⟨a, c, rfl, hx⟩ | ⟨b, o, c, A, C, rfl, hb, hcell⟩
  · have HX := Lib.hid hx
    clear hx hr hn
    go_enter Try.func22, Try.ntmps22
    go_wp2_with fail
    go_loop [1, 5] (fun v1 v5 => v1 = .int .i64 1048576 ∧ v5 = .int .i64 0) (fun _ _ => 0)
    case atStart => exact ⟨rfl, rfl⟩
    case round =>
      obtain ⟨rfl, rfl⟩ := hrel
      go_wp2_with fail
      go_ret
      exact ⟨_, rfl, fun _ => ⟨by rw [HX.out]; simp, fun k hk => absurd hk (by rw [HX.out]; simp)⟩, rfl⟩
  · have HC := Lib.hid hcell
    have HR := Lib.hid hr
    have q1 : IntKind.i64.wrap (1048576 - (xss.length : Int)) = 1048576 - (xss.length : Int) := IntWalk.i64_in _ (by omega)
    clear hcell hr
    by_cases t : 1048576 - (xss.length : Int) < 0
    · have t1 : decide (1048576 - (xss.length : Int) < 0) = true := by simpa using t
      go_enter Try.func22, Try.ntmps22
      go_wp2_with fail
      go_ret
      exact ⟨-1, rfl, fun h => by omega, rfl⟩
    · have t1 : decide (1048576 - (xss.length : Int) < 0) = false := by simpa using t
      go_enter Try.func22, Try.ntmps22
      go_wp2_with fail
      go_loop [1, 5] (fun v1 v5 => ∃ (k : Nat) (r : Int), v5 = .int .i64 k ∧ k ≤ xss.length ∧ v1 = .int .i64 r ∧ 0 ≤ r ∧ r ≤ 1048576 ∧ ∀ j, j < k → (gl xss j).length ≤ 1048576) (fun _ v5 => xss.length - (intOf v5).toNat)
      case atStart => exact ⟨0, _, rfl, by omega, rfl, by omega, by omega, fun j hj => absurd hj (Nat.not_lt_zero _)⟩
      case round =>
        obtain ⟨k, r, rfl, hk, rfl, hr0, hr1, hj⟩ := hrel
        have HJ := Lib.hid hj
        clear hj
        by_cases hlt : k < xss.length
        · have y1 := (HC.out k hlt).1
          have C := Lib.hid (szIntS_any (A k) (gl xss k).length (C k) r w hr0 hr1 (HR.out k hlt))
          go_wp2_with fail
          refine C.out.mono ?_
          rintro e w1 ⟨r2, rfl, h1, h2, h3, rfl⟩
          have H3 := Lib.hid h3
          clear h3
          by_cases t2 : r2 < 0
          · have t3 : decide (r2 < 0) = true := by simpa using t2
            go_wp2_with fail
            go_ret
            exact ⟨-1, rfl, fun h => by omega, rfl⟩
          · have t3 : decide (r2 < 0) = false := by simpa using t2
            go_wp2_with fail
            go_round
            case rel => exact ⟨k + 1, r2, by go_num, by omega, rfl, by omega, by omega, fun j hj => by by_cases e : j = k; (· subst e; exact H3.out (by omega)); exact HJ.out j (by omega)⟩
            case measure => simp [intOf]; omega
        · have e : k = xss.length := by omega
          subst e
          go_wp2_with fail
          go_ret
          exact ⟨r, rfl, fun _ => ⟨by omega, HJ.out⟩, rfl⟩

set_option maxHeartbeats 2000000 in
theorem toIntSS_any (v : Value) (xss : List (List Int)) (w : World) (h : ArgM w v xss) (hn : xss.length ≤ 1048576) (hr : ∀ k, k < xss.length → (gl xss k).length ≤ 1048576) :
    Calls Try.prog 23 #[v] w fun e w' => ∃ H, e = .returned (.slice (some ⟨w.heap.size, 0, none⟩) xss.length xss.length) ∧ Mat w' w.heap.size H xss ∧ Below w.heap.size w w' := by
  have hmk := run_make_row' (P := Try.prog) 23 36 (.slice none 0 0) 24 Try.underlying23 infoSS rfl .i64 .i64 xss.length (by omega) (by omega)
  rcases h with ⟨a, c, rfl, hx⟩ | ⟨b, o, c, A, C, rfl, hb, hcell⟩
  · have hmk0 : ∀ w, (Instr.makeSlice 23 (.int .i64 0) (.int .i64 0)).run Try.prog w = .ok (.slice (some ⟨w.heap.size, 0, none⟩) 0 0) (w.alloc (.cells #[] 36)) := fun _ => by kernel_rfl
    have HX := Lib.hid hx
    clear hx hr hn hmk
    go_enter Try.func23, Try.ntmps23
    go_wp2_with fail
    go_loopw [4] (fun v4 wr => v4 = .int .i64 0 ∧ wr = w.alloc (.cells #[] 36)) (fun _ _ => 0)
    case atStart => exact ⟨rfl, rfl⟩
    case round =>
      obtain ⟨rfl, rfl⟩ := hrel
      go_wp2_with fail
      go_ret
      have hx := HX.out
      exact ⟨fun _ => 0, by rw [hx]; rfl, by rw [hx]; exact ⟨⟨[], rfl, fun j hj => absurd hj (by simp), ⟨_, heap_alloc_new w _, rfl⟩⟩, fun j hj => absurd hj (by simp)⟩, below_alloc⟩
  · have HC := Lib.hid hcell
    have HR := Lib.hid hr
    clear hcell hr
    go_enter Try.func23, Try.ntmps23
    go_wp2_with fail
    go_loopw [4] (fun v4 wr => ∃ (k : Nat) (H : Nat → Nat), k ≤ xss.length ∧ v4 = .int .i64 k ∧ (∃ cs : List Value, cs.length = xss.length ∧ (∀ j, j < k → cs[j]? = some (.slice (some ⟨H j, 0, none⟩) (gl xss j).length (gl xss j).length)) ∧ Blk wr w.heap.size 36 cs) ∧
      (∀ j, j < k → w.heap.size < H j ∧ Blk wr (H j) 3 (ic (gl xss j))) ∧ Below w.heap.size w wr) (fun v4 _ => xss.length - (intOf v4).toNat)
    case atStart => exact ⟨0, fun _ => 0, Nat.zero_le _, rfl, ⟨_, by rw [Array.length_toList, size_madeCells], fun j hj => absurd hj (Nat.not_lt_zero _), Blk.made _ _ _⟩, fun j hj => absurd hj (Nat.not_lt_zero _), by (repeat' (first | (with_reducible exact Below.refl _ _) | (with_reducible assumption) | (with_reducible refine Below.drewN ?_ _) | (with_reducible refine Below.alloc ?_ ?_ _) | (with_reducible refine Below.drew ?_) | (with_reducible refine Below.setCell ?_ ?_ _) | (with_reducible refine Below.trans ?_ (Below.mono (by assumption) ?_)) | go_size | (with_reducible refine Nat.le_trans ?_ (Below.size (by assumption)))))⟩
    case round =>
      obtain ⟨k, H, hk, rfl, ⟨cs, hc1, hc2, hc3⟩, hrows, hbl⟩ := hrel
      have H1 := Lib.hid hc1
      have H2 := Lib.hid hc2
      have HRW := Lib.hid hrows
      have HB := Lib.hid hbl
      have hz := hbl.size
      have l3 := hc3.lt
      by_cases hlt : k < xss.length
      · have y1 := (hbl.cell (p := ⟨b, o + k, none⟩) hb).trans (HC.out k hlt).1
        have C1 := Lib.hid (toIntS_any _ (gl xss k) wr ((HC.out k hlt).2.below hbl) (HR.out k hlt))
        have K3 := Lib.hid hc3
        obtain ⟨u, hu⟩ : ∃ u, cs[k]? = some u := ⟨cs[k]'(by omega), List.getElem?_eq_getElem _⟩
        have HU := Lib.hid hu
        clear hc1 hc2 hrows hbl hc3 hu
        go_wp2_with (go_at_call 49; refine C1.out.mono ?_; rintro e w1 ⟨rfl, kr, b1⟩; have z1 := b1.size; have lr := kr.lt; have K4 := Lib.hid (K3.out.below b1); have x1 := K4.out.cell HU.out; have f1 := K4.out.frozen k; have KR := Lib.hid kr; have B1 := Lib.hid b1; clear kr b1)
        go_roundw
        case rel =>
          have hl1 := H1.out
          refine ⟨k + 1, fun j => if j = k then wr.heap.size else H j, by omega, by go_num, ⟨cs.set k (.slice (some ⟨wr.heap.size, 0, none⟩) (gl xss k).length (gl xss k).length), by rw [List.length_set]; exact hl1, fun j hj => ?_, K4.out.set k _⟩, fun j hj => ?_, (HB.out.trans (B1.out.mono hz)).setCell (Nat.le_refl _) _⟩
          · dsimp only
            by_cases e : j = k
            · subst e; rw [List.getElem?_set_self (by omega), if_pos rfl]
            · rw [List.getElem?_set_ne (fun h => e h.symm), if_neg e]; exact H2.out j (by omega)
          · dsimp only
            by_cases e : j = k
            · subst e; rw [if_pos rfl]; exact ⟨by omega, KR.out.other _ (by simp; omega)⟩
            · rw [if_neg e]
              have hj' := HRW.out j (by omega)
              exact ⟨hj'.1, (hj'.2.below B1.out).other _ (by simp; omega)⟩
        case measure => simp [intOf]; omega
      · have e : k = xss.length := by omega
        subst e
        have HM := Lib.hid (show Mat wr w.heap.size H xss from ⟨⟨cs, hc1, hc2, hc3⟩, fun j hj => (hrows j hj).2⟩)
        clear hc1 hc2 hc3 hrows hbl
        go_wp2_with fail
        go_ret
        exact ⟨H, rfl, HM.out, HB.out⟩

set_option maxHeartbeats 2000000 in
theorem eqIntSS_any (g g' : Nat) (H H' : Nat → Nat) (xss : List (List Int)) (w : World) (h : Mat w g H xss) (h' : Mat w g' H' xss) (hn : xss.length ≤ 1048576) (hr : ∀ k, k < xss.length → (gl xss k).length ≤ 1048576) :
    Calls Try.prog 25 #[.slice (some ⟨g, 0, none⟩) xss.length xss.length, .slice (some ⟨g', 0, none⟩) xss.length xss.length] w fun e w' => e = .returned (.bool true) ∧ Below w.heap.size w w' := by
  have HM := Lib.hid h
  have HM' := Lib.hid h'
  have HR := Lib.hid hr
  clear h h' hr
  go_enter Try.func25, Try.ntmps25
  go_wp2_with fail
  go_loopw [5] (fun v5 wr => ∃ k : Nat, v5 = .int .i64 k ∧ k ≤ xss.length ∧ Below w.heap.size w wr) (fun v5 _ => xss.length - (intOf v5).toNat)
  case atStart => exact ⟨0, rfl, by omega, Below.refl _ _⟩
  case round =>
    obtain ⟨k, rfl, hk, hb⟩ := hrel
    have HB := Lib.hid hb
    have hz := hb.size
    by_cases hlt : k < xss.length
    · obtain ⟨y1, r1⟩ := (HM.out.below hb).row hlt
      obtain ⟨y2, r2⟩ := (HM'.out.below hb).row hlt
      have C := Lib.hid (fun (w' : World) (hw : Below wr.heap.size wr w') => eqIntS_row (H k) 0 (gl xss k).length (H' k) 0 (gl xss k).length (gl xss k) w' (r1.below hw) (r2.below hw) (HR.out k hlt))
      obtain ⟨ι, W, hW0, hWm, hWb⟩ := good_worlds wr
      have hWn : Nonempty ι := hW0.elim fun i _ => ⟨i⟩
      have x1 : ∀ i, (W i).cell? ⟨g, k, none⟩ = some (.slice (some ⟨H k, 0, none⟩) (gl xss k).length (gl xss k).length) := fun i => keepC (hWb i) y1
      have x2 : ∀ i, (W i).cell? ⟨g', k, none⟩ = some (.slice (some ⟨H' k, 0, none⟩) (gl xss k).length (gl xss k).length) := fun i => keepC (hWb i) y2
      have CC := Lib.hid (fun i => C.out (W i) (hWb i))
      clear r1 r2 y1 y2 hb C
      go_upto_region 6 with fail
      (refine region_quiet_tail (C := fun w' => ∃ i, w' = W i) 9 (by kernel_rfl) (by kernel_rfl) hW0 ?_; simp only [List.take_succ_cons, List.take_zero, List.drop_succ_cons, List.drop_zero]; (repeat (go_big_quiet_step ((go_at_call 51; exact (CC.out _).mono fun e w'' h => ⟨h.1, hWm _ _ h.2⟩)))); refine wpQuiet_nil ?_; rintro _ ⟨iw, rfl⟩)
      have hbi := hWb iw
      go_wp2_with fail
      go_roundw
      case rel => exact ⟨k + 1, by go_num, by omega, HB.out.trans (hbi.mono hz)⟩
      case measure => simp [intOf]; omega
    · have e : k = xss.length := by omega
      subst e
      go_wp2_with fail
      go_ret
      exact ⟨rfl, hb⟩

end Go.Proofs.Ytclfjnoedcimiaa
