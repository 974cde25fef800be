/- Marks in rows of rows of numbers; copies whose rows lie apart. -/
import Derived.Test.YtclfjnoedcimiaaMat
import Derived.Test.YtclfjnoedcimiaaLawI
namespace Go.Proofs.Ytclfjnoedcimiaa
open Go.RowKit

/-- Rows of the call's own that lie apart from one another, from the block lo on and below hi. -/
structure MatD (w : World) (lo hi g : Nat) (H : Nat → Nat) (xss : List (List Int)) : Prop where
  mat : Mat w g H xss
  out : lo ≤ g ∧ g < hi
  row : ∀ j, j < xss.length → lo ≤ H j ∧ H j < hi ∧ H j ≠ g
  dis : ∀ i j, i < j → j < xss.length → H i ≠ H j
theorem MatD.below {w w' : World} {lo hi g : Nat} {H : Nat → Nat} {xss : List (List Int)} (h : MatD w lo hi g H xss) (hb : Below w.heap.size w w') : MatD w' lo hi g H xss :=
  ⟨h.mat.below hb, h.out, h.row, h.dis⟩
theorem MatD.chg {w w' : World} {lo hi lo' hi' g : Nat} {H : Nat → Nat} {xss : List (List Int)} (h : MatD w lo hi g H xss) (hb : Chg lo' hi' w w') (hd : hi ≤ lo' ∨ hi' ≤ lo) : MatD w' lo hi g H xss := by
  obtain ⟨⟨⟨cs, h1, h2, h3⟩, h4⟩, h5, h6, h7⟩ := h
  exact ⟨⟨⟨cs, h1, h2, h3.chg hb (by omega)⟩, fun j hj => (h4 j hj).chg hb (by have := h6 j hj; omega)⟩, h5, h6, h7⟩

def oN (xss : List (List Int)) : Nat → Nat
  | 0 => 0
  | j + 1 => oN xss j + (gl xss j).length
theorem oN_le {xss : List (List Int)} (hr : ∀ k, k < xss.length → (gl xss k).length ≤ 1048576) : ∀ j, j ≤ xss.length → oN xss j ≤ j * 1048576
  | 0, _ => Nat.le_refl _
  | j + 1, h => by
    have := oN_le hr j (by omega)
    have := hr j (by omega)
    rw [oN]
    omega
/-- Rows of rows that bear marks. -/
def MatK (w : World) (g : Nat) (H : Nat → Nat) (xss : List (List Int)) : Prop :=
  (∃ cs, cs.length = xss.length ∧ (∀ j, j < xss.length → cs[j]? = some (.slice (some ⟨H j, 0, none⟩) (gl xss j).length (gl xss j).length)) ∧ Blk w g 36 cs) ∧ ∀ j, j < xss.length → Blk w (H j) 3 (mk (1 + (oN xss j : Nat)) (gl xss j).length)
theorem MatK.below {w w' : World} {g : Nat} {H : Nat → Nat} {xss : List (List Int)} (h : MatK w g H xss) (hb : Below w.heap.size w w') : MatK w' g H xss := by
  obtain ⟨⟨cs, h1, h2, h3⟩, h4⟩ := h
  exact ⟨⟨cs, h1, h2, h3.below hb⟩, fun j hj => (h4 j hj).below hb⟩

set_option maxHeartbeats 2000000 in
theorem markIntSS_any (lo hi g : Nat) (H : Nat → Nat) (xss : List (List Int)) (w : World) (h : MatD w lo hi g H xss) (hn : xss.length ≤ 1048576) (hr : ∀ k, k < xss.length → (gl xss k).length ≤ 1048576) :
    Calls Try.prog 26 #[.slice (some ⟨g, 0, none⟩) xss.length xss.length, .int .i64 1] w fun e w' => e = .returned (.int .i64 (1 + (oN xss xss.length : Nat))) ∧ MatK w' g H xss ∧ Chg lo hi w w' := by
  obtain ⟨⟨⟨cs, h1, h2, h3⟩, h4⟩, h5, h6, h7⟩ := h
  have H2 := Lib.hid h2
  have H1 := Lib.hid h1
  have H3 := Lib.hid h3
  have H4 := Lib.hid h4
  have H5 := Lib.hid h5
  have H6 := Lib.hid h6
  have H7 := Lib.hid h7
  have HR := Lib.hid hr
  clear h1 h2 h3 h4 h5 h6 h7 hr
  go_enter Try.func26, Try.ntmps26
  go_wp2
  go_loopw [1, 5] (fun v1 v5 wr => ∃ k : Nat, k ≤ xss.length ∧ v5 = .int .i64 k ∧ v1 = .int .i64 (1 + (oN xss k : Nat)) ∧ Blk wr g 36 cs ∧ (∀ j, j < k → Blk wr (H j) 3 (mk (1 + (oN xss j : Nat)) (gl xss j).length)) ∧ (∀ j, k ≤ j → j < xss.length → Blk wr (H j) 3 (ic (gl xss j))) ∧ Chg lo hi w wr) (fun _ v5 _ => xss.length - (intOf v5).toNat)
  case atStart => exact ⟨0, Nat.zero_le _, rfl, rfl, H3.out, fun j hj => absurd hj (Nat.not_lt_zero _), fun j _ hj => H4.out j hj, Chg.refl _ _ _⟩
  case round =>
    obtain ⟨k, hk, rfl, rfl, hb, hm, hu, hc⟩ := hrel
    have HB := Lib.hid hb
    have HM := Lib.hid hm
    have HU := Lib.hid hu
    have HC := Lib.hid hc
    by_cases hlt : k < xss.length
    · have y1 := hb.cell (H2.out k hlt)
      have ol := oN_le HR.out k (by omega)
      have hs : oN xss (k + 1) = oN xss k + (gl xss k).length := rfl
      have HS := Lib.hid hs
      have CM := Lib.hid (markIntS_row (H k) (gl xss k).length (gl xss k).length (ic (gl xss k)) (1 + (oN xss k : Nat)) wr (hu k (Nat.le_refl _) hlt) (ic_length _) (HR.out k hlt) (by omega) (by omega))
      clear hb hm hu hc hs
      go_wp2_with (go_at_call 52; refine CM.out.mono ?_; rintro e w1 ⟨rfl, k1, g1⟩)
      have K1 := Lib.hid k1
      have G1 := Lib.hid g1
      have hcr := Lib.hid (HC.out.size)
      clear k1 g1
      go_roundw
      case rel =>
        have h6 := H6.out k hlt
        refine ⟨k + 1, by omega, by go_num, by rw [HS.out]; go_num, HB.out.grown G1.out (fun e => h6.2.2 e.symm), fun j hj => ?_, fun j hj1 hj2 => (HU.out j (by omega) hj2).grown G1.out (fun e => H7.out k j (by omega) hj2 e.symm), ?_⟩
        · by_cases e : j = k
          · subst e; exact K1.out
          · exact (HM.out j (by omega)).grown G1.out (H7.out j k (by omega) hlt)
        · have c2 : Chg lo hi wr w1 := Chg.of_grown G1.out h6.1 h6.2.1
          exact ⟨c2.os.trans HC.out.os, c2.tape.trans HC.out.tape, c2.output.trans HC.out.output, Nat.le_trans hcr.out c2.size, fun j hj hd => (c2.block j (Nat.lt_of_lt_of_le hj hcr.out) hd).trans (HC.out.block j hj hd)⟩
      case measure => simp [intOf]; omega
    · have e : k = xss.length := by omega
      subst e
      clear hb hm hu hc
      go_wp2_with fail
      go_ret
      exact ⟨rfl, ⟨⟨cs, H1.out, H2.out, HB.out⟩, HM.out⟩, HC.out⟩

set_option maxHeartbeats 2000000 in
theorem heldIntSS_any (g : Nat) (H : Nat → Nat) (xss : List (List Int)) (w : World) (h : MatK w g H xss) (hn : xss.length ≤ 1048576) (hr : ∀ k, k < xss.length → (gl xss k).length ≤ 1048576) :
    Calls Try.prog 31 #[.slice (some ⟨g, 0, none⟩) xss.length xss.length, .int .i64 1] w fun e w' => e = .returned (.int .i64 (1 + (oN xss xss.length : Nat))) ∧ w' = w := by
  obtain ⟨⟨cs, h1, h2, h3⟩, h4⟩ := h
  have H2 := Lib.hid h2
  have H3 := Lib.hid h3
  have H4 := Lib.hid h4
  have HR := Lib.hid hr
  clear h1 h2 h3 h4 hr
  go_enter Try.func31, Try.ntmps31
  go_wp2
  go_loop [1, 5] (fun v1 v5 => ∃ k : Nat, k ≤ xss.length ∧ v5 = .int .i64 k ∧ v1 = .int .i64 (1 + (oN xss k : Nat))) (fun _ v5 => xss.length - (intOf v5).toNat)
  case atStart => exact ⟨0, Nat.zero_le _, rfl, rfl⟩
  case round =>
    obtain ⟨k, hk, rfl, rfl⟩ := hrel
    by_cases hlt : k < xss.length
    · have y1 := H3.out.cell (H2.out k hlt)
      have ol := oN_le HR.out k (by omega)
      have HS := Lib.hid (show oN xss (k + 1) = oN xss k + (gl xss k).length from rfl)
      have CM := Lib.hid (heldIntS_row (H k) (gl xss k).length (gl xss k).length (1 + (oN xss k : Nat)) w (H4.out k hlt) (HR.out k hlt) (by omega) (by omega))
      have t1 : decide (1 + (oN xss k : Int) + ((gl xss k).length : Int) < 0) = false := by simp; omega
      go_wp2_with (go_at_call 55; refine CM.out.mono ?_; rintro e w1 ⟨rfl, rfl⟩)
      go_round
      case rel => exact ⟨k + 1, by omega, by go_num, by rw [HS.out]; go_num⟩
      case measure => simp [intOf]; omega
    · have e : k = xss.length := by omega
      subst e
      go_wp2_with fail
      go_ret
      exact ⟨rfl, rfl⟩

set_option maxHeartbeats 2000000 in
theorem toIntSS_own (v : Value) (xss : List (List Int)) (w : World) (h : ArgM w v xss) (hn : xss.length ≤ 1048576) (hr : ∀ k, k < xss.length → (gl xss k).length ≤ 1048576) :
    Calls Try.prog 23 #[v] w fun e w' => ∃ H, e = .returned (.slice (some ⟨w.heap.size, 0, none⟩) xss.length xss.length) ∧ MatD w' w.heap.size w'.heap.size w.heap.size H xss ∧ Below w.heap.size w w' := by
  have hmk := run_make_row' (P := Try.prog) 23 36 (.slice none 0 0) 24 Try.underlying23 infoSS rfl .i64 .i64 xss.length (by omega) (by omega)
  rcases h with ⟨a, c, rfl, hx⟩ | ⟨b, o, c, A, C, rfl, hb, hcell⟩
  · have hmk0 : ∀ w, (Instr.makeSlice 23 (.int .i64 0) (.int .i64 0)).run Try.prog w = .ok (.slice (some ⟨w.heap.size, 0, none⟩) 0 0) (w.alloc (.cells #[] 36)) := fun _ => by kernel_rfl
    have HX := Lib.hid hx
    clear hx hr hn hmk
    go_enter Try.func23, Try.ntmps23
    go_wp2_with fail
    go_loopw [4] (fun v4 wr => v4 = .int .i64 0 ∧ wr = w.alloc (.cells #[] 36)) (fun _ _ => 0)
    case atStart => exact ⟨rfl, rfl⟩
    case round =>
      obtain ⟨rfl, rfl⟩ := hrel
      go_wp2_with fail
      go_ret
      have hx := HX.out
      exact ⟨fun _ => 0, by rw [hx]; rfl, by rw [hx]; exact ⟨⟨⟨[], rfl, fun j hj => absurd hj (by simp), ⟨_, heap_alloc_new w _, rfl⟩⟩, fun j hj => absurd hj (by simp)⟩, ⟨Nat.le_refl _, by simp⟩, fun j hj => absurd hj (by simp), fun i j _ hj => absurd hj (by simp)⟩, below_alloc⟩
  · have HC := Lib.hid hcell
    have HR := Lib.hid hr
    clear hcell hr
    go_enter Try.func23, Try.ntmps23
    go_wp2_with fail
    go_loopw [4] (fun v4 wr => ∃ (k : Nat) (H : Nat → Nat), k ≤ xss.length ∧ v4 = .int .i64 k ∧ (∃ cs : List Value, cs.length = xss.length ∧ (∀ j, j < k → cs[j]? = some (.slice (some ⟨H j, 0, none⟩) (gl xss j).length (gl xss j).length)) ∧ Blk wr w.heap.size 36 cs) ∧
      (∀ j, j < k → w.heap.size < H j ∧ Blk wr (H j) 3 (ic (gl xss j))) ∧ (∀ i j, i < j → j < k → H i ≠ H j) ∧ Below w.heap.size w wr) (fun v4 _ => xss.length - (intOf v4).toNat)
    case atStart => exact ⟨0, fun _ => 0, Nat.zero_le _, rfl, ⟨_, by rw [Array.length_toList, size_madeCells], fun j hj => absurd hj (Nat.not_lt_zero _), Blk.made _ _ _⟩, fun j hj => absurd hj (Nat.not_lt_zero _), fun i j _ hj => absurd hj (Nat.not_lt_zero _), by (repeat' (first | (with_reducible exact Below.refl _ _) | (with_reducible assumption) | (with_reducible refine Below.drewN ?_ _) | (with_reducible refine Below.alloc ?_ ?_ _) | (with_reducible refine Below.drew ?_) | (with_reducible refine Below.setCell ?_ ?_ _) | (with_reducible refine Below.trans ?_ (Below.mono (by assumption) ?_)) | go_size | (with_reducible refine Nat.le_trans ?_ (Below.size (by assumption)))))⟩
    case round =>
      obtain ⟨k, H, hk, rfl, ⟨cs, hc1, hc2, hc3⟩, hrows, hdis, hbl⟩ := hrel
      have H1 := Lib.hid hc1
      have H2 := Lib.hid hc2
      have HRW := Lib.hid hrows
      have HB := Lib.hid hbl
      have HD := Lib.hid hdis
      have hz := hbl.size
      have l3 := hc3.lt
      by_cases hlt : k < xss.length
      · have y1 := (hbl.cell (p := ⟨b, o + k, none⟩) hb).trans (HC.out k hlt).1
        have C1 := Lib.hid (toIntS_any _ (gl xss k) wr ((HC.out k hlt).2.below hbl) (HR.out k hlt))
        have K3 := Lib.hid hc3
        obtain ⟨u, hu⟩ : ∃ u, cs[k]? = some u := ⟨cs[k]'(by omega), List.getElem?_eq_getElem _⟩
        have HU := Lib.hid hu
        clear hc1 hc2 hrows hbl hc3 hu hdis
        go_wp2_with (go_at_call 49; refine C1.out.mono ?_; rintro e w1 ⟨rfl, kr, b1⟩; have z1 := b1.size; have lr := kr.lt; have K4 := Lib.hid (K3.out.below b1); have x1 := K4.out.cell HU.out; have f1 := K4.out.frozen k; have KR := Lib.hid kr; have B1 := Lib.hid b1; clear kr b1)
        go_roundw
        case rel =>
          have hl1 := H1.out
          refine ⟨k + 1, fun j => if j = k then wr.heap.size else H j, by omega, by go_num, ⟨cs.set k (.slice (some ⟨wr.heap.size, 0, none⟩) (gl xss k).length (gl xss k).length), by rw [List.length_set]; exact hl1, fun j hj => ?_, K4.out.set k _⟩, fun j hj => ?_, fun i j hij hj => ?_, (HB.out.trans (B1.out.mono hz)).setCell (Nat.le_refl _) _⟩
          · dsimp only
            by_cases e : j = k
            · subst e; rw [List.getElem?_set_self (by omega), if_pos rfl]
            · rw [List.getElem?_set_ne (fun h => e h.symm), if_neg e]; exact H2.out j (by omega)
          · dsimp only
            by_cases e : j = k
            · subst e; rw [if_pos rfl]; exact ⟨by omega, KR.out.other _ (by simp; omega)⟩
            · rw [if_neg e]
              have hj' := HRW.out j (by omega)
              exact ⟨hj'.1, (hj'.2.below B1.out).other _ (by simp; omega)⟩
          · dsimp only
            have hi' := (HRW.out i (by omega)).2.lt
            rw [if_neg (show ¬ i = k by omega)]
            by_cases e : j = k
            · subst e; rw [if_pos rfl]; omega
            · rw [if_neg e]; exact HD.out i j hij (by omega)
        case measure => simp [intOf]; omega
      · have e : k = xss.length := by omega
        subst e
        have HM := Lib.hid (show MatD wr w.heap.size wr.heap.size w.heap.size H xss from ⟨⟨⟨cs, hc1, hc2, hc3⟩, fun j hj => (hrows j hj).2⟩, ⟨Nat.le_refl _, l3⟩, fun j hj => by have h1 := (hrows j hj).1; have h2 := (hrows j hj).2.lt; omega, hdis⟩)
        clear hc1 hc2 hc3 hrows hbl hdis
        go_wp2_with fail
        go_ret
        exact ⟨H, rfl, HM.out, HB.out⟩

end Go.Proofs.Ytclfjnoedcimiaa
