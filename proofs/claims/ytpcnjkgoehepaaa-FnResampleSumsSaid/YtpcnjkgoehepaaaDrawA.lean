/- The draws of the reference: spec.drawFrom, however many are left. -/
import Derived.Test.YtpcnjkgoehepaaaDrawS
namespace Go.Proofs.Ytpcnjkgoehepaaa
open Go.RowKit

theorem cnt_bounds : ∀ L : List (Int × Int), AscP L → (L.length : Int) ≤ tS L ∧ ∀ j, j < L.length → 1 ≤ gi (sS L) j ∧ gi (sS L) j ≤ tS L
  | [], _ => ⟨by simp [tS], fun j h => absurd h (Nat.not_lt_zero _)⟩
  | p :: L, h => by
    obtain ⟨_, h4⟩ := List.pairwise_cons.1 h.asc
    have ih := cnt_bounds L ⟨h4, fun q hq => h.pos q (by simp [hq])⟩
    have hp := h.pos p (by simp)
    have i1 := ih.1
    refine ⟨by rw [tS, List.length_cons]; omega, fun j hj => ?_⟩
    cases j with
    | zero =>
      show 1 ≤ p.2 ∧ p.2 ≤ p.2 + tS L
      omega
    | succ j =>
      have := ih.2 j (by simpa using hj)
      show 1 ≤ gi (sS L) j ∧ gi (sS L) j ≤ p.2 + tS L
      omega
theorem tS_fld (x : Nat → Int) (n l : Nat) (s : Int) (L : List (Int × Int)) (k : Nat) : tS (fld (fun i L => dF x n l (s + x i) L) k L) = tS L + k * (n : Int) ^ l := by
  induction k with
  | zero => simp [fld]
  | succ k ih => rw [fld, tS_dF x n l, ih]; grind

set_option maxHeartbeats 8000000 in
set_option maxRecDepth 100000 in
theorem drawFrom_any (b o c n : Nat) (xs : List Int) (hlen : xs.length = n) (hn : n ≤ 10) (hx : ∀ i, i < n → -1000000 ≤ gi xs i ∧ gi xs i ≤ 1000000) : ∀ (l : Nat), l ≤ 10 → ∀ (s : Int) (B g3 c3 g4 c4 k : Nat) (L : List (Int × Int)) (w : World), RowI w b o xs → DR w B g3 c3 k (fS L) → DR w B g4 c4 k (sS L) → B ≤ w.heap.size →
    AscP L → tS L + (n : Int) ^ l ≤ 100000 → -(20 - (l : Int)) * 1000000 ≤ s → s ≤ (20 - (l : Int)) * 1000000 →
    Calls Try.prog 33 #[.slice (some ⟨b, o, none⟩) n c, .int .i64 l, .int .i64 s, .slice (some ⟨g3, 0, none⟩) k c3, .slice (some ⟨g4, 0, none⟩) k c4] w
      fun e w' => ∃ g5 c5 g6 c6 k', e = .returned (.tuple #[.slice (some ⟨g5, 0, none⟩) k' c5, .slice (some ⟨g6, 0, none⟩) k' c6]) ∧ DR w' B g5 c5 k' (fS (dF (gi xs) n l s L)) ∧ DR w' B g6 c6 k' (sS (dF (gi xs) n l s L)) ∧ Below w.heap.size w w' := by
  intro l
  induction l with
  | zero =>
    intro _ s B g3 c3 g4 c4 k L w _ h3 h4 hB hasc ht _ _
    have hc := cnt_bounds L hasc
    have hk : L.length = k := by rw [← fS_length]; exact h3.len
    have ht' : tS L + 1 ≤ 100000 := by simpa using ht
    exact drawFrom_zero _ s B g3 c3 g4 c4 k L w h3 h4 (by omega) hB fun j hj => by have := hc.2 j (by omega); omega
  | succ l ih =>
    intro hl s B g3 c3 g4 c4 k L w hr h3 h4 hB hasc ht hs1 hs2
    have IH := Lib.hid (ih (by omega))
    have hpow : ∀ q : Nat, q < n → tS L + (q : Int) * (n : Int) ^ l + (n : Int) ^ l ≤ 100000 := fun q hq => by
      have h1 : (0 : Int) ≤ (n : Int) ^ l := Int.pow_nonneg (by omega)
      have h2 : ((q : Int) + 1) * (n : Int) ^ l ≤ (n : Int) * (n : Int) ^ l := Int.mul_le_mul_of_nonneg_right (by omega) h1
      have h3 : (n : Int) ^ (l + 1) = (n : Int) * (n : Int) ^ l := by rw [Int.pow_succ, Int.mul_comm]
      rw [h3] at ht
      grind
    have HPOW := Lib.hid hpow
    have HR := Lib.hid hr
    have HXS := Lib.hid hx
    have HASC := Lib.hid hasc
    have HLEN := Lib.hid hlen
    obtain ⟨LL, hLL⟩ : ∃ LL : Nat → List (Int × Int), LL = fun q => fld (fun i L => dF (gi xs) n l (s + gi xs i) L) q L := ⟨_, rfl⟩
    have HLL := Lib.hid hLL
    have hL0 : LL 0 = L := by rw [hLL]; rfl
    have HL1 := Lib.hid (show ∀ q, LL (q + 1) = dF (gi xs) n l (s + gi xs q) (LL q) by intro q; rw [hLL]; rfl)
    have HLA := Lib.hid (show ∀ q, AscP (LL q) by intro q; rw [hLL]; exact fld_ind (P := AscP) (fun i L h => dF_asc _ n l _ L h) q L hasc)
    have HLT := Lib.hid (show ∀ q : Nat, tS (LL q) = tS L + (q : Int) * (n : Int) ^ l by intro q; rw [hLL]; exact tS_fld _ n l s L q)
    have hend : dF (gi xs) n (l + 1) s L = LL n := by rw [hLL]; rfl
    rw [hend]
    have H3 := Lib.hid h3
    have H4 := Lib.hid h4
    have HL0 := Lib.hid hL0
    clear hr hx hasc hlen hLL hL0 hend ih hpow ht h3 h4
    obtain ⟨ml, hml⟩ : ∃ ml : Int, ((l + 1 : Nat) : Int) = ml := ⟨_, rfl⟩
    have HM := Lib.hid (show ml - 1 = (l : Int) by omega)
    have HS1 := Lib.hid (show ∀ y : Int, -1000000 ≤ y → y ≤ 1000000 → -(20 - (l : Int)) * 1000000 ≤ s + y ∧ s + y ≤ (20 - (l : Int)) * 1000000 by intro y _ _; push_cast at hs1 hs2; omega)
    have m1 : 0 < ml := by omega
    have m2 : ml ≤ 100 := by omega
    have s1 : -20000000 ≤ s := by push_cast at hs1; omega
    have s2 : s ≤ 20000000 := by push_cast at hs2; omega
    rw [hml]
    clear hml hs1 hs2
    go_enter Try.func33, Try.ntmps33
    go_wp2_with fail
    go_loopw [3, 4, 12] (fun v3 v4 v12 wr => ∃ (q g5 c5 g6 c6 k' : Nat), q ≤ n ∧ v12 = .int .i64 q ∧ v3 = .slice (some ⟨g5, 0, none⟩) k' c5 ∧ v4 = .slice (some ⟨g6, 0, none⟩) k' c6 ∧ DR wr B g5 c5 k' (fS (LL q)) ∧ DR wr B g6 c6 k' (sS (LL q)) ∧ Below w.heap.size w wr) (fun _ _ v12 _ => n - (intOf v12).toNat)
    case atStart => exact ⟨0, g3, c3, g4, c4, k, Nat.zero_le _, rfl, rfl, rfl, by rw [HL0.out]; exact H3.out, by rw [HL0.out]; exact H4.out, Below.refl _ _⟩
    case round =>
      obtain ⟨q, g5, c5, g6, c6, k', hq, rfl, rfl, rfl, h5, h6, hb⟩ := hrel
      have H5 := Lib.hid h5
      have H6 := Lib.hid h6
      have HB := Lib.hid hb
      have zb := hb.size
      clear h5 h6 hb
      by_cases hqn : q < n
      · have hrow := HR.out.below HB.out
        have c1 := hrow.cell q (by have := HLEN.out; omega)
        have HROW := Lib.hid hrow
        obtain ⟨y, hy⟩ : ∃ y, gi xs q = y := ⟨_, rfl⟩
        have hyb := HXS.out q hqn
        have HNX := Lib.hid (show LL (q + 1) = dF (gi xs) n l (s + y) (LL q) by rw [HL1.out, hy])
        have HTT := Lib.hid (show tS (LL q) + (n : Int) ^ l ≤ 100000 by rw [HLT.out]; exact HPOW.out q hqn)
        rw [hy] at c1 hyb
        have hqn' : (q : Int) < (n : Int) := by omega
        clear hrow hy
        go_wp2_with (go_at_call 33; rw [HM.out]; refine (IH.out (s + y) B g5 c5 g6 c6 k' (LL q) _ HROW.out H5.out H6.out (Nat.le_trans hB zb) (HLA.out q) HTT.out (HS1.out y hyb.1 hyb.2).1 (HS1.out y hyb.1 hyb.2).2).mono ?_; rintro e w2 ⟨g7, c7, g8, c8, k7, rfl, h7, h8, hb2⟩; have H7 := Lib.hid h7; have H8 := Lib.hid h8; have HB2 := Lib.hid hb2; clear h7 h8 hb2)
        go_roundw
        case rel => exact ⟨q + 1, g7, c7, g8, c8, k7, by omega, by go_num, rfl, rfl, by rw [HNX.out]; exact H7.out, by rw [HNX.out]; exact H8.out, HB.out.trans (HB2.out.mono zb)⟩
        case measure => simp [intOf]; omega
      · obtain rfl : q = n := by omega
        go_wp2_with fail
        go_ret2
        exact ⟨g5, c5, g6, c6, k', rfl, H5.out, H6.out, HB.out⟩

end Go.Proofs.Ytpcnjkgoehepaaa
