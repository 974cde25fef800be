/- Plain facts: what the points are above the line, summed. No program here. -/
import Derived.Test.YtoioafadenniiaaLineI
namespace Go.Proofs.Ytoioafadenniiaa

theorem qd_i (z : Int) : qd z 1 = (z : Rat) := rat_ext (by rw [up_qd]; rfl) (by rw [dn_qd]; rfl)
theorem qd_same (a b E : Int) (hE : E ≠ 0) : qd a E + qd b E = qd (a + b) E := by
  have h2 : E * E ≠ 0 := Int.mul_ne_zero hE hE
  rw [qd_add _ _ _ _ hE hE, qd_eq h2 hE]
  grind
theorem qd_diff (a b E : Int) (hE : E ≠ 0) : qd a E - qd b E = qd (a - b) E := by
  rw [Rat.sub_eq_add_neg, show -qd b E = qd (-b) E from by unfold qd; rw [Rat.neg_divInt], qd_same _ _ _ hE]
  rfl
theorem qd_up (a E n : Int) (hE : E ≠ 0) (hn : n ≠ 0) : qd a E = qd (a * n) (E * n) := by
  rw [qd_eq hE (Int.mul_ne_zero hE hn)]
  grind
theorem qd_den (a E : Int) (hE : E ≠ 0) : qd a E * (E : Rat) = (a : Rat) := by
  rw [← qd_i E, qd_mul, ← qd_i a, qd_eq (by omega) (by omega)]
  grind

/-- With E below, of at most K above. -/
def Pt (E K : Int) (q : Rat) : Prop := ∃ k, -K ≤ k ∧ k ≤ K ∧ q = qd k E
theorem Pt.add {E K L : Int} {p q : Rat} (hE : E ≠ 0) (hp : Pt E K p) (hq : Pt E L q) : Pt E (K + L) (p + q) := by
  obtain ⟨a, a1, a2, rfl⟩ := hp
  obtain ⟨b, b1, b2, rfl⟩ := hq
  exact ⟨a + b, by omega, by omega, qd_same _ _ _ hE⟩
theorem Pt.mul {E K M : Int} {p : Rat} {x : Int} (hp : Pt E K p) (hx : -M ≤ x ∧ x ≤ M) : Pt E (K * M) (p * qd x 1) := by
  obtain ⟨a, a1, a2, rfl⟩ := hp
  have h := mul_bd ⟨a1, a2⟩ hx
  exact ⟨a * x, h.1, h.2, by rw [qd_mul, Int.mul_one]⟩
theorem Pt.zero {E K : Int} (_hE : E ≠ 0) (hK : 0 ≤ K) : Pt E K 0 := ⟨0, by omega, by omega, by unfold qd; simp⟩
theorem Pt.mono {E K L : Int} {p : Rat} (h : Pt E K p) (hK : K ≤ L) : Pt E L p := by
  obtain ⟨a, a1, a2, rfl⟩ := h
  exact ⟨a, by omega, by omega, rfl⟩
theorem Pt.sm {E K B : Int} {p : Rat} (hE : 0 < E) (hB : E ≤ B) (h : Pt E K p) : Sm K B p := by
  obtain ⟨a, a1, a2, rfl⟩ := h
  exact sm_qd hE a1 a2 hB

def dvR (xs ys : List Int) (i : Nat) : Rat := qd (gi ys i) 1 - (lnA xs ys * qd (gi xs i) 1 + lnB xs ys)
def sdR (xs ys : List Int) : Nat → Rat
  | 0 => 0
  | k + 1 => sdR xs ys k + dvR xs ys k
def sxR (xs ys : List Int) : Nat → Rat
  | 0 => 0
  | k + 1 => sxR xs ys k + dvR xs ys k * qd (gi xs k) 1

theorem sdR_eq (xs ys : List Int) : ∀ k : Nat, sdR xs ys k = (suN ys k : Rat) - (lnA xs ys * (suN xs k : Rat) + lnB xs ys * ((k : Int) : Rat))
  | 0 => by simp [sdR, suN]; grind
  | k + 1 => by
    have ih := sdR_eq xs ys k
    simp only [sdR, ih, dvR, suN, qd_i, Rat.intCast_add]
    rw [show ((k + 1 : Nat) : Int) = (k : Int) + 1 from by omega, Rat.intCast_add]
    grind
theorem sxR_eq (xs ys : List Int) : ∀ k : Nat, sxR xs ys k = (xyN xs ys k : Rat) - (lnA xs ys * (sqN xs k : Rat) + lnB xs ys * (suN xs k : Rat))
  | 0 => by simp [sxR, suN, sqN, xyN]; grind
  | k + 1 => by
    have ih := sxR_eq xs ys k
    simp only [sxR, ih, dvR, suN, sqN, xyN, qd_i, Rat.intCast_add, Rat.intCast_mul]
    grind

theorem line_zero {xs ys : List Int} (h : Cl xs ys) : sdR xs ys xs.length = 0 ∧ sxR xs ys xs.length = 0 := by
  have hb := ln_bd h
  have d1 := hb.d1
  have n0 := h.pl.n0
  have e1 := sdR_eq xs ys xs.length
  have e2 := sxR_eq xs ys xs.length
  have eA : lnA xs ys * (lnD xs : Rat) = (lnN xs ys : Rat) := by unfold lnA; exact qd_den _ _ (by omega)
  have hn : qd 1 (xs.length : Int) * ((xs.length : Int) : Rat) = ((1 : Int) : Rat) := qd_den 1 xs.length (by omega)
  have eB : lnB xs ys * ((xs.length : Int) : Rat) = (suN ys xs.length : Rat) - lnA xs ys * (suN xs xs.length : Rat) := by
    unfold lnB
    rw [Rat.mul_assoc, hn, qd_i, qd_i]
    simp
  have hN : (lnN xs ys : Rat) = ((xs.length : Int) : Rat) * (xyN xs ys xs.length : Rat) - (suN xs xs.length : Rat) * (suN ys xs.length : Rat) := by unfold lnN; simp only [Rat.intCast_sub, Rat.intCast_mul]
  have hD : (lnD xs : Rat) = ((xs.length : Int) : Rat) * (sqN xs xs.length : Rat) - (suN xs xs.length : Rat) * (suN xs xs.length : Rat) := by unfold lnD; simp only [Rat.intCast_sub, Rat.intCast_mul]
  have hne : ((xs.length : Int) : Rat) ≠ 0 := by
    intro h0
    have : up ((xs.length : Int) : Rat) = up 0 := by rw [h0]
    have e : up ((xs.length : Int) : Rat) = (xs.length : Int) := rfl
    rw [e] at this
    have e0 : up (0 : Rat) = 0 := rfl
    omega
  generalize ((xs.length : Int) : Rat) = n at *
  generalize (suN xs xs.length : Rat) = sx at *
  generalize (suN ys xs.length : Rat) = sy at *
  generalize (xyN xs ys xs.length : Rat) = xy at *
  generalize (sqN xs xs.length : Rat) = xx at *
  generalize lnA xs ys = A at *
  generalize lnB xs ys = B at *
  refine ⟨by rw [e1, eB]; grind, ?_⟩
  have : n * sxR xs ys xs.length = 0 := by
    rw [e2]
    rw [hN, hD] at eA
    grind
  rcases Rat.mul_eq_zero.1 this with h | h
  · exact absurd h hne
  · exact h

structure DvB (xs ys : List Int) (A B : Rat) (i : Nat) : Prop where
  t : Sm 169344 7056 (A * qd (gi xs i) 1)
  s : Sm 2963520 49392 (A * qd (gi xs i) 1 + B)
  d : Pt (lnD xs * xs.length) 3556224 (dvR xs ys i)

theorem dv_bd {xs ys : List Int} (h : Cl xs ys) (i : Nat) (hi : i < xs.length) : DvB xs ys (lnA xs ys) (lnB xs ys) i := by
  have hb := ln_bd h
  have eB : lnB xs ys = qd (suN ys xs.length * lnD xs - lnN xs ys * suN xs xs.length) (lnD xs * xs.length) := by
    have d1 := hb.d1
    unfold lnB lnA
    rw [qd_mul, Int.mul_one, qd_up (suN ys xs.length) 1 (lnD xs) (by omega) (by omega), Int.one_mul, qd_diff _ _ _ (by omega), qd_mul, Int.mul_one]
  obtain ⟨d1, d2, n1, n2, x1, x2, y1, y2, -, -, -, -⟩ := hb
  have n0 := h.pl.n0
  have n7 := h.pl.nm
  have bx := h.pl.x i hi
  have by' := h.pl.y i hi
  have eD : dvR xs ys i = qd (gi ys i) 1 - (lnA xs ys * qd (gi xs i) 1 + lnB xs ys) := rfl
  unfold lnA at eD ⊢
  rw [eB] at eD ⊢
  suffices hs : Sm 169344 7056 (qd (lnN xs ys) (lnD xs) * qd (gi xs i) 1) ∧ Sm 2963520 49392 (qd (lnN xs ys) (lnD xs) * qd (gi xs i) 1 + qd (suN ys xs.length * lnD xs - lnN xs ys * suN xs xs.length) (lnD xs * xs.length)) ∧ Pt (lnD xs * xs.length) 3556224 (dvR xs ys i) from ⟨hs.1, hs.2.1, hs.2.2⟩
  generalize dvR xs ys i = dv at *
  rw [qd_mul, Int.mul_one] at eD ⊢
  generalize lnN xs ys = N at *
  generalize lnD xs = D at *
  generalize suN xs xs.length = X at *
  generalize suN ys xs.length = Y at *
  generalize gi xs i = x at *
  generalize gi ys i = y at *
  generalize xs.length = n at *
  have m1 := mul_bd (x := N) (y := X) (A := 14112) (B := 84) (by omega) (by omega)
  have m2 := mul_bd (x := Y) (y := D) (A := 84) (B := 7056) (by omega) (by omega)
  have m3 := mul_bd (x := N) (y := x) (A := 14112) (B := 12) (by omega) (by omega)
  have m4 := mul_bd (x := N * x) (y := (n : Int)) (A := 169344) (B := 7) (by omega) (by omega)
  have m5 : 0 < D * (n : Int) := Int.mul_pos (by omega) (by omega)
  have m6 : D * (n : Int) ≤ 7056 * 7 := Int.mul_le_mul (by omega) (by omega) (by omega) (by omega)
  have m7 := mul_bd (x := y) (y := D * (n : Int)) (A := 12) (B := 49392) (by omega) (by omega)
  have e1 : qd (N * x) D + qd (Y * D - N * X) (D * (n : Int)) = qd (N * x * (n : Int) + (Y * D - N * X)) (D * (n : Int)) := by
    rw [qd_up (N * x) D (n : Int) (by omega) (by omega), qd_same _ _ _ (by omega)]
  rw [e1] at eD
  rw [qd_up y 1 (D * (n : Int)) (by omega) (by omega), Int.one_mul, qd_diff _ _ _ (by omega)] at eD
  refine ⟨?_, ?_, ?_⟩
  · exact sm_qd (by omega) (by omega) (by omega) (by omega)
  · rw [e1]
    exact sm_qd (by omega) (by omega) (by omega) (by omega)
  · exact ⟨_, by omega, by omega, eD⟩

theorem sums_bd {xs ys : List Int} (h : Cl xs ys) : ∀ k : Nat, k ≤ xs.length → Pt (lnD xs * xs.length) (3556224 * (k : Int)) (sdR xs ys k) ∧ Pt (lnD xs * xs.length) (42674688 * (k : Int)) (sxR xs ys k)
  | 0, _ => by
    have d1 := (ln_bd h).d1
    have n0 := h.pl.n0
    have m5 : 0 < lnD xs * (xs.length : Int) := Int.mul_pos (by omega) (by omega)
    exact ⟨Pt.zero (by omega) (by omega), Pt.zero (by omega) (by omega)⟩
  | k + 1, hk => by
    have d1 := (ln_bd h).d1
    have n0 := h.pl.n0
    have m5 : 0 < lnD xs * (xs.length : Int) := Int.mul_pos (by omega) (by omega)
    obtain ⟨i1, i2⟩ := sums_bd h k (by omega)
    have hd := (dv_bd h k (by omega)).d
    have bx := h.pl.x k (by omega)
    exact ⟨(i1.add (by omega) hd).mono (by omega), (i2.add (by omega) (hd.mul (M := 12) bx)).mono (by omega)⟩

end Go.Proofs.Ytoioafadenniiaa
