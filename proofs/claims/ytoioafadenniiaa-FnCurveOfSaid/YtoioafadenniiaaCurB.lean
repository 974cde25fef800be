/- Plain facts: how great the numbers of a curve's value are. No walk here. -/
import Derived.Test.YtoioafadenniiaaCurQ
namespace Go.Proofs.Ytoioafadenniiaa

/-- One step of a curve's value stays within bounds. -/
structure CS (p : Rat) (d : Int) (f : Rat) : Prop where
  d1 : -24 ≤ d ∧ d ≤ 24
  p1 : -4611686018427387904 ≤ up p ∧ up p ≤ 4611686018427387904
  p2 : dn p ≤ 4611686018427387904
  m1 : (up p * d).natAbs ≤ 4611686018427387904
  u1 : -4611686018427387904 ≤ up (p * qd d 1) ∧ up (p * qd d 1) ≤ 4611686018427387904
  u2 : dn (p * qd d 1) ≤ 4611686018427387904
  t1 : dn (p * qd d 1) * dn f ≤ 4611686018427387904
  t2 : (up (p * qd d 1)).natAbs * dn f + (up f).natAbs * dn (p * qd d 1) ≤ 4611686018427387904
theorem sm_next {A B C D A' B' d : Int} {p f : Rat} (hp : Sm A B p) (hf : Sm C D f) (hd : -24 ≤ d ∧ d ≤ 24) (h1 : A * 24 * D + C * B ≤ A') (h2 : B * D ≤ B') : Sm A' B' (p * qd d 1 + f) := by
  have s := sm_add (sm_prod hp (sm_int (z := d) (M := 24) hd.1 hd.2)) hf
  rw [Int.mul_one] at s
  obtain ⟨s1, s2, s3⟩ := s
  exact ⟨by omega, by omega, by omega⟩
theorem cs_of {A B C D d : Int} {p f : Rat} (hp : Sm A B p) (hf : Sm C D f) (hd : -24 ≤ d ∧ d ≤ 24) (h1 : A * 24 ≤ 4611686018427387904) (h2 : B ≤ 4611686018427387904) (h3 : B * D ≤ 4611686018427387904) (h4 : A * 24 * D + C * B ≤ 4611686018427387904) : CS p d f := by
  have s := sm_prod hp (sm_int (z := d) (M := 24) hd.1 hd.2)
  rw [Int.mul_one] at s
  have k := sm_mul s hf
  have m := mul_bd (A := A) (B := 24) (x := up p) (y := d) ⟨hp.1, hp.2.1⟩ hd
  obtain ⟨p1, p2, p3⟩ := hp
  obtain ⟨s1, s2, s3⟩ := s
  exact ⟨hd, by omega, by omega, by omega, by omega, by omega, by omega, by omega⟩
theorem sm_zero : Sm 0 1 (0 : Rat) := ⟨by decide, by decide, by decide⟩

/-! The factors, each with its bounds. -/
theorem dd_s0 {xs ys : List Int} (hp : Pl xs ys 5) {i : Nat} (hi : i < xs.length) : Sm 12 1 (dd xs ys 0 i) := by
  have := hp.y i hi
  exact sm_int (by omega) (by omega)
theorem dd_s1 {xs ys : List Int} (hp : Pl xs ys 5) (hd : Df xs) {i : Nat} (hi : i + 1 < xs.length) : Sm 24 24 (dd xs ys 1 i) := by
  rw [dd_one]
  have h1 := hd i (i + 1) (by omega) (by omega)
  have := hp.x i (by omega)
  have := hp.x (i + 1) (by omega)
  have := hp.y i (by omega)
  have := hp.y (i + 1) (by omega)
  exact sm_slope (by omega) (by omega) (by omega)
theorem K_bd {xs ys : List Int} (hp : Pl xs ys 5) {i : Nat} (hi : i + 2 < xs.length) : -1152 ≤ (gi ys (i + 2) - gi ys (i + 1)) * (gi xs (i + 1) - gi xs i) - (gi ys (i + 1) - gi ys i) * (gi xs (i + 2) - gi xs (i + 1)) ∧
    (gi ys (i + 2) - gi ys (i + 1)) * (gi xs (i + 1) - gi xs i) - (gi ys (i + 1) - gi ys i) * (gi xs (i + 2) - gi xs (i + 1)) ≤ 1152 := by
  have := hp.x i (by omega)
  have := hp.x (i + 1) (by omega)
  have := hp.x (i + 2) (by omega)
  have := hp.y i (by omega)
  have := hp.y (i + 1) (by omega)
  have := hp.y (i + 2) (by omega)
  have m1 := mul_24 (x := gi ys (i + 2) - gi ys (i + 1)) (y := gi xs (i + 1) - gi xs i) (A := 24) (B := 24) (by omega) (by omega) (C := 576) rfl
  have m2 := mul_24 (x := gi ys (i + 1) - gi ys i) (y := gi xs (i + 2) - gi xs (i + 1)) (A := 24) (B := 24) (by omega) (by omega) (C := 576) rfl
  omega
theorem dd_s2 {xs ys : List Int} (hp : Pl xs ys 5) (hd : Df xs) {i : Nat} (hi : i + 2 < xs.length) : Sm 1152 13824 (dd xs ys 2 i) := by
  have h1 := hd i (i + 1) (by omega) (by omega)
  have h2 := hd (i + 1) (i + 2) (by omega) (by omega)
  have h4 := hd i (i + 2) (by omega) (by omega)
  have := hp.x i (by omega)
  have := hp.x (i + 1) (by omega)
  have := hp.x (i + 2) (by omega)
  have m1 := mul_24 (x := gi xs (i + 2) - gi xs (i + 1)) (y := gi xs (i + 1) - gi xs i) (A := 24) (B := 24) (by omega) (by omega) (C := 576) rfl
  have m2 := mul_24 m1 (y := gi xs (i + 2) - gi xs i) (B := 24) (by omega) (C := 13824) rfl
  rw [dd_two hd hi]
  exact sm_slope (mul_ne (mul_ne (by omega) (by omega)) (by omega)) (K_bd hp hi) m2

/-- A sum of fractions, one lower number within the other. -/
theorem q_over {n K V R : Int} (hV : V ≠ 0) (hR : R ≠ 0) : qd n (V * R) + qd K V = qd (n + K * R) (V * R) := by
  rw [qd_add _ _ _ _ (mul_ne hV hR) hV, qd_eq (mul_ne (mul_ne hV hR) hV) (mul_ne hV hR)]
  grind
theorem q_times {n d V : Int} : qd n V * qd d 1 = qd (n * d) V := by rw [qd_mul, Int.mul_one]
/-- The last factor of five. -/
theorem q_four {N0 N1 T P Q l : Int} (hT : T ≠ 0) (hP : P ≠ 0) (hQ : Q ≠ 0) (hl : l ≠ 0) : (qd N1 (T * Q) - qd N0 (T * P)) * qd 1 l = qd (N1 * P - N0 * Q) (T * P * (Q * l)) := by
  rw [qd_subd _ _ _ _ (mul_ne hT hQ) (mul_ne hT hP), qd_mul, qd_eq (mul_ne (mul_ne (mul_ne hT hQ) (mul_ne hT hP)) hl) (mul_ne (mul_ne hT hP) (mul_ne hQ hl))]
  grind
theorem bd_of_natAbs {x : Int} {N : Nat} (h : x.natAbs ≤ N) : -(N : Int) ≤ x ∧ x ≤ N := by omega

theorem v4_natAbs (a b c d : Int) : (((c - b) * (d - b) * (d - c)) * ((b - a) * (c - a) * (d - a))).natAbs = v4 a b c d := by
  unfold v4
  rw [dI_comm a b, dI_comm a c, dI_comm a d, dI_comm b c, dI_comm b d, dI_comm c d]
  unfold dI
  simp only [Int.natAbs_mul]
  ac_rfl
theorem dif_24 {a b : Int} (ha : -12 ≤ a ∧ a ≤ 12) (hb : -12 ≤ b ∧ b ≤ 12) : -24 ≤ a - b ∧ a - b ≤ 24 := by omega

set_option maxHeartbeats 1000000 in
/-- Five points: the last two factors, and the first two steps of the value. -/
theorem cA_five {xs ys : List Int} (hp : Pl xs ys 5) (hd : Df xs) (h5 : xs.length = 5) {d3 d2 : Int} (h3 : -24 ≤ d3 ∧ d3 ≤ 24) (h2 : -24 ≤ d2 ∧ d2 ≤ 24) :
    Sm 36691771392 1127587184640 (dd xs ys 4 0) ∧ Sm 1327104 3398640 (dd xs ys 3 0) ∧ Sm 1320903770112 1127587184640 (dd xs ys 4 0 * qd d3 1 + dd xs ys 3 0) ∧ Sm 36985305563136 1127587184640 ((dd xs ys 4 0 * qd d3 1 + dd xs ys 3 0) * qd d2 1 + dd xs ys 2 0) := by
  have X := fun i (hi : i < 5) => hp.x i (by omega)
  have k0 := K_bd hp (i := 0) (by omega)
  have k1 := K_bd hp (i := 1) (by omega)
  have k2 := K_bd hp (i := 2) (by omega)
  have D01 := hd 0 1 (by omega) (by omega)
  have D02 := hd 0 2 (by omega) (by omega)
  have D03 := hd 0 3 (by omega) (by omega)
  have D04 := hd 0 4 (by omega) (by omega)
  have D12 := hd 1 2 (by omega) (by omega)
  have D13 := hd 1 3 (by omega) (by omega)
  have D14 := hd 1 4 (by omega) (by omega)
  have D23 := hd 2 3 (by omega) (by omega)
  have D24 := hd 2 4 (by omega) (by omega)
  have D34 := hd 3 4 (by omega) (by omega)
  have b0 := X 0 (by omega)
  have b1 := X 1 (by omega)
  have b2 := X 2 (by omega)
  have b3 := X 3 (by omega)
  have b4 := X 4 (by omega)
  simp only [Nat.zero_add, show 1 + 2 = 3 from rfl, show 1 + 1 = 2 from rfl, show 2 + 2 = 4 from rfl] at k0 k1 k2
  obtain ⟨K0, hK0⟩ : ∃ K, (gi ys 2 - gi ys 1) * (gi xs 1 - gi xs 0) - (gi ys 1 - gi ys 0) * (gi xs 2 - gi xs 1) = K := ⟨_, rfl⟩
  obtain ⟨K1, hK1⟩ : ∃ K, (gi ys 3 - gi ys 2) * (gi xs 2 - gi xs 1) - (gi ys 2 - gi ys 1) * (gi xs 3 - gi xs 2) = K := ⟨_, rfl⟩
  obtain ⟨K2, hK2⟩ : ∃ K, (gi ys 4 - gi ys 3) * (gi xs 3 - gi xs 2) - (gi ys 3 - gi ys 2) * (gi xs 4 - gi xs 3) = K := ⟨_, rfl⟩
  have e30 := dd_three hd (ys := ys) (i := 0) (by omega) (K := K0) (K' := K1) hK0 hK1
  have e31 := dd_three hd (ys := ys) (i := 1) (by omega) (K := K1) (K' := K2) hK1 hK2
  have e2 := dd_two hd (ys := ys) (i := 0) (by omega)
  have e4 : dd xs ys 4 0 = (dd xs ys 3 1 - dd xs ys 3 0) * qd 1 (gi xs 4 - gi xs 0) := rfl
  simp only [Nat.zero_add, show 1 + 3 = 4 from rfl, show 1 + 2 = 3 from rfl, show 1 + 1 = 2 from rfl] at e30 e31 e2
  rw [hK0] at k0 e2
  rw [hK1] at k1
  rw [hK2] at k2
  clear hK0 hK1 hK2 X hd hp
  rw [e4, e31, e30, e2]
  clear e4 e31 e30 e2
  generalize gi xs 0 = x0 at *
  generalize gi xs 1 = x1 at *
  generalize gi xs 2 = x2 at *
  generalize gi xs 3 = x3 at *
  generalize gi xs 4 = x4 at *
  have v := bd_of_natAbs (Nat.le_trans (Nat.le_of_eq (v4_natAbs x0 x1 x2 x3)) (v4_le b0 b1 b2 b3))
  obtain ⟨T, hT⟩ : ∃ T, (x2 - x1) * (x3 - x1) * (x3 - x2) = T := ⟨_, rfl⟩
  obtain ⟨P, hP⟩ : ∃ T, (x1 - x0) * (x2 - x0) * (x3 - x0) = T := ⟨_, rfl⟩
  obtain ⟨Q, hQ⟩ : ∃ T, (x4 - x1) * (x4 - x2) * (x4 - x3) = T := ⟨_, rfl⟩
  have pT : T ≠ 0 := by rw [← hT]; exact mul_ne (mul_ne (by omega) (by omega)) (by omega)
  have pP : P ≠ 0 := by rw [← hP]; exact mul_ne (mul_ne (by omega) (by omega)) (by omega)
  have pQ : Q ≠ 0 := by rw [← hQ]; exact mul_ne (mul_ne (by omega) (by omega)) (by omega)
  have bP := mul_24 (mul_24 (dif_24 b1 b0) (dif_24 b2 b0) (C := 576) rfl) (dif_24 b3 b0) (C := 13824) rfl
  have bQ := mul_24 (mul_24 (dif_24 b4 b1) (dif_24 b4 b2) (C := 576) rfl) (dif_24 b4 b3) (C := 13824) rfl
  have n0a := mul_24 k1 (mul_24 (dif_24 b1 b0) (dif_24 b2 b0) (C := 576) rfl) (C := 663552) rfl
  have n0b := mul_24 k0 (mul_24 (dif_24 b3 b2) (dif_24 b3 b1) (C := 576) rfl) (C := 663552) rfl
  have n1a := mul_24 k2 (mul_24 (dif_24 b2 b1) (dif_24 b3 b1) (C := 576) rfl) (C := 663552) rfl
  have n1b := mul_24 k1 (mul_24 (dif_24 b4 b3) (dif_24 b4 b2) (C := 576) rfl) (C := 663552) rfl
  have bl := dif_24 b4 b0
  have c1 : (x1 - x0) * (x2 - x0) * ((x3 - x2) * (x3 - x1)) * ((x2 - x1) * (x3 - x0)) = T * P := by rw [← hT, ← hP]; ac_rfl
  have c2 : (x2 - x1) * (x3 - x1) * ((x4 - x3) * (x4 - x2)) * ((x3 - x2) * (x4 - x1)) = T * Q := by rw [← hT, ← hQ]; ac_rfl
  have c3 : T * P * (Q * (x4 - x0)) = (x2 - x1) * (x1 - x0) * (x2 - x0) * (((x3 - x1) * (x3 - x2) * (x3 - x0)) * (Q * (x4 - x0))) := by rw [← hT, ← hP]; ac_rfl
  have pR : (x3 - x1) * (x3 - x2) * (x3 - x0) ≠ 0 := mul_ne (mul_ne (by omega) (by omega)) (by omega)
  have bR := mul_24 (mul_24 (dif_24 b3 b1) (dif_24 b3 b2) (C := 576) rfl) (dif_24 b3 b0) (C := 13824) rfl
  have pV3 : (x2 - x1) * (x1 - x0) * (x2 - x0) ≠ 0 := mul_ne (mul_ne (by omega) (by omega)) (by omega)
  have pl : x4 - x0 ≠ 0 := by omega
  rw [hT, hP] at v
  rw [hP] at bP
  rw [hQ] at bQ
  rw [c1, c2]
  obtain ⟨N0, hN0⟩ : ∃ N, K1 * ((x1 - x0) * (x2 - x0)) - K0 * ((x3 - x2) * (x3 - x1)) = N := ⟨_, rfl⟩
  obtain ⟨N1, hN1⟩ : ∃ N, K2 * ((x2 - x1) * (x3 - x1)) - K1 * ((x4 - x3) * (x4 - x2)) = N := ⟨_, rfl⟩
  obtain ⟨R, hR⟩ : ∃ R, (x3 - x1) * (x3 - x2) * (x3 - x0) = R := ⟨_, rfl⟩
  obtain ⟨V3, hV3⟩ : ∃ R, (x2 - x1) * (x1 - x0) * (x2 - x0) = R := ⟨_, rfl⟩
  rw [hN0, hN1, hV3]
  rw [hR, hV3] at c3
  rw [hR] at pR bR
  rw [hV3] at pV3
  obtain ⟨l, hl⟩ : ∃ l, x4 - x0 = l := ⟨_, rfl⟩
  rw [hl] at bl pl c3 ⊢
  have bN0 : -1327104 ≤ N0 ∧ N0 ≤ 1327104 := by omega
  have bN1 : -1327104 ≤ N1 ∧ N1 ≤ 1327104 := by omega
  clear hN0 hN1 hR hV3 hl hT hP hQ c1 c2 n0a n0b n1a n1b
  rw [q_four pT pP pQ pl]
  have bQl := mul_24 bQ bl (C := 331776) rfl
  have bV := mul_24 v bQl (C := 1127587184640) rfl
  have m1 := mul_24 bN1 bP (C := 18345885696) rfl
  have m2 := mul_24 bN0 bQ (C := 18345885696) rfl
  obtain ⟨M, hM⟩ : ∃ M, N1 * P - N0 * Q = M := ⟨_, rfl⟩
  have bM : -36691771392 ≤ M ∧ M ≤ 36691771392 := by omega
  rw [hM]
  have pV := mul_ne (mul_ne pT pP) (mul_ne pQ pl)
  have m3 := mul_24 bM h3 (C := 880602513408) rfl
  have m4 := mul_24 bN0 bQl (C := 440301256704) rfl
  have s1 := sm_slope pV (a := M) (A := 36691771392) bM bV
  have s2 := sm_slope (mul_ne pT pP) (a := N0) (A := 1327104) bN0 v
  refine ⟨s1, s2, ?_⟩
  rw [q_times, q_over (mul_ne pT pP) (mul_ne pQ pl)]
  obtain ⟨M1, hM1⟩ : ∃ M1, M * d3 + N0 * (Q * l) = M1 := ⟨_, rfl⟩
  have bM1 : -1320903770112 ≤ M1 ∧ M1 ≤ 1320903770112 := by omega
  rw [hM1]
  refine ⟨sm_slope pV bM1 bV, ?_⟩
  have bRQ := mul_24 bR bQl (C := 4586471424) rfl
  have m5 := mul_24 bM1 h2 (C := 31701690482688) rfl
  have m6 := mul_24 k0 bRQ (C := 5283615080448) rfl
  rw [c3] at pV bV ⊢
  rw [q_times, q_over pV3 (mul_ne pR (mul_ne pQ pl))]
  exact sm_slope pV (by omega) bV

theorem cA_one (xs ys : List Int) (x : Int) (m : Nat) : cA xs ys x m 1 = dd xs ys (m - 1) 0 := by
  rw [cA_succ, cA_zero, Rat.zero_mul, Rat.zero_add]
/-- All steps of a curve's value stay within bounds. -/
theorem cA_cs {xs ys : List Int} (hp : Pl xs ys 5) (hd : Df xs) {x : Int} (hx : -12 ≤ x ∧ x ≤ 12) {m : Nat} (hm : xs.length = m) : ∀ j, j < m → CS (cA xs ys x m j) (x - gi xs (m - (j + 1))) (dd xs ys (m - (j + 1)) 0) := by
  have X : ∀ i, i < m → -24 ≤ x - gi xs i ∧ x - gi xs i ≤ 24 := fun i hi => by have := hp.x i (by omega); omega
  have n0 := hp.n0
  have n5 := hp.nm
  rw [hm] at n0 n5
  have f0 : Sm 12 1 (dd xs ys 0 0) := dd_s0 hp (by omega)
  obtain rfl | rfl | rfl | rfl | rfl : m = 1 ∨ m = 2 ∨ m = 3 ∨ m = 4 ∨ m = 5 := by omega
  · intro j hj
    obtain rfl : j = 0 := by omega
    exact cs_of sm_zero f0 (X _ (by omega)) (by decide) (by decide) (by decide) (by decide)
  · have f1 : Sm 24 24 (dd xs ys 1 0) := dd_s1 hp hd (by omega)
    have p1 : Sm 24 24 (cA xs ys x 2 1) := by rw [cA_one]; exact f1
    intro j hj
    obtain rfl | rfl : j = 0 ∨ j = 1 := by omega
    · exact cs_of sm_zero f1 (X _ (by omega)) (by decide) (by decide) (by decide) (by decide)
    · exact cs_of p1 f0 (X _ (by omega)) (by decide) (by decide) (by decide) (by decide)
  · have f1 : Sm 24 24 (dd xs ys 1 0) := dd_s1 hp hd (by omega)
    have f2 : Sm 1152 13824 (dd xs ys 2 0) := dd_s2 hp hd (by omega)
    have p1 : Sm 1152 13824 (cA xs ys x 3 1) := by rw [cA_one]; exact f2
    have p2 : Sm 995328 331776 (cA xs ys x 3 2) := by rw [cA_succ]; exact sm_next p1 f1 (X _ (by omega)) (by decide) (by decide)
    intro j hj
    obtain rfl | rfl | rfl : j = 0 ∨ j = 1 ∨ j = 2 := by omega
    · exact cs_of sm_zero f2 (X _ (by omega)) (by decide) (by decide) (by decide) (by decide)
    · exact cs_of p1 f1 (X _ (by omega)) (by decide) (by decide) (by decide) (by decide)
    · exact cs_of p2 f0 (X _ (by omega)) (by decide) (by decide) (by decide) (by decide)
  · have f1 : Sm 24 24 (dd xs ys 1 0) := dd_s1 hp hd (by omega)
    have f2 : Sm 1152 13824 (dd xs ys 2 0) := dd_s2 hp hd (by omega)
    have f3 : Sm 1327104 191102976 (dd xs ys 3 0) := dd_sm hp hd 3 0 (by omega) (by omega)
    have p1 : Sm 1327104 191102976 (cA xs ys x 4 1) := by rw [cA_one]; exact f3
    have p2 : Sm 660451885056 2641807540224 (cA xs ys x 4 2) := by rw [cA_succ]; exact sm_next p1 f2 (X _ (by omega)) (by decide) (by decide)
    have p3 : Sm 443823666757632 63403380965376 (cA xs ys x 4 3) := by rw [cA_succ]; exact sm_next p2 f1 (X _ (by omega)) (by decide) (by decide)
    intro j hj
    obtain rfl | rfl | rfl | rfl : j = 0 ∨ j = 1 ∨ j = 2 ∨ j = 3 := by omega
    · exact cs_of sm_zero f3 (X _ (by omega)) (by decide) (by decide) (by decide) (by decide)
    · exact cs_of p1 f2 (X _ (by omega)) (by decide) (by decide) (by decide) (by decide)
    · exact cs_of p2 f1 (X _ (by omega)) (by decide) (by decide) (by decide) (by decide)
    · exact cs_of p3 f0 (X _ (by omega)) (by decide) (by decide) (by decide) (by decide)
  · have f1 : Sm 24 24 (dd xs ys 1 0) := dd_s1 hp hd (by omega)
    have f2 : Sm 1152 13824 (dd xs ys 2 0) := dd_s2 hp hd (by omega)
    obtain ⟨f4, f3, q2, q3⟩ := cA_five hp hd hm (X 3 (by omega)) (X 2 (by omega))
    have p1 : Sm 36691771392 1127587184640 (cA xs ys x 5 1) := by rw [cA_one]; exact f4
    have p2 : Sm 1320903770112 1127587184640 (cA xs ys x 5 2) := by rw [cA_succ, cA_one]; exact q2
    have p3 : Sm 36985305563136 1127587184640 (cA xs ys x 5 3) := by rw [cA_succ, cA_succ, cA_one]; exact q3
    have p4 : Sm 21330598096797696 27062092431360 (cA xs ys x 5 4) := by rw [cA_succ]; exact sm_next p3 f1 (X _ (by omega)) (by decide) (by decide)
    intro j hj
    obtain rfl | rfl | rfl | rfl | rfl : j = 0 ∨ j = 1 ∨ j = 2 ∨ j = 3 ∨ j = 4 := by omega
    · exact cs_of sm_zero f4 (X _ (by omega)) (by decide) (by decide) (by decide) (by decide)
    · exact cs_of p1 f3 (X _ (by omega)) (by decide) (by decide) (by decide) (by decide)
    · exact cs_of p2 f2 (X _ (by omega)) (by decide) (by decide) (by decide) (by decide)
    · exact cs_of p3 f1 (X _ (by omega)) (by decide) (by decide) (by decide) (by decide)
    · exact cs_of p4 f0 (X _ (by omega)) (by decide) (by decide) (by decide) (by decide)

end Go.Proofs.Ytoioafadenniiaa
