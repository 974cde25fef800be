/- Plain facts: near and far joins: how their heights rise, and how they compare. No walk here. -/
import Derived.Test.YtclfjnoedcimiaaFarS
namespace Go.Proofs.Ytclfjnoedcimiaa
open Go.RowKit

/-- How many of the first k a test holds of. -/
def cn (P : Nat → Bool) : Nat → Nat
  | 0 => 0
  | k + 1 => cn P k + if P k then 1 else 0
theorem cn_congr {P Q : Nat → Bool} : ∀ k, (∀ i, i < k → P i = Q i) → cn P k = cn Q k
  | 0, _ => rfl
  | k + 1, h => by rw [cn, cn, cn_congr k fun i hi => h i (by omega), h k (by omega)]
theorem cn_drop (Q : Nat → Bool) {y : Nat} (hq : Q y = true) : ∀ m, y < m → cn (fun i => Q i && !(i == y)) m + 1 = cn Q m
  | 0, h => absurd h (Nat.not_lt_zero _)
  | m + 1, h => by
    rw [cn, cn]
    by_cases e : y = m
    · subst e
      have : cn (fun i => Q i && !(i == y)) y = cn Q y := cn_congr y fun i hi => by
        have : (i == y) = false := by rw [beq_eq_false_iff_ne]; omega
        simp [this]
      rw [this, hq]
      simp
    · have ih := cn_drop Q hq m (by omega)
      have : (m == y) = false := by rw [beq_eq_false_iff_ne]; omega
      simp only [this, Bool.not_false, Bool.and_true]
      omega
theorem cn_inj (m : Nat) (f : Nat → Nat) (P : Nat → Bool) : ∀ (n : Nat) (Q : Nat → Bool), (∀ x, x < n → P x = true → f x < m ∧ Q (f x) = true) → (∀ x x', x < n → x' < n → P x = true → P x' = true → f x = f x' → x = x') → cn P n ≤ cn Q m
  | 0, _, _, _ => Nat.zero_le _
  | n + 1, Q, hm, hi => by
    rw [cn]
    cases hp : P n with
    | false => simpa using cn_inj m f P n Q (fun x hx => hm x (by omega)) fun x x' hx hx' => hi x x' (by omega) (by omega)
    | true =>
      obtain ⟨h1, h2⟩ := hm n (by omega) hp
      have hd := cn_drop Q h2 m h1
      have := cn_inj m f P n (fun i => Q i && !(i == f n)) (fun x hx hpx => by
        obtain ⟨a1, a2⟩ := hm x (by omega) hpx
        refine ⟨a1, ?_⟩
        have : (f x == f n) = false := by
          rw [beq_eq_false_iff_ne]
          intro e
          have := hi x n (by omega) (by omega) hpx hp e
          omega
        simp [a2, this]) fun x x' hx hx' => hi x x' (by omega) (by omega)
      simp only [if_true]
      omega
theorem fxN_cn (G : List Int) : ∀ k, fxN G k = cn (fun i => gi G i == (i : Int)) k
  | 0 => rfl
  | k + 1 => by
    rw [fxN, cn, fxN_cn G k]
    simp
/-- Fewer groups where more is joined. -/
theorem fx_coarse {n : Nat} {A B : List Int} (ha : Lab n A) (_ : Lab n B) (h : ∀ i j, i < n → j < n → gi A i = gi A j → gi B i = gi B j) : fxN B n ≤ fxN A n := by
  rw [fxN_cn, fxN_cn]
  refine cn_inj n (fun x => (gi A x).toNat) _ n _ (fun x hx hp => ?_) fun x x' hx hx' hp hp' e => ?_
  · obtain ⟨c, h1, h2, h3⟩ := ha.at' x hx
    rw [h2]
    refine ⟨by simpa using h1, ?_⟩
    simp [h3]
  · obtain ⟨c, h1, h2, h3⟩ := ha.at' x hx
    obtain ⟨c', h1', h2', h3'⟩ := ha.at' x' hx'
    have e' : c = c' := by
      have : (gi A x).toNat = (gi A x').toNat := e
      rw [h2, h2'] at this
      simpa using this
    have e2 := h x x' hx hx' (by rw [h2, h2', e'])
    have p1 : gi B x = (x : Int) := by simpa using hp
    have p2 : gi B x' = (x' : Int) := by simpa using hp'
    omega

/-- The search finds the least. -/
theorem scRF_le (F : Nat → Nat → Int × Bool) (s : Jn) (a : Nat) : ∀ d, (scRF F s a d).2.2 ≤ s.2.2 ∧ ∀ b, a < b → b < a + 1 + d → (F a b).2 = true → (scRF F s a d).2.2 ≤ (F a b).1
  | 0 => ⟨Int.le_refl _, fun b h1 h2 => by omega⟩
  | d + 1 => by
    obtain ⟨i1, i2⟩ := scRF_le F s a d
    rw [scRF, stF]
    split
    · rename_i hc
      refine ⟨by dsimp only; omega, fun b h1 h2 h3 => ?_⟩
      dsimp only
      by_cases e : b = a + 1 + d
      · subst e; exact Int.le_refl _
      · have := i2 b h1 (by omega) h3
        omega
    · rename_i hc
      refine ⟨i1, fun b h1 h2 h3 => ?_⟩
      by_cases e : b = a + 1 + d
      · subst e
        have : ¬ (F a (a + 1 + d)).1 < (scRF F s a d).2.2 := fun h => hc ⟨h3, h⟩
        omega
      · exact i2 b h1 (by omega) h3
theorem scAF_le (F : Nat → Nat → Int × Bool) (n : Nat) : ∀ a, a ≤ n → ∀ x y, x < a → x < y → y < n → (F x y).2 = true → (scAF F n a).2.2 ≤ (F x y).1
  | 0, _, x, y, h, _, _, _ => absurd h (Nat.not_lt_zero _)
  | a + 1, ha, x, y, hx, hxy, hy, hF => by
    rw [scAF]
    obtain ⟨i1, i2⟩ := scRF_le F (scAF F n a) a (n - 1 - a)
    by_cases e : x = a
    · subst e
      exact i2 y hxy (by omega) hF
    · have := scAF_le F n a (by omega) x y (by omega) hxy hy hF
      omega
theorem scRF_of (F : Nat → Nat → Int × Bool) (n : Nat) (s : Jn) (a : Nat) (ha : a < n) (hs : s = (0, 0, 41) ∨ (s.1 < s.2.1 ∧ s.2.1 < n ∧ (F s.1 s.2.1).2 = true ∧ s.2.2 = (F s.1 s.2.1).1)) :
    ∀ d, a + 1 + d ≤ n → scRF F s a d = (0, 0, 41) ∨ ((scRF F s a d).1 < (scRF F s a d).2.1 ∧ (scRF F s a d).2.1 < n ∧ (F (scRF F s a d).1 (scRF F s a d).2.1).2 = true ∧ (scRF F s a d).2.2 = (F (scRF F s a d).1 (scRF F s a d).2.1).1)
  | 0, _ => hs
  | d + 1, h => by
    rw [scRF, stF]
    split
    · rename_i hc
      exact .inr ⟨by dsimp only; omega, by dsimp only; omega, hc.1, rfl⟩
    · exact scRF_of F n s a ha hs d (by omega)
theorem scAF_of (F : Nat → Nat → Int × Bool) (n : Nat) : ∀ a, a ≤ n → scAF F n a = (0, 0, 41) ∨ ((scAF F n a).1 < (scAF F n a).2.1 ∧ (scAF F n a).2.1 < n ∧ (F (scAF F n a).1 (scAF F n a).2.1).2 = true ∧ (scAF F n a).2.2 = (F (scAF F n a).1 (scAF F n a).2.1).1)
  | 0, _ => .inl rfl
  | a + 1, h => by
    rw [scAF]
    exact scRF_of F n _ a (by omega) (scAF_of F n a (by omega)) _ (by omega)

theorem gm_symm {xss : List (List Int)} (h : Gp xss) {a b : Nat} (ha : a < xss.length) (hb : b < xss.length) : gm xss a b = gm xss b a := by
  rcases Nat.lt_trichotomy a b with h1 | h1 | h1
  · exact (h.low b a hb h1).2
  · rw [h1]
  · exact ((h.low a b ha h1).2).symm

/-! Near joins. -/
/-- The near joins behind k steps: the labels, and how low the pairs of two groups are. -/
structure NS (xss : List (List Int)) (n k : Nat) : Prop where
  inb : ∀ e ∈ oF (fNear xss) n k, e.1 < n ∧ e.2.1 < n
  lab : Lab n (gS n (oF (fNear xss) n k))
  cnt : fxN (gS n (oF (fNear xss) n k)) n + k = n
/-- The next near join. -/
def nj (xss : List (List Int)) (n k : Nat) : Jn := scAF (fNear xss (gI n (oF (fNear xss) n k))) n n
theorem ns_zero (xss : List (List Int)) (n : Nat) : NS xss n 0 := ⟨fun e he => absurd he (by simp [oF]), lab_ini n, by show fxN (ini n) n + 0 = n; rw [fx_ini n n (Nat.le_refl _)]; rfl⟩
theorem ns_same {xss : List (List Int)} {n k : Nat} (s : NS xss n k) {i j : Nat} (hi : i < n) (hj : j < n) : gi (gI n (oF (fNear xss) n k)) i = gi (gI n (oF (fNear xss) n k)) j ↔ gi (gS n (oF (fNear xss) n k)) i = gi (gS n (oF (fNear xss) n k)) j := g_same s.inb hi hj
structure NJ (xss : List (List Int)) (n k : Nat) : Prop where
  lt : (nj xss n k).1 < (nj xss n k).2.1
  ltn : (nj xss n k).2.1 < n
  ne : gi (gS n (oF (fNear xss) n k)) (nj xss n k).1 ≠ gi (gS n (oF (fNear xss) n k)) (nj xss n k).2.1
  hgt : (nj xss n k).2.2 = gm xss (nj xss n k).1 (nj xss n k).2.1
  low : ∀ x y, x < n → y < n → gi (gS n (oF (fNear xss) n k)) x ≠ gi (gS n (oF (fNear xss) n k)) y → (nj xss n k).2.2 ≤ gm xss x y
theorem nj_of {xss : List (List Int)} {n k : Nat} (hg : Gp xss) (hn : xss.length = n) (s : NS xss n k) (hk : k + 1 < n) : NJ xss n k := by
  have hlow : ∀ x y, x < n → y < n → gi (gS n (oF (fNear xss) n k)) x ≠ gi (gS n (oF (fNear xss) n k)) y → (nj xss n k).2.2 ≤ gm xss x y := by
    have key : ∀ x y, x < y → y < n → gi (gS n (oF (fNear xss) n k)) x ≠ gi (gS n (oF (fNear xss) n k)) y → (nj xss n k).2.2 ≤ gm xss x y := fun x y h1 h2 h3 => by
      have := scAF_le (fNear xss (gI n (oF (fNear xss) n k))) n n (Nat.le_refl _) x y (by omega) h1 h2 (by
        unfold fNear
        dsimp only
        rw [bne_iff_ne]
        exact fun e => h3 ((ns_same s (by omega) h2).1 e))
      exact this
    intro x y hx hy hne
    rcases Nat.lt_trichotomy x y with h | h | h
    · exact key x y h hy hne
    · subst h; exact absurd rfl hne
    · rw [gm_symm hg (by omega) (by omega)]
      exact key y x h hx fun e => hne e.symm
  rcases scAF_of (fNear xss (gI n (oF (fNear xss) n k))) n n (Nat.le_refl _) with h | ⟨h1, h2, h3, h4⟩
  · exfalso
    obtain ⟨a, b, e1, e2, e3, e4⟩ := fx_two_of (G := gS n (oF (fNear xss) n k)) n (by have := s.cnt; omega)
    have h5 := hlow a b (by omega) e2 (by rw [e3, e4]; omega)
    have h6 := gm_small hg (a := a) (b := b) (by omega) (by omega)
    have h7 : (nj xss n k).2.2 = 41 := by unfold nj; rw [h]
    omega
  · refine ⟨h1, h2, fun e => ?_, h4, hlow⟩
    have h3' : (gi (gI n (oF (fNear xss) n k)) (nj xss n k).1 != gi (gI n (oF (fNear xss) n k)) (nj xss n k).2.1) = true := h3
    rw [bne_iff_ne] at h3'
    have h1' : (nj xss n k).1 < (nj xss n k).2.1 := h1
    have h2' : (nj xss n k).2.1 < n := h2
    exact h3' ((ns_same s (by omega) h2').2 e)
theorem ns_step {xss : List (List Int)} {n k : Nat} (s : NS xss n k) (j : NJ xss n k) : NS xss n (k + 1) := by
  have e : oF (fNear xss) n (k + 1) = oF (fNear xss) n k ++ [nj xss n k] := rfl
  have h1 := j.lt
  have h2 := j.ltn
  refine ⟨fun q hq => ?_, ?_, ?_⟩
  · rw [e] at hq
    rcases List.mem_append.1 hq with hq | hq
    · exact s.inb q hq
    · simp at hq; subst hq; exact ⟨by omega, h2⟩
  · rw [e, gS_snoc]; exact lab_mg s.lab (by omega) h2
  · rw [e, gS_snoc]
    have := fx_mg s.lab (show (nj xss n k).1 < n by omega) h2 j.ne
    have := s.cnt
    omega
theorem ns_all {xss : List (List Int)} {n : Nat} (hg : Gp xss) (hn : xss.length = n) : ∀ k, k + 1 ≤ n → NS xss n k
  | 0, _ => ns_zero xss n
  | k + 1, h => ns_step (ns_all hg hn k (by omega)) (nj_of hg hn (ns_all hg hn k (by omega)) (by omega))
theorem nj_all {xss : List (List Int)} {n : Nat} (hg : Gp xss) (hn : xss.length = n) {k : Nat} (h : k + 1 < n) : NJ xss n k := nj_of hg hn (ns_all hg hn k (by omega)) h
/-- Near joins rise. -/
theorem nj_rise {xss : List (List Int)} {n : Nat} (hg : Gp xss) (hn : xss.length = n) {k : Nat} (h : k + 1 + 1 < n) : (nj xss n k).2.2 ≤ (nj xss n (k + 1)).2.2 := by
  have j := nj_all hg hn (k := k) (by omega)
  have j' := nj_all hg hn (k := k + 1) h
  have s := ns_all hg hn k (by omega)
  have h1 := j'.lt
  have h2 := j'.ltn
  have hl := s.lab.len
  rw [j'.hgt]
  refine j.low _ _ (by omega) h2 fun e => j'.ne ?_
  have e' : oF (fNear xss) n (k + 1) = oF (fNear xss) n k ++ [nj xss n k] := rfl
  rw [e', gS_snoc]
  exact (mgS_same (by omega) (by omega)).2 (.inl e)
theorem oF_at (F : List Int → Nat → Nat → Int × Bool) (n : Nat) {k : Nat} : ∀ m, k < m → (oF F n m)[k]? = some (scAF (F (gI n (oF F n k))) n n)
  | 0, h => absurd h (Nat.not_lt_zero _)
  | m + 1, h => by
    rw [oF, List.getElem?_append]
    by_cases e : k < m
    · rw [if_pos (by rw [oF_length]; exact e)]
      exact oF_at F n m e
    · have : k = m := by omega
      subst this
      rw [if_neg (by rw [oF_length]; omega), oF_length]
      simp

/-! Far joins. -/
def fj (xss : List (List Int)) (n k : Nat) : Jn := scAF (fFar xss (gI n (oF (fFar xss) n k))) n n
theorem fk_ge {xss : List (List Int)} {G : List Int} {x y : Int} {i : Nat} {m : Int} : ∀ k, m ≤ fk xss G x y i m k ∧ ∀ j, j < k → gi G i = x → gi G j = y → gm xss i j ≤ fk xss G x y i m k
  | 0 => ⟨Int.le_refl _, fun j hj => absurd hj (Nat.not_lt_zero _)⟩
  | k + 1 => by
    obtain ⟨i1, i2⟩ := fk_ge (xss := xss) (G := G) (x := x) (y := y) (i := i) (m := m) k
    rw [fk]
    split
    · refine ⟨by omega, fun j hj h1 h2 => ?_⟩
      by_cases e : j = k
      · subst e; omega
      · have := i2 j (by omega) h1 h2; omega
    · rename_i hc
      refine ⟨i1, fun j hj h1 h2 => ?_⟩
      by_cases e : j = k
      · subst e; exact absurd ⟨h1, h2⟩ hc
      · exact i2 j (by omega) h1 h2
theorem fi_ge {xss : List (List Int)} {G : List Int} {x y : Int} {n : Nat} : ∀ i, 0 ≤ fi xss G x y n i ∧ ∀ a b, a < i → b < n → gi G a = x → gi G b = y → gm xss a b ≤ fi xss G x y n i
  | 0 => ⟨Int.le_refl _, fun a b ha => absurd ha (Nat.not_lt_zero _)⟩
  | i + 1 => by
    obtain ⟨i1, i2⟩ := fi_ge (xss := xss) (G := G) (x := x) (y := y) (n := n) i
    obtain ⟨k1, k2⟩ := fk_ge (xss := xss) (G := G) (x := x) (y := y) (i := i) (m := fi xss G x y n i) n
    rw [fi]
    refine ⟨by omega, fun a b ha hb h1 h2 => ?_⟩
    by_cases e : a = i
    · subst e; exact k2 b hb h1 h2
    · have := i2 a b (by omega) hb h1 h2; omega
theorem fk_of {xss : List (List Int)} {G : List Int} {x y : Int} {i : Nat} {m : Int} : ∀ k, fk xss G x y i m k = m ∨ ∃ j, j < k ∧ gi G i = x ∧ gi G j = y ∧ fk xss G x y i m k = gm xss i j
  | 0 => .inl rfl
  | k + 1 => by
    rw [fk]
    split
    · rename_i hc
      rcases fk_of (xss := xss) (G := G) (x := x) (y := y) (i := i) (m := m) k with e | ⟨j, hj, h1, h2, e⟩
      · rw [e]
        rcases Int.le_total m (gm xss i k) with q | q
        · exact .inr ⟨k, by omega, hc.1, hc.2, by omega⟩
        · exact .inl (by omega)
      · rw [e]
        rcases Int.le_total (gm xss i j) (gm xss i k) with q | q
        · exact .inr ⟨k, by omega, hc.1, hc.2, by omega⟩
        · exact .inr ⟨j, by omega, h1, h2, by omega⟩
    · rcases fk_of (xss := xss) (G := G) (x := x) (y := y) (i := i) (m := m) k with e | ⟨j, hj, h1, h2, e⟩
      · exact .inl e
      · exact .inr ⟨j, by omega, h1, h2, e⟩
theorem fi_of {xss : List (List Int)} {G : List Int} {x y : Int} {n : Nat} : ∀ i, fi xss G x y n i = 0 ∨ ∃ a b, a < i ∧ b < n ∧ fi xss G x y n i = gm xss a b
  | 0 => .inl rfl
  | i + 1 => by
    rw [fi]
    rcases fk_of (xss := xss) (G := G) (x := x) (y := y) (i := i) (m := fi xss G x y n i) n with e | ⟨j, hj, h1, h2, e⟩
    · rw [e]
      rcases fi_of (xss := xss) (G := G) (x := x) (y := y) (n := n) i with q | ⟨a, b, ha, hb, q⟩
      · exact .inl q
      · exact .inr ⟨a, b, by omega, hb, q⟩
    · exact .inr ⟨i, j, by omega, hj, e⟩
theorem fi_of' {xss : List (List Int)} {G : List Int} {x y : Int} {n : Nat} : ∀ i, fi xss G x y n i = 0 ∨ ∃ a b, a < i ∧ b < n ∧ gi G a = x ∧ gi G b = y ∧ fi xss G x y n i = gm xss a b
  | 0 => .inl rfl
  | i + 1 => by
    rw [fi]
    rcases fk_of (xss := xss) (G := G) (x := x) (y := y) (i := i) (m := fi xss G x y n i) n with e | ⟨j, hj, h1, h2, e⟩
    · rw [e]
      rcases fi_of' (xss := xss) (G := G) (x := x) (y := y) (n := n) i with q | ⟨a, b, ha, hb, q1, q2, q⟩
      · exact .inl q
      · exact .inr ⟨a, b, by omega, hb, q1, q2, q⟩
    · exact .inr ⟨i, j, by omega, hj, h1, h2, e⟩
structure FJ (xss : List (List Int)) (n k : Nat) : Prop where
  lt : (fj xss n k).1 < (fj xss n k).2.1
  ltn : (fj xss n k).2.1 < n
  fa : gi (gI n (oF (fFar xss) n k)) (fj xss n k).1 = ((fj xss n k).1 : Int)
  fb : gi (gI n (oF (fFar xss) n k)) (fj xss n k).2.1 = ((fj xss n k).2.1 : Int)
  hgt : (fj xss n k).2.2 = fi xss (gI n (oF (fFar xss) n k)) (fj xss n k).1 (fj xss n k).2.1 xss.length xss.length
  low : ∀ x y, x < y → y < n → gi (gI n (oF (fFar xss) n k)) x = (x : Int) → gi (gI n (oF (fFar xss) n k)) y = (y : Int) → (fj xss n k).2.2 ≤ fi xss (gI n (oF (fFar xss) n k)) x y xss.length xss.length
theorem fs_all {xss : List (List Int)} {n : Nat} (hg : Gp xss) : ∀ k, k + 1 ≤ n → FS xss n (oF (fFar xss) n k)
  | 0, _ => fs_ini xss n
  | k + 1, h => by
    have s := fs_all (n := n) hg k (by omega)
    obtain ⟨a, b, x, e1, e2, e3, e4, e5, e6, e7⟩ := fs_find s hg (by rw [oF_length]; omega)
    have := fs_step s (by rw [oF_length]; omega) e2 e3 e4 e5 e6
    rw [oF, e2]
    exact this
theorem fj_all {xss : List (List Int)} {n : Nat} (hg : Gp xss) {k : Nat} (h : k + 1 < n) : FJ xss n k := by
  have s := fs_all (n := n) hg k (by omega)
  obtain ⟨a, b, x, e1, e2, e3, e4, e5, e6, e7⟩ := fs_find s hg (by rw [oF_length]; omega)
  have e : fj xss n k = (a, b, x) := e2
  rcases scAF_of (fFar xss (gI n (oF (fFar xss) n k))) n n (Nat.le_refl _) with q | ⟨_, _, q3, q4⟩
  · exfalso
    rw [e2] at q
    cases q
    omega
  · refine ⟨by rw [e]; exact e3, by rw [e]; exact e4, by rw [e]; exact e5, by rw [e]; exact e6, ?_, fun x y h1 h2 h3 h4 => ?_⟩
    · show (scAF (fFar xss (gI n (oF (fFar xss) n k))) n n).2.2 = _
      rw [q4]
      unfold fFar at q3 ⊢
      split
      · rfl
      · rename_i hc
        rw [if_neg hc] at q3
        cases q3
    · have := scAF_le (fFar xss (gI n (oF (fFar xss) n k))) n n (Nat.le_refl _) x y (by omega) h1 h2 (fFar_ok.2 ⟨h3, h4⟩)
      unfold fFar at this
      rw [if_pos ⟨h3, h4⟩] at this
      exact this
theorem fg_next {xss : List (List Int)} {n k : Nat} (j : FJ xss n k) : gI n (oF (fFar xss) n (k + 1)) = reL ((fj xss n k).2.1 : Int) ((fj xss n k).1 : Int) (gI n (oF (fFar xss) n k)) := by
  have e : oF (fFar xss) n (k + 1) = oF (fFar xss) n k ++ [fj xss n k] := rfl
  rw [e, gI_snoc]
  exact mgI_fixed j.fa j.fb
/-- Far joins rise. -/
theorem fj_rise {xss : List (List Int)} {n : Nat} (hg : Gp xss) (hn : xss.length = n) {k : Nat} (h : k + 1 + 1 < n) : (fj xss n k).2.2 ≤ (fj xss n (k + 1)).2.2 := by
  have j := fj_all hg (n := n) (k := k) (by omega)
  have j' := fj_all hg (n := n) (k := k + 1) h
  have hG := fg_next j
  have h1 := j'.lt
  have h2 := j'.ltn
  have hl : (gI n (oF (fFar xss) n k)).length = n := gI_length _ _
  have hfa := j'.fa
  have hfb := j'.fb
  have hh := j'.hgt
  rw [hG] at hfa hfb hh
  obtain ⟨x, hx⟩ : ∃ x, (fj xss n (k + 1)).1 = x := ⟨_, rfl⟩
  obtain ⟨y, hy⟩ : ∃ x, (fj xss n (k + 1)).2.1 = x := ⟨_, rfl⟩
  obtain ⟨a, ha⟩ : ∃ x, (fj xss n k).1 = x := ⟨_, rfl⟩
  obtain ⟨b, hb⟩ : ∃ x, (fj xss n k).2.1 = x := ⟨_, rfl⟩
  have hab := j.lt
  have hbn := j.ltn
  have ga := j.fa
  have gb := j.fb
  rw [hx, hy] at hh
  rw [hx] at hfa h1
  rw [hy] at hfb h1 h2
  rw [ha, hb] at hfa hfb hh
  rw [ha] at ga hab
  rw [hb] at gb hab hbn
  have fx : gi (gI n (oF (fFar xss) n k)) x = (x : Int) ∧ x ≠ b := by
    rw [gi_reL (by omega)] at hfa
    split at hfa
    · rename_i q
      have : x = a := by omega
      subst this
      rw [ga] at q
      omega
    · rename_i q
      exact ⟨hfa, fun e => q (by rw [e]; exact gb)⟩
  have fy : gi (gI n (oF (fFar xss) n k)) y = (y : Int) ∧ y ≠ b := by
    rw [gi_reL (by omega)] at hfb
    split at hfb
    · rename_i q
      have : y = a := by omega
      subst this
      rw [ga] at q
      omega
    · rename_i q
      exact ⟨hfb, fun e => q (by rw [e]; exact gb)⟩
  have low := j.low x y h1 h2 fx.1 fy.1
  have hm : fi xss (gI n (oF (fFar xss) n k)) x y xss.length xss.length ≤ (fj xss n (k + 1)).2.2 := by
    rw [hh]
    rcases fi_of' (xss := xss) (G := gI n (oF (fFar xss) n k)) (x := (x : Int)) (y := (y : Int)) (n := xss.length) xss.length with e | ⟨p, q, hp, hq, e1, e2, e⟩
    · rw [e]; exact (fi_ge _).1
    · rw [e]
      refine (fi_ge _).2 p q hp hq ?_ ?_
      · rw [gi_reL (by omega), if_neg (by rw [e1]; omega), e1]
      · rw [gi_reL (by omega), if_neg (by rw [e2]; omega), e2]
  omega
/-- Within a group of far joins all is as near as the last join. -/
theorem far_diam {xss : List (List Int)} {n : Nat} (hg : Gp xss) (hn : xss.length = n) : ∀ k, k + 1 < n → ∀ i j, i < n → j < n → gi (gI n (oF (fFar xss) n (k + 1))) i = gi (gI n (oF (fFar xss) n (k + 1))) j → gm xss i j ≤ (fj xss n k).2.2 := by
  have step : ∀ k, k + 1 < n → (∀ i j, i < n → j < n → gi (gI n (oF (fFar xss) n k)) i = gi (gI n (oF (fFar xss) n k)) j → gm xss i j ≤ (fj xss n k).2.2) →
      ∀ i j, i < n → j < n → gi (gI n (oF (fFar xss) n (k + 1))) i = gi (gI n (oF (fFar xss) n (k + 1))) j → gm xss i j ≤ (fj xss n k).2.2 := by
    intro k hk hold i j hi hj he
    have jj := fj_all hg (n := n) (k := k) hk
    have hl : (gI n (oF (fFar xss) n k)).length = n := gI_length _ _
    rw [fg_next jj, gi_reL (by omega), gi_reL (by omega)] at he
    have hh := jj.hgt
    have ge := (fi_ge (xss := xss) (G := gI n (oF (fFar xss) n k)) (x := ((fj xss n k).1 : Int)) (y := ((fj xss n k).2.1 : Int)) (n := xss.length) xss.length).2
    split at he
    · rename_i q1
      split at he
      · rename_i q2
        exact hold i j hi hj (by rw [q1, q2])
      · rw [gm_symm hg (by omega) (by omega), hh]
        exact ge j i (by omega) (by omega) he.symm q1
    · split at he
      · rename_i q2
        rw [hh]
        exact ge i j (by omega) (by omega) he q2
      · exact hold i j hi hj he
  intro k
  induction k with
  | zero =>
    intro hk
    refine step 0 hk fun i j hi hj he => ?_
    have e : gI n (oF (fFar xss) n 0) = ini n := rfl
    rw [e] at he
    have e1 : gi (ini n) i = (i : Int) := gi_tabI hi
    have e2 : gi (ini n) j = (j : Int) := gi_tabI hj
    have : i = j := by rw [e1, e2] at he; omega
    subst this
    rw [hg.diag i (by omega)]
    have jj := fj_all hg (n := n) (k := 0) hk
    rw [jj.hgt]
    exact (fi_ge _).1
  | succ k ih =>
    intro hk
    refine step (k + 1) hk fun i j hi hj he => ?_
    have := ih (by omega) i j hi hj he
    have := fj_rise hg hn hk
    omega
/-- No far join is nearer than the near one. -/
theorem far_near {xss : List (List Int)} {n : Nat} (hg : Gp xss) (hn : xss.length = n) {k : Nat} (hk : k + 1 < n) : (nj xss n k).2.2 ≤ (fj xss n k).2.2 := by
  apply Decidable.byContradiction
  intro hlt
  have s := ns_all hg hn k (by omega)
  have j := nj_all hg hn hk
  have fj' := fj_all hg (n := n) hk
  have f0 := fs_all (n := n) hg k (by omega)
  have f1 := fs_step f0 (by rw [oF_length]; omega) (show scAF (fFar xss (gI n (oF (fFar xss) n k))) n n = ((fj xss n k).1, (fj xss n k).2.1, (fj xss n k).2.2) from rfl) fj'.lt fj'.ltn fj'.fa fj'.fb
  have e : oF (fFar xss) n k ++ [((fj xss n k).1, (fj xss n k).2.1, (fj xss n k).2.2)] = oF (fFar xss) n (k + 1) := rfl
  rw [e] at f1
  have hc := fx_coarse f1.lab s.lab fun x y hx hy he => by
    apply Decidable.byContradiction
    intro hne
    have h1 := j.low x y hx hy hne
    have h2 := far_diam hg hn k hk x y hx hy he
    omega
  have c1 := f1.cnt
  have c2 := s.cnt
  rw [oF_length] at c1
  omega
/-- The last far join is the greatest distance. -/
theorem far_last {xss : List (List Int)} {n : Nat} (hg : Gp xss) (hn : xss.length = n) {k : Nat} (hk : k + 1 + 1 = n) : (∀ i j, i < n → j < n → gm xss i j ≤ (fj xss n k).2.2) ∧ ∃ i j, i < n ∧ j < n ∧ (fj xss n k).2.2 = gm xss i j := by
  have jj := fj_all hg (n := n) (k := k) (by omega)
  have h1 := jj.lt
  have h2 := jj.ltn
  constructor
  · intro i j hi hj
    refine far_diam hg hn k (by omega) i j hi hj ?_
    have f1 := fs_all (n := n) hg (k + 1) (by omega)
    have c := f1.cnt
    rw [oF_length] at c
    obtain ⟨ci, a1, a2, a3⟩ := f1.lab.at' i hi
    obtain ⟨cj, b1, b2, b3⟩ := f1.lab.at' j hj
    have one : fxN (gI n (oF (fFar xss) n (k + 1))) n = 1 := by omega
    rw [a2, b2]
    have key : ci = cj := by
      apply Decidable.byContradiction
      intro hne
      have h := cn_inj n (fun x => if x = 0 then ci else cj) (fun _ => true) 2 (fun i => gi (gI n (oF (fFar xss) n (k + 1))) i == (i : Int)) (fun x hx _ => by
        split
        · exact ⟨a1, by simp [a3]⟩
        · exact ⟨b1, by simp [b3]⟩) (fun x x' hx hx' _ _ he => by
        split at he <;> split at he <;> omega)
      rw [← fxN_cn, one] at h
      simp [cn] at h
    rw [key]
  · rcases fi_of (xss := xss) (G := gI n (oF (fFar xss) n k)) (x := ((fj xss n k).1 : Int)) (y := ((fj xss n k).2.1 : Int)) (n := xss.length) xss.length with e | ⟨p, q, hp, hq, e⟩
    · exfalso
      have ge := (fi_ge (xss := xss) (G := gI n (oF (fFar xss) n k)) (x := ((fj xss n k).1 : Int)) (y := ((fj xss n k).2.1 : Int)) (n := xss.length) xss.length).2 (fj xss n k).1 (fj xss n k).2.1 (by omega) (by omega) jj.fa jj.fb
      have := gm_range hg h1 (by omega)
      omega
    · exact ⟨p, q, by omega, by omega, by rw [jj.hgt]; exact e⟩

end Go.Proofs.Ytclfjnoedcimiaa
