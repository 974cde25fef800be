/- Plain facts: what a piece misses, and bounds of sums of pieces. No program here. -/
import Derived.Test.YtfbccnameppikaaPartsP
import Derived.Test.YtfbccnameppikaaSm
import Derived.Test.YtfbccnameppikaaBase
namespace Go.Proofs.Ytfbccnameppikaa

/-- The sum of squares, and the sum, of d numbers from i on. -/
def sqN (xs : List Int) (i : Nat) : Nat → Int
  | 0 => 0
  | d + 1 => sqN xs i d + gi xs (i + d) * gi xs (i + d)
def suN (xs : List Int) (i : Nat) : Nat → Int
  | 0 => 0
  | d + 1 => suN xs i d + gi xs (i + d)
def misQ (l : List Int) : Rat := qd (sqN l 0 l.length * (l.length : Int) - suN l 0 l.length * suN l 0 l.length) l.length

theorem gi_pc {xs : List Int} {i k j : Nat} (h : i + j < k) : gi (pc xs i k) j = gi xs (i + j) := by
  unfold gi pc
  simp [List.getElem?_drop, h]
theorem sqN_pc {xs : List Int} {i k : Nat} : ∀ d, i + d ≤ k → sqN (pc xs i k) 0 d = sqN xs i d
  | 0, _ => rfl
  | d + 1, h => by rw [sqN, sqN, sqN_pc d (by omega), Nat.zero_add, gi_pc (by omega)]
theorem suN_pc {xs : List Int} {i k : Nat} : ∀ d, i + d ≤ k → suN (pc xs i k) 0 d = suN xs i d
  | 0, _ => rfl
  | d + 1, h => by rw [suN, suN, suN_pc d (by omega), Nat.zero_add, gi_pc (by omega)]
theorem misQ_pc {xs : List Int} {i k : Nat} (h : i ≤ k) (hk : k ≤ xs.length) : misQ (pc xs i k) = qd (sqN xs i (k - i) * ((k - i : Nat) : Int) - suN xs i (k - i) * suN xs i (k - i)) ((k - i : Nat) : Int) := by
  unfold misQ
  rw [pc_length hk, sqN_pc _ (by omega), suN_pc _ (by omega)]

def sqL : List Int → Int
  | [] => 0
  | x :: l => x * x + sqL l
def suL : List Int → Int
  | [] => 0
  | x :: l => x + suL l
theorem sqL_append (l : List Int) (x : Int) : sqL (l ++ [x]) = sqL l + x * x := by
  induction l with
  | nil => simp [sqL]
  | cons y l ih => simp only [List.cons_append, sqL, ih]; omega
theorem suL_append (l : List Int) (x : Int) : suL (l ++ [x]) = suL l + x := by
  induction l with
  | nil => simp [suL]
  | cons y l ih => simp only [List.cons_append, suL, ih]; omega
theorem sqN_take (l : List Int) : ∀ d, d ≤ l.length → sqN l 0 d = sqL (l.take d)
  | 0, _ => rfl
  | d + 1, h => by rw [sqN, sqN_take l d (by omega), List.take_succ_eq_append_getElem (by omega), sqL_append, Nat.zero_add, gi_eq (by omega)]
theorem suN_take (l : List Int) : ∀ d, d ≤ l.length → suN l 0 d = suL (l.take d)
  | 0, _ => rfl
  | d + 1, h => by rw [suN, suN_take l d (by omega), List.take_succ_eq_append_getElem (by omega), suL_append, Nat.zero_add, gi_eq (by omega)]
theorem misQ_eq (l : List Int) : misQ l = qd (sqL l * (l.length : Int) - suL l * suL l) l.length := by
  unfold misQ
  rw [sqN_take l _ (Nat.le_refl _), suN_take l _ (Nat.le_refl _), List.take_length]
theorem sqL_rev (l : List Int) : sqL l.reverse = sqL l := by
  induction l with
  | nil => rfl
  | cons x l ih => rw [List.reverse_cons, sqL_append, ih, sqL]; omega
theorem suL_rev (l : List Int) : suL l.reverse = suL l := by
  induction l with
  | nil => rfl
  | cons x l ih => rw [List.reverse_cons, suL_append, ih, suL]; omega
theorem sqL_neg (l : List Int) : sqL (ngL l) = sqL l := by
  induction l with
  | nil => rfl
  | cons x l ih => show -x * -x + sqL (ngL l) = x * x + sqL l; rw [ih, Int.neg_mul_neg]
theorem suL_neg (l : List Int) : suL (ngL l) = - suL l := by
  induction l with
  | nil => rfl
  | cons x l ih => show -x + suL (ngL l) = -(x + suL l); rw [ih]; omega
theorem ngL_length (l : List Int) : (ngL l).length = l.length := by unfold ngL; simp
theorem misQ_rev (l : List Int) : misQ l.reverse = misQ l := by rw [misQ_eq, misQ_eq, sqL_rev, suL_rev, List.length_reverse]
theorem misQ_neg (l : List Int) : misQ (ngL l) = misQ l := by rw [misQ_eq, misQ_eq, sqL_neg, suL_neg, ngL_length, Int.neg_mul_neg]
theorem misQ_one (x : Int) : misQ [x] = 0 := by
  rw [misQ_eq]
  simp only [sqL, suL, List.length_cons, List.length_nil, Int.add_zero]
  rw [show x * x * ((0 + 1 : Nat) : Int) - x * x = 0 by grind]
  unfold qd
  simp

theorem sq_apart (x : Int) (l : List Int) : 0 ≤ (l.length : Int) * (x * x) - 2 * x * suL l + sqL l := by
  induction l with
  | nil => simp [sqL, suL]
  | cons y l ih =>
    have : 0 ≤ (x - y) * (x - y) := by
      rcases Int.le_total 0 (x - y) with h | h
      · exact Int.mul_nonneg h h
      · exact Int.mul_nonneg_of_nonpos_of_nonpos h h
    simp only [List.length_cons, sqL, suL]
    grind
theorem sq_big (l : List Int) : 0 ≤ sqL l * (l.length : Int) - suL l * suL l := by
  induction l with
  | nil => simp [sqL, suL]
  | cons x l ih =>
    have := sq_apart x l
    simp only [List.length_cons, sqL, suL]
    grind
theorem sqL_le (l : List Int) (h : ∀ x, x ∈ l → -30 ≤ x ∧ x ≤ 30) : sqL l ≤ 900 * (l.length : Int) := by
  induction l with
  | nil => simp [sqL]
  | cons x l ih =>
    have ih := ih fun y hy => h y (List.mem_cons_of_mem _ hy)
    have hx := h x (List.mem_cons_self ..)
    have : x * x ≤ 30 * 30 := by
      have : 0 ≤ (30 - x) * (30 + x) := Int.mul_nonneg (by omega) (by omega)
      grind
    simp only [List.length_cons, sqL]
    omega
theorem sq_pos (l : List Int) : 0 ≤ suL l * suL l := by
  rcases Int.le_total 0 (suL l) with h | h
  · exact Int.mul_nonneg h h
  · exact Int.mul_nonneg_of_nonpos_of_nonpos h h

/-- A number of 840th parts, not below 0, up to B. -/
def Pq (B : Int) (q : Rat) : Prop := ∃ k : Int, 0 ≤ k ∧ k ≤ B ∧ q = qd k 840
theorem Pq.zero : Pq 0 0 := ⟨0, Int.le_refl _, Int.le_refl _, by unfold qd; simp⟩
theorem Pq.add {A B : Int} {p q : Rat} (h : Pq A p) (g : Pq B q) : Pq (A + B) (p + q) := by
  obtain ⟨k, h1, h2, rfl⟩ := h
  obtain ⟨l, g1, g2, rfl⟩ := g
  exact ⟨k + l, by omega, by omega, by rw [qd_add _ _ _ _ (by omega) (by omega), qd_eq (by omega) (by omega)]; grind⟩
theorem Pq.mono {A B : Int} {p : Rat} (h : Pq A p) (hab : A ≤ B) : Pq B p := by
  obtain ⟨k, h1, h2, h3⟩ := h
  exact ⟨k, h1, by omega, h3⟩
theorem Pq.sm {A : Int} {p : Rat} (h : Pq A p) : Sm A 840 p := by
  obtain ⟨k, h1, h2, rfl⟩ := h
  exact sm_qd (by omega) (by omega) (by omega) (by omega)
theorem Pq.nonneg {A : Int} {p : Rat} (h : Pq A p) : 0 ≤ p := by
  obtain ⟨k, h1, h2, rfl⟩ := h
  unfold qd
  exact Rat.divInt_nonneg h1 (by omega)

def In30 (l : List Int) : Prop := ∀ x, x ∈ l → -30 ≤ x ∧ x ≤ 30
/-- What a piece costs is small. -/
def GoodC (c : List Int → Rat) : Prop := ∀ l, l ≠ [] → l.length ≤ 8 → In30 l → Pq (756000 * (l.length : Int)) (c l)
theorem misQ_good : GoodC misQ := by
  intro l h1 h2 h3
  have h0 := List.length_pos_iff.2 h1
  have a := sq_big l
  have b := sqL_le l h3
  have s := sq_pos l
  rw [misQ_eq]
  have hN : sqL l * (l.length : Int) - suL l * suL l ≤ 900 * (l.length : Int) * (l.length : Int) := by
    have := Int.mul_le_mul_of_nonneg_right b (show (0 : Int) ≤ l.length by omega)
    omega
  generalize sqL l * (l.length : Int) - suL l * suL l = N at *
  generalize hn : l.length = n at *
  have key : ∀ m : Int, (n : Int) * m = 840 → 0 ≤ m → N * m ≤ 756000 * (n : Int) → Pq (756000 * (n : Int)) (qd N n) := fun m hm h0' hle =>
    ⟨N * m, Int.mul_nonneg a h0', hle, by rw [qd_eq (by omega) (by omega), ← hm]; grind⟩
  have : n = 1 ∨ n = 2 ∨ n = 3 ∨ n = 4 ∨ n = 5 ∨ n = 6 ∨ n = 7 ∨ n = 8 := by omega
  rcases this with rfl | rfl | rfl | rfl | rfl | rfl | rfl | rfl
  · exact key 840 rfl (by omega) (by omega)
  · exact key 420 rfl (by omega) (by omega)
  · exact key 280 rfl (by omega) (by omega)
  · exact key 210 rfl (by omega) (by omega)
  · exact key 168 rfl (by omega) (by omega)
  · exact key 140 rfl (by omega) (by omega)
  · exact key 120 rfl (by omega) (by omega)
  · exact key 105 rfl (by omega) (by omega)
theorem cSum_pq {c : List Int → Rat} (hc : GoodC c) : ∀ L : List (List Int), (∀ p, p ∈ L → p ≠ []) → In30 L.flatten → L.flatten.length ≤ 8 → Pq (756000 * (L.flatten.length : Int)) (cSum c L)
  | [], _, _, _ => Pq.zero
  | p :: L, h1, h2, h3 => by
    have hl : (p :: L).flatten.length = p.length + L.flatten.length := by simp
    have g1 := cSum_pq hc L (fun q hq => h1 q (List.mem_cons_of_mem _ hq)) (fun x hx => h2 x (by simp only [List.flatten_cons, List.mem_append]; exact .inr hx)) (by omega)
    have g2 := hc p (h1 p (List.mem_cons_self ..)) (by omega) (fun x hx => h2 x (by simp only [List.flatten_cons, List.mem_append]; exact .inl hx))
    exact (g2.add g1).mono (by rw [hl]; omega)
theorem IsCut.pq {c : List Int → Rat} (hc : GoodC c) {xs : List Int} {L : List (List Int)} (h : IsCut xs L) (h8 : xs.length ≤ 8) (h30 : In30 xs) : Pq 6048000 (cSum c L) := by
  have := cSum_pq hc L h.ne (by rw [h.join]; exact h30) (by rw [h.join]; exact h8)
  rw [h.join] at this
  exact this.mono (by omega)
theorem Least.pq {c : List Int → Rat} (hc : GoodC c) {xs : List Int} {P : Nat → Prop} {r : Rat} (h : Least c xs P r) (h8 : xs.length ≤ 8) (h30 : In30 xs) : Pq 6048000 r := by
  obtain ⟨L, h1, h2, rfl⟩ := h.got
  exact h1.pq hc h8 h30
theorem In30.take {xs : List Int} (h : In30 xs) (n : Nat) : In30 (xs.take n) := fun x hx => h x (List.mem_of_mem_take hx)
theorem In30.drop {xs : List Int} (h : In30 xs) (n : Nat) : In30 (xs.drop n) := fun x hx => h x (List.mem_of_mem_drop hx)
theorem In30.pc {xs : List Int} (h : In30 xs) (a e : Nat) : In30 (pc xs a e) := (h.take e).drop a
theorem In30.at {xs : List Int} (h : In30 xs) {k : Nat} (hk : k < xs.length) : -30 ≤ gi xs k ∧ gi xs k ≤ 30 := by rw [gi_eq hk]; exact h _ (List.getElem_mem hk)
/-- The first j pieces. -/
theorem cSum_take {c : List Int → Rat} (hc : GoodC c) {xs : List Int} {L : List (List Int)} (h : IsCut xs L) (h8 : xs.length ≤ 8) (h30 : In30 xs) (j : Nat) : Pq 6048000 (cSum c (L.take j)) := by
  have e : (L.take j).flatten ++ (L.drop j).flatten = xs := by rw [← List.flatten_append, List.take_append_drop, h.join]
  have h2 : (L.take j).flatten.length ≤ xs.length := by rw [← e]; simp
  refine (cSum_pq hc _ (fun p hp => h.ne p (List.mem_of_mem_take hp)) (fun x hx => h30 x ?_) (by omega)).mono (by omega)
  rw [← e]
  exact List.mem_append_left _ hx
theorem suN_bd {xs : List Int} (h : In30 xs) (i : Nat) : ∀ d, i + d ≤ xs.length → -(30 * (d : Int)) ≤ suN xs i d ∧ suN xs i d ≤ 30 * (d : Int)
  | 0, _ => by simp [suN]
  | d + 1, hd => by
    have ih := suN_bd h i d (by omega)
    have := h.at (k := i + d) (by omega)
    simp only [suN]
    omega
theorem mul30 {x : Int} (h : -30 ≤ x ∧ x ≤ 30) : 0 ≤ x * x ∧ x * x ≤ 900 := by
  have h1 : 0 ≤ (30 - x) * (30 + x) := Int.mul_nonneg (by omega) (by omega)
  have h2 : 0 ≤ x * x := by
    rcases Int.le_total 0 x with h | h
    · exact Int.mul_nonneg h h
    · exact Int.mul_nonneg_of_nonpos_of_nonpos h h
  exact ⟨h2, by grind⟩
theorem sqN_bd {xs : List Int} (h : In30 xs) (i : Nat) : ∀ d, i + d ≤ xs.length → 0 ≤ sqN xs i d ∧ sqN xs i d ≤ 900 * (d : Int)
  | 0, _ => by simp [sqN]
  | d + 1, hd => by
    have ih := sqN_bd h i d (by omega)
    have := mul30 (h.at (k := i + d) (by omega))
    simp only [sqN]
    omega
theorem mul_small {x : Int} (M : Int) (h : -M ≤ x ∧ x ≤ M) : 0 ≤ x * x ∧ x * x ≤ M * M := by
  have h1 : 0 ≤ (M - x) * (M + x) := Int.mul_nonneg (by omega) (by omega)
  have h2 : 0 ≤ x * x := by
    rcases Int.le_total 0 x with h | h
    · exact Int.mul_nonneg h h
    · exact Int.mul_nonneg_of_nonpos_of_nonpos h h
  exact ⟨h2, by grind⟩

end Go.Proofs.Ytfbccnameppikaa
