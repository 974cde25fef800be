/- The reference's search for the least far join finds what the program's finds. No walk here. -/
import Derived.Test.YtclfjnoedcimiaaFarI
namespace Go.Proofs.Ytclfjnoedcimiaa
open Go.RowKit

def stS (F : Nat → Nat → Int × Bool) (s : Jn) (a b : Nat) : Jn := if (F a b).2 = true ∧ (s.2.2 < 0 ∨ (F a b).1 < s.2.2) then (a, b, (F a b).1) else s
def scRS (F : Nat → Nat → Int × Bool) (s : Jn) (a : Nat) : Nat → Jn
  | 0 => s
  | d + 1 => stS F (scRS F s a d) a (a + 1 + d)
def scAS (F : Nat → Nat → Int × Bool) (n : Nat) : Nat → Jn
  | 0 => (0, 0, -1)
  | a + 1 => scRS F (scAS F n a) a (n - 1 - a)
/-- Both searches behind the pairs of the set B. -/
def Bth (F : Nat → Nat → Int × Bool) (n : Nat) (B : Nat → Nat → Prop) (t s : Jn) : Prop :=
  (t = (0, 0, 41) ∧ s = (0, 0, -1) ∧ ∀ x y, B x y → (F x y).2 = false) ∨ (s = t ∧ 0 ≤ s.2.2 ∧ s.1 < s.2.1 ∧ s.2.1 < n ∧ (F s.1 s.2.1).2 = true ∧ s.2.2 = (F s.1 s.2.1).1)
theorem bth_step {F : Nat → Nat → Int × Bool} {n : Nat} {B B' : Nat → Nat → Prop} {t s : Jn} {a b : Nat} (h : Bth F n B t s) (hab : a < b) (hb : b < n) (hF : 0 ≤ (F a b).1 ∧ (F a b).1 < 41)
    (hB : ∀ x y, B' x y → B x y ∨ (x = a ∧ y = b)) : Bth F n B' (stF F t a b) (stS F s a b) := by
  unfold stF stS
  rcases h with ⟨rfl, rfl, h3⟩ | ⟨rfl, h2, h3, h4, h5, h6⟩
  · by_cases e : (F a b).2 = true
    · rw [if_pos ⟨e, by dsimp only; omega⟩, if_pos ⟨e, by dsimp only; omega⟩]
      exact .inr ⟨rfl, hF.1, hab, hb, e, rfl⟩
    · rw [if_neg fun h => e h.1, if_neg fun h => e h.1]
      refine .inl ⟨rfl, rfl, fun x y hxy => ?_⟩
      rcases hB x y hxy with q | ⟨rfl, rfl⟩
      · exact h3 x y q
      · simpa using e
  · by_cases e : (F a b).2 = true ∧ (F a b).1 < s.2.2
    · rw [if_pos e, if_pos ⟨e.1, .inr e.2⟩]
      exact .inr ⟨rfl, hF.1, hab, hb, e.1, rfl⟩
    · rw [if_neg e, if_neg fun h => e ⟨h.1, by rcases h.2 with q | q; (· omega); exact q⟩]
      exact .inr ⟨rfl, h2, h3, h4, h5, h6⟩
theorem bth_all {F : Nat → Nat → Int × Bool} {n : Nat} (hF : ∀ a b, a < b → b < n → 0 ≤ (F a b).1 ∧ (F a b).1 < 41) : ∀ a, a ≤ n → Bth F n (fun x y => x < a ∧ x < y ∧ y < n) (scAF F n a) (scAS F n a)
  | 0, _ => .inl ⟨rfl, rfl, fun x y h => absurd h.1 (Nat.not_lt_zero _)⟩
  | a + 1, h => by
    have key : ∀ d, a + 1 + d ≤ n → Bth F n (fun x y => (x < a ∧ x < y ∧ y < n) ∨ (x = a ∧ a < y ∧ y < a + 1 + d)) (scRF F (scAF F n a) a d) (scRS F (scAS F n a) a d) := by
      intro d
      induction d with
      | zero =>
        intro _
        rcases bth_all hF a (by omega) with ⟨h1, h2, h3⟩ | q
        · exact .inl ⟨h1, h2, fun x y hxy => by rcases hxy with q | q; (· exact h3 x y q); omega⟩
        · exact .inr q
      | succ d ih =>
        intro hd
        exact bth_step (ih (by omega)) (by omega) (by omega) (hF _ _ (by omega) (by omega)) fun x y hxy => by omega
    have := key (n - 1 - a) (by omega)
    rcases this with ⟨h1, h2, h3⟩ | q
    · exact .inl ⟨h1, h2, fun x y hxy => h3 x y (by omega)⟩
    · exact .inr q

theorem fx_one_of {G : List Int} : ∀ k, 1 ≤ fxN G k → ∃ a, a < k ∧ gi G a = (a : Int)
  | 0, h => absurd h (by simp [fxN])
  | k + 1, h => by
    by_cases e : gi G k = (k : Int)
    · exact ⟨k, by omega, e⟩
    · rw [fxN, if_neg e] at h
      obtain ⟨a, h1, h2⟩ := fx_one_of k h
      exact ⟨a, by omega, h2⟩
theorem fx_two_of {G : List Int} : ∀ k, 2 ≤ fxN G k → ∃ a b, a < b ∧ b < k ∧ gi G a = (a : Int) ∧ gi G b = (b : Int)
  | 0, h => absurd h (by simp [fxN])
  | k + 1, h => by
    by_cases e : gi G k = (k : Int)
    · rw [fxN, if_pos e] at h
      obtain ⟨a, h1, h2⟩ := fx_one_of (G := G) k (by omega)
      exact ⟨a, k, h1, by omega, h2, e⟩
    · rw [fxN, if_neg e] at h
      obtain ⟨a, b, h1, h2, h3, h4⟩ := fx_two_of k h
      exact ⟨a, b, h1, by omega, h3, h4⟩

theorem gm_small {xss : List (List Int)} (h : Gp xss) {a b : Nat} (ha : a < xss.length) (hb : b < xss.length) : gm xss a b ≤ 40 := by
  rcases Nat.lt_trichotomy a b with h1 | h1 | h1
  · have := h.low b a hb h1; omega
  · rw [h1, h.diag b hb]; omega
  · have := (h.low a b ha h1).1; omega
theorem fk_range {xss : List (List Int)} (h : Gp xss) (G : List Int) (x y : Int) {i : Nat} (hi : i < xss.length) {m : Int} (hm : 0 ≤ m ∧ m ≤ 40) : ∀ k, k ≤ xss.length → 0 ≤ fk xss G x y i m k ∧ fk xss G x y i m k ≤ 40
  | 0, _ => hm
  | k + 1, hk => by
    have := fk_range h G x y hi hm k (by omega)
    have h2 := gm_small h hi (show k < xss.length by omega)
    rw [fk]
    split <;> omega
theorem fi_range {xss : List (List Int)} (h : Gp xss) (G : List Int) (x y : Int) : ∀ i, i ≤ xss.length → 0 ≤ fi xss G x y xss.length i ∧ fi xss G x y xss.length i ≤ 40
  | 0, _ => ⟨Int.le_refl _, by show (0 : Int) ≤ 40; omega⟩
  | i + 1, hi => fk_range h G x y (by omega) (fi_range h G x y i (by omega)) _ (Nat.le_refl _)
theorem fFar_range {xss : List (List Int)} (h : Gp xss) (G : List Int) (a b : Nat) : 0 ≤ (fFar xss G a b).1 ∧ (fFar xss G a b).1 < 41 := by
  unfold fFar
  split
  · have := fi_range h G a b _ (Nat.le_refl _); dsimp only; omega
  · dsimp only; omega
theorem fFar_ok {xss : List (List Int)} {G : List Int} {a b : Nat} : (fFar xss G a b).2 = true ↔ gi G a = (a : Int) ∧ gi G b = (b : Int) := by
  unfold fFar
  split
  · rename_i h; exact ⟨fun _ => h, fun _ => rfl⟩
  · rename_i h; exact ⟨fun e => absurd e (by simp), fun e => absurd e h⟩

/-- The state of the reference. -/
structure FS (xss : List (List Int)) (n : Nat) (O : List Jn) : Prop where
  eq : O = oF (fFar xss) n O.length
  lab : Lab n (gI n O)
  cnt : fxN (gI n O) n + O.length = n
  short : O.length ≤ n - 1
theorem fs_ini (xss : List (List Int)) (n : Nat) : FS xss n [] := by
  refine ⟨rfl, lab_ini n, ?_, Nat.zero_le _⟩
  show fxN (ini n) n + 0 = n
  rw [fx_ini n n (Nat.le_refl _)]
  rfl
/-- What both searches find. -/
theorem fs_find {xss : List (List Int)} {n : Nat} {O : List Jn} (s : FS xss n O) (h : Gp xss) (hl : O.length + 1 < n) :
    ∃ (a b : Nat) (x : Int), scAS (fFar xss (gI n O)) n n = (a, b, x) ∧ scAF (fFar xss (gI n O)) n n = (a, b, x) ∧ a < b ∧ b < n ∧ gi (gI n O) a = (a : Int) ∧ gi (gI n O) b = (b : Int) ∧ 0 ≤ x := by
  rcases bth_all (F := fFar xss (gI n O)) (n := n) (fun a b _ _ => fFar_range h _ a b) n (Nat.le_refl _) with ⟨h1, h2, h3⟩ | ⟨h1, h2, h3, h4, h5, h6⟩
  · exfalso
    obtain ⟨a, b, e1, e2, e3, e4⟩ := fx_two_of (G := gI n O) n (by have := s.cnt; omega)
    have := h3 a b ⟨by omega, e1, e2⟩
    rw [fFar_ok.2 ⟨e3, e4⟩] at this
    cases this
  · refine ⟨_, _, _, rfl, h1.symm, h3, h4, (fFar_ok.1 h5).1, (fFar_ok.1 h5).2, h2⟩
theorem mgI_fixed {G : List Int} {a b : Nat} (ha : gi G a = (a : Int)) (hb : gi G b = (b : Int)) : mgI G a b = reL (b : Int) (a : Int) G := by
  unfold mgI; rw [ha, hb]
theorem mgS_fixed {G : List Int} {a b : Nat} (hab : a < b) (ha : gi G a = (a : Int)) (hb : gi G b = (b : Int)) : mgS G a b = mgI G a b := by
  rw [mgI_fixed ha hb]
  unfold mgS
  rw [ha, hb, show max (a : Int) (b : Int) = b by omega, show min (a : Int) (b : Int) = a by omega]
theorem fs_step {xss : List (List Int)} {n a b : Nat} {x : Int} {O : List Jn} (s : FS xss n O) (hl : O.length + 1 < n) (hf : scAF (fFar xss (gI n O)) n n = (a, b, x)) (hab : a < b) (hb : b < n)
    (ga : gi (gI n O) a = (a : Int)) (gb : gi (gI n O) b = (b : Int)) : FS xss n (O ++ [(a, b, x)]) := by
  have hlen : (O ++ [(a, b, x)]).length = O.length + 1 := by simp
  have e := mgS_fixed hab ga gb
  have hne : gi (gI n O) a ≠ gi (gI n O) b := by rw [ga, gb]; omega
  refine ⟨?_, ?_, ?_, by omega⟩
  · rw [hlen, oF, ← s.eq, hf]
  · rw [gI_snoc]; dsimp only; rw [← e]; exact lab_mg s.lab (by omega) hb
  · rw [gI_snoc, hlen]
    dsimp only
    rw [← e]
    have := fx_mg s.lab (show a < n by omega) hb hne
    have := s.cnt
    omega
theorem fs_end {xss : List (List Int)} {n : Nat} {O : List Jn} (s : FS xss n O) (hl : ¬ O.length + 1 < n) : O = oF (fFar xss) n (n - 1) := by
  have h2 := s.short
  rw [s.eq, show O.length = n - 1 by omega]

end Go.Proofs.Ytclfjnoedcimiaa
