/- Joins: the program takes at each step the nearest pair of two groups; the reference runs through the heights; both take the same pairs. No walk here. -/
import Derived.Test.YtclfjnoedcimiaaTab
namespace Go.Proofs.Ytclfjnoedcimiaa
open Go.RowKit

theorem gi_map {f : Int → Int} {G : List Int} {k : Nat} (h : k < G.length) : gi (G.map f) k = f (gi G k) := by
  rw [gi_eq (by rw [List.length_map]; exact h), gi_eq h]
  simp
/-- All of the label f get the label t. -/
def reL (f t : Int) (G : List Int) : List Int := G.map fun x => if x = f then t else x
theorem reL_length (f t : Int) (G : List Int) : (reL f t G).length = G.length := List.length_map _
theorem gi_reL {f t : Int} {G : List Int} {k : Nat} (h : k < G.length) : gi (reL f t G) k = if gi G k = f then t else gi G k := gi_map h
def mgI (G : List Int) (a b : Nat) : List Int := reL (gi G b) (gi G a) G
def mgS (G : List Int) (a b : Nat) : List Int := reL (max (gi G a) (gi G b)) (min (gi G a) (gi G b)) G
theorem mgI_length (G : List Int) (a b : Nat) : (mgI G a b).length = G.length := reL_length _ _ _
theorem mgS_length (G : List Int) (a b : Nat) : (mgS G a b).length = G.length := reL_length _ _ _
/-- Who has the same label behind a join. -/
def JoinR (G : List Int) (a b i j : Nat) : Prop := gi G i = gi G j ∨ ((gi G i = gi G a ∨ gi G i = gi G b) ∧ (gi G j = gi G a ∨ gi G j = gi G b))
theorem mgI_same {G : List Int} {a b i j : Nat} (hi : i < G.length) (hj : j < G.length) : gi (mgI G a b) i = gi (mgI G a b) j ↔ JoinR G a b i j := by
  unfold mgI JoinR
  rw [gi_reL hi, gi_reL hj]
  split <;> split <;> omega
theorem mgS_same {G : List Int} {a b i j : Nat} (hi : i < G.length) (hj : j < G.length) : gi (mgS G a b) i = gi (mgS G a b) j ↔ JoinR G a b i j := by
  unfold mgS JoinR
  rw [gi_reL hi, gi_reL hj]
  split <;> split <;> omega

abbrev Jn := Nat × Nat × Int
def gIf (G : List Int) (O : List Jn) : List Int := O.foldl (fun G e => mgI G e.1 e.2.1) G
def gSf (G : List Int) (O : List Jn) : List Int := O.foldl (fun G e => mgS G e.1 e.2.1) G
def ini (n : Nat) : List Int := tabI (fun i => (i : Int)) n
def gI (n : Nat) (O : List Jn) : List Int := gIf (ini n) O
def gS (n : Nat) (O : List Jn) : List Int := gSf (ini n) O
theorem gIf_length (O : List Jn) : ∀ G : List Int, (gIf G O).length = G.length := by
  induction O with
  | nil => intro G; rfl
  | cons e O ih => intro G; exact (ih _).trans (mgI_length _ _ _)
theorem gSf_length (O : List Jn) : ∀ G : List Int, (gSf G O).length = G.length := by
  induction O with
  | nil => intro G; rfl
  | cons e O ih => intro G; exact (ih _).trans (mgS_length _ _ _)
theorem gI_length (n : Nat) (O : List Jn) : (gI n O).length = n := (gIf_length O _).trans (tabI_length _ _)
theorem gS_length (n : Nat) (O : List Jn) : (gS n O).length = n := (gSf_length O _).trans (tabI_length _ _)
theorem gI_snoc (n : Nat) (O : List Jn) (e : Jn) : gI n (O ++ [e]) = mgI (gI n O) e.1 e.2.1 := by simp [gI, gIf]
theorem gS_snoc (n : Nat) (O : List Jn) (e : Jn) : gS n (O ++ [e]) = mgS (gS n O) e.1 e.2.1 := by simp [gS, gSf]
theorem gf_same {n : Nat} (O : List Jn) : ∀ G G' : List Int, G.length = n → G'.length = n → (∀ e ∈ O, e.1 < n ∧ e.2.1 < n) → (∀ i j, i < n → j < n → (gi G i = gi G j ↔ gi G' i = gi G' j)) →
    ∀ i j, i < n → j < n → (gi (gIf G O) i = gi (gIf G O) j ↔ gi (gSf G' O) i = gi (gSf G' O) j) := by
  induction O with
  | nil => intro G G' _ _ _ h; exact h
  | cons e O ih =>
    intro G G' hl hl' he h
    have h0 := he e (by simp)
    refine ih (mgI G e.1 e.2.1) (mgS G' e.1 e.2.1) (by rw [mgI_length, hl]) (by rw [mgS_length, hl']) (fun x hx => he x (by simp [hx])) fun i j hi hj => ?_
    rw [mgI_same (by omega) (by omega), mgS_same (by omega) (by omega)]
    unfold JoinR
    rw [h i j hi hj, h i e.1 hi h0.1, h i e.2.1 hi h0.2, h j e.1 hj h0.1, h j e.2.1 hj h0.2]
/-- Both give the same label to the same pairs. -/
theorem g_same {n : Nat} {O : List Jn} (he : ∀ e ∈ O, e.1 < n ∧ e.2.1 < n) {i j : Nat} (hi : i < n) (hj : j < n) : gi (gI n O) i = gi (gI n O) j ↔ gi (gS n O) i = gi (gS n O) j :=
  gf_same O _ _ (tabI_length _ _) (tabI_length _ _) he (fun _ _ _ _ => Iff.rfl) i j hi hj

/-- The program's search for the nearest pair. -/
def stJ (gm : Nat → Nat → Int) (G : List Int) (s : Jn) (a b : Nat) : Jn := if gi G a ≠ gi G b ∧ gm a b < s.2.2 then (a, b, gm a b) else s
def scR (gm : Nat → Nat → Int) (G : List Int) (s : Jn) (a : Nat) : Nat → Jn
  | 0 => s
  | d + 1 => stJ gm G (scR gm G s a d) a (a + 1 + d)
def scA (gm : Nat → Nat → Int) (G : List Int) (n : Nat) : Nat → Jn
  | 0 => (0, 0, 41)
  | a + 1 => scR gm G (scA gm G n a) a (n - 1 - a)
theorem stJ_gt {gm : Nat → Nat → Int} {G : List Int} {s : Jn} {a b : Nat} {h : Int} (hs : h < s.2.2) (hg : gi G a ≠ gi G b → h < gm a b) : h < (stJ gm G s a b).2.2 := by
  unfold stJ
  split
  · rename_i c; exact hg c.1
  · exact hs
theorem stJ_keep {gm : Nat → Nat → Int} {G : List Int} {s : Jn} {a b : Nat} (hg : gi G a ≠ gi G b → s.2.2 ≤ gm a b) : stJ gm G s a b = s := by
  unfold stJ
  refine if_neg fun c => ?_
  have := hg c.1
  omega
theorem scR_gt {gm : Nat → Nat → Int} {G : List Int} {s : Jn} {a : Nat} {h : Int} (hs : h < s.2.2) : ∀ d, (∀ b, a < b → b < a + 1 + d → gi G a ≠ gi G b → h < gm a b) → h < (scR gm G s a d).2.2
  | 0, _ => hs
  | d + 1, hg => stJ_gt (scR_gt hs d fun b h1 h2 => hg b h1 (by omega)) (hg (a + 1 + d) (by omega) (by omega))
theorem scR_keep {gm : Nat → Nat → Int} {G : List Int} {s : Jn} {a : Nat} : ∀ d, (∀ b, a < b → b < a + 1 + d → gi G a ≠ gi G b → s.2.2 ≤ gm a b) → scR gm G s a d = s
  | 0, _ => rfl
  | d + 1, hg => by
    rw [scR, scR_keep d fun b h1 h2 => hg b h1 (by omega)]
    exact stJ_keep (hg (a + 1 + d) (by omega) (by omega))
/-- A pair that is nearest, and first among the nearest, is what the search finds. -/
theorem scan_is {gm : Nat → Nat → Int} {G : List Int} {n a0 b0 : Nat} {h : Int} (hab : a0 < b0) (hb : b0 < n) (hne : gi G a0 ≠ gi G b0) (hgm : gm a0 b0 = h) (h41 : h < 41)
    (hlow : ∀ a b, a < b → b < n → gi G a ≠ gi G b → h ≤ gm a b) (hfirst : ∀ a b, a < b → b < n → gi G a ≠ gi G b → gm a b = h → a0 < a ∨ (a0 = a ∧ b0 ≤ b)) : scA gm G n n = (a0, b0, h) := by
  have h1 : ∀ a, a ≤ a0 → h < (scA gm G n a).2.2 := by
    intro a
    induction a with
    | zero => intro _; exact h41
    | succ a ih =>
      intro ha
      refine scR_gt (ih (by omega)) _ fun b hb1 hb2 hn => ?_
      have e1 := hlow a b hb1 (by omega) hn
      rcases Int.lt_or_eq_of_le e1 with e | e
      · exact e
      · have := hfirst a b hb1 (by omega) hn e.symm; omega
  have h2 : h < (scR gm G (scA gm G n a0) a0 (b0 - a0 - 1)).2.2 := by
    refine scR_gt (h1 a0 (Nat.le_refl _)) _ fun b hb1 hb2 hn => ?_
    have e1 := hlow a0 b hb1 (by omega) hn
    rcases Int.lt_or_eq_of_le e1 with e | e
    · exact e
    · have := hfirst a0 b hb1 (by omega) hn e.symm; omega
  have h3 : scR gm G (scA gm G n a0) a0 (b0 - a0 - 1 + 1) = (a0, b0, h) := by
    rw [scR]
    have e : a0 + 1 + (b0 - a0 - 1) = b0 := by omega
    rw [e]
    unfold stJ
    rw [if_pos ⟨hne, by rw [hgm]; exact h2⟩, hgm]
  have h4 : ∀ d, scR gm G (scA gm G n a0) a0 (b0 - a0 - 1 + 1 + d) = (a0, b0, h) ∨ ¬ a0 + 1 + (b0 - a0 - 1 + 1 + d) ≤ n := by
    intro d
    induction d with
    | zero => exact .inl h3
    | succ d ih =>
      rcases ih with ih | ih
      · by_cases hd : a0 + 1 + (b0 - a0 - 1 + 1 + (d + 1)) ≤ n
        · refine .inl ?_
          rw [← Nat.add_assoc, scR, ih]
          exact stJ_keep fun hn => hlow _ _ (by omega) (by omega) hn
        · exact .inr hd
      · exact .inr (by omega)
  have h5 : scA gm G n (a0 + 1) = (a0, b0, h) := by
    rw [scA]
    rcases h4 (n - 1 - b0) with e | e
    · rwa [show b0 - a0 - 1 + 1 + (n - 1 - b0) = n - 1 - a0 by omega] at e
    · omega
  have h6 : ∀ d, a0 + 1 + d ≤ n → scA gm G n (a0 + 1 + d) = (a0, b0, h) := by
    intro d
    induction d with
    | zero => intro _; exact h5
    | succ d ih =>
      intro hd
      rw [← Nat.add_assoc, scA, ih (by omega)]
      exact scR_keep _ fun b h1 h2 hn => hlow _ _ h1 (by omega) hn
  have := h6 (n - a0 - 1) (by omega)
  rwa [show a0 + 1 + (n - a0 - 1) = n by omega] at this

/-- The labels of the reference: each is the index of one that bears it. -/
structure Lab (n : Nat) (G : List Int) : Prop where
  len : G.length = n
  at' : ∀ i, i < n → ∃ c : Nat, c < n ∧ gi G i = (c : Int) ∧ gi G c = (c : Int)
theorem lab_ini (n : Nat) : Lab n (ini n) := ⟨tabI_length _ _, fun i hi => ⟨i, hi, gi_tabI hi, gi_tabI hi⟩⟩
theorem lab_mg {n : Nat} {G : List Int} (h : Lab n G) {a b : Nat} (ha : a < n) (hb : b < n) : Lab n (mgS G a b) := by
  refine ⟨by rw [mgS_length, h.len], fun i hi => ?_⟩
  obtain ⟨ca, ha1, ha2, ha3⟩ := h.at' a ha
  obtain ⟨cb, hb1, hb2, hb3⟩ := h.at' b hb
  obtain ⟨ci, hi1, hi2, hi3⟩ := h.at' i hi
  have hl := h.len
  unfold mgS
  rw [gi_reL (by omega), ha2, hb2, hi2]
  by_cases e : (ci : Int) = max (ca : Int) (cb : Int)
  · rw [if_pos e]
    rcases Nat.lt_or_ge ca cb with hc | hc
    · exact ⟨ca, ha1, by omega, by rw [gi_reL (by omega), ha3]; split <;> omega⟩
    · exact ⟨cb, hb1, by omega, by rw [gi_reL (by omega), hb3]; split <;> omega⟩
  · rw [if_neg e]
    exact ⟨ci, hi1, rfl, by rw [gi_reL (by omega), hi3, if_neg e]⟩
/-- How many of the first k bear their own index. -/
def fxN (G : List Int) : Nat → Nat
  | 0 => 0
  | k + 1 => fxN G k + if gi G k = (k : Int) then 1 else 0
theorem fx_ini (n : Nat) : ∀ k, k ≤ n → fxN (ini n) k = k
  | 0, _ => rfl
  | k + 1, h => by
    rw [fxN, fx_ini n k (by omega), if_pos]
    exact gi_tabI (by omega)
theorem fx_mg {n : Nat} {G : List Int} (h : Lab n G) {a b : Nat} (ha : a < n) (hb : b < n) (hne : gi G a ≠ gi G b) : fxN (mgS G a b) n + 1 = fxN G n := by
  obtain ⟨ca, ha1, ha2, ha3⟩ := h.at' a ha
  obtain ⟨cb, hb1, hb2, hb3⟩ := h.at' b hb
  have hl := h.len
  obtain ⟨y, hy, hyn, hyf⟩ : ∃ y : Nat, (y : Int) = max (ca : Int) (cb : Int) ∧ y < n ∧ gi G y = (y : Int) := by
    rcases Nat.lt_or_ge ca cb with hc | hc
    · exact ⟨cb, by omega, hb1, hb3⟩
    · exact ⟨ca, by omega, ha1, ha3⟩
  have hcab : ca ≠ cb := fun e => hne (by rw [ha2, hb2, e])
  have key : ∀ k, k ≤ n → fxN (mgS G a b) k + (if y < k then 1 else 0) = fxN G k := by
    intro k
    induction k with
    | zero => intro _; rfl
    | succ k ih =>
      intro hk
      have ih := ih (by omega)
      rw [fxN, fxN]
      have e : gi (mgS G a b) k = if gi G k = (y : Int) then min (ca : Int) (cb : Int) else gi G k := by
        unfold mgS
        rw [gi_reL (by omega), ha2, hb2, ← hy]
      rw [e]
      by_cases hky : k = y
      · subst hky
        rw [if_pos hyf, if_neg (by omega), if_pos hyf]
        rw [if_neg (by omega)] at ih
        rw [if_pos (by omega)]
        omega
      · by_cases hgy : gi G k = (y : Int)
        · rw [if_pos hgy, if_neg (show ¬ gi G k = (k : Int) by omega)]
          by_cases hm : min (ca : Int) (cb : Int) = (k : Int)
          · exfalso
            rcases Nat.lt_or_ge ca cb with hc | hc
            · have : k = ca := by omega
              subst this; omega
            · have : k = cb := by omega
              subst this; omega
          · rw [if_neg hm]
            by_cases hyk : y < k
            · rw [if_pos hyk] at ih; rw [if_pos (by omega)]; omega
            · rw [if_neg hyk] at ih; rw [if_neg (by omega)]; omega
        · rw [if_neg hgy]
          by_cases hyk : y < k
          · rw [if_pos hyk] at ih; rw [if_pos (show y < k + 1 by omega)]; omega
          · rw [if_neg hyk] at ih; rw [if_neg (show ¬ y < k + 1 by omega)]; omega
  have := key n (Nat.le_refl _)
  rw [if_pos hyn] at this
  exact this
/-- All of one group: one bears its own index. -/
theorem fx_one {n : Nat} {G : List Int} (h : Lab n G) (hn : 1 ≤ n) (hall : ∀ i j, i < n → j < n → gi G i = gi G j) : fxN G n = 1 := by
  obtain ⟨c, hc1, hc2, hc3⟩ := h.at' 0 (by omega)
  have key : ∀ k, k ≤ n → fxN G k = if c < k then 1 else 0 := by
    intro k
    induction k with
    | zero => intro _; rfl
    | succ k ih =>
      intro hk
      have e := hall k 0 (by omega) (by omega)
      rw [fxN, ih (by omega), e, hc2]
      by_cases hkc : c = k
      · subst hkc; rw [if_neg (by omega), if_pos rfl, if_pos (by omega)]
      · by_cases h1 : c < k
        · rw [if_pos h1, if_neg (by omega), if_pos (by omega)]
        · rw [if_neg h1, if_neg (by omega), if_neg (by omega)]
  rw [key n (Nat.le_refl _), if_pos hc1]

end Go.Proofs.Ytclfjnoedcimiaa
