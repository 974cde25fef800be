/- The reference's run through the heights takes the same joins as the program's search. No walk here. -/
import Derived.Test.YtclfjnoedcimiaaNearI
namespace Go.Proofs.Ytclfjnoedcimiaa
open Go.RowKit

theorem stF_near (xss : List (List Int)) (G : List Int) (s : Jn) (a b : Nat) : stF (fNear xss G) s a b = stJ (gm xss) G s a b := by
  unfold stF stJ fNear
  simp only [bne_iff_ne]
theorem scRF_near (xss : List (List Int)) (G : List Int) (s : Jn) (a : Nat) : ∀ d, scRF (fNear xss G) s a d = scR (gm xss) G s a d
  | 0 => rfl
  | d + 1 => by rw [scRF, scR, scRF_near xss G s a d, stF_near]
theorem scAF_near (xss : List (List Int)) (G : List Int) (n : Nat) : ∀ a, scAF (fNear xss G) n a = scA (gm xss) G n a
  | 0 => rfl
  | a + 1 => by rw [scAF, scA, scAF_near xss G n a, scRF_near]

/-- The state of the reference: the joins so far are the program's; all pairs behind the runner bear the same label. -/
structure JS (xss : List (List Int)) (n : Nat) (O : List Jn) (h : Int) (a b : Nat) : Prop where
  eq : O = oF (fNear xss) n O.length
  inb : ∀ e ∈ O, e.1 < n ∧ e.2.1 < n
  lab : Lab n (gS n O)
  cnt : fxN (gS n O) n + O.length = n
  pas : ∀ x y, x < y → y < n → gi (gS n O) x ≠ gi (gS n O) y → h ≤ gm xss x y ∧ (gm xss x y = h → a < x ∨ (a = x ∧ b ≤ y))
theorem gm_range {xss : List (List Int)} (h : Gp xss) {a b : Nat} (hab : a < b) (hb : b < xss.length) : 1 ≤ gm xss a b ∧ gm xss a b ≤ 40 := by
  have := h.low b a hb hab
  omega
theorem js_ini {xss : List (List Int)} {n : Nat} (h : Gp xss) (hn : xss.length = n) : JS xss n [] 1 0 1 := by
  refine ⟨rfl, fun e he => absurd he (by simp), lab_ini n, ?_, fun x y hxy hy _ => ⟨(gm_range h hxy (by omega)).1, fun _ => by omega⟩⟩
  show fxN (ini n) n + 0 = n
  rw [fx_ini n n (Nat.le_refl _)]
  rfl
theorem js_row {xss : List (List Int)} {n : Nat} {O : List Jn} {h : Int} {a b : Nat} (s : JS xss n O h a b) (hb : n ≤ b) : JS xss n O h (a + 1) (a + 2) :=
  ⟨s.eq, s.inb, s.lab, s.cnt, fun x y h1 h2 h3 => ⟨(s.pas x y h1 h2 h3).1, fun e => by have := (s.pas x y h1 h2 h3).2 e; omega⟩⟩
theorem js_height {xss : List (List Int)} {n : Nat} {O : List Jn} {h : Int} {a b : Nat} (s : JS xss n O h a b) (ha : n ≤ a) : JS xss n O (h + 1) 0 1 :=
  ⟨s.eq, s.inb, s.lab, s.cnt, fun x y h1 h2 h3 => ⟨by
    have e1 := (s.pas x y h1 h2 h3).1
    have e2 := (s.pas x y h1 h2 h3).2
    rcases Int.lt_or_eq_of_le e1 with e | e
    · omega
    · have := e2 e.symm; omega, fun _ => by omega⟩⟩
theorem js_skip {xss : List (List Int)} {n : Nat} {O : List Jn} {h : Int} {a b : Nat} (s : JS xss n O h a b) (hab : gm xss a b ≠ h ∨ gi (gS n O) a = gi (gS n O) b) : JS xss n O h a (b + 1) :=
  ⟨s.eq, s.inb, s.lab, s.cnt, fun x y h1 h2 h3 => ⟨(s.pas x y h1 h2 h3).1, fun e => by
    rcases (s.pas x y h1 h2 h3).2 e with q | ⟨q1, q2⟩
    · exact .inl q
    · refine .inr ⟨q1, ?_⟩
      rcases Nat.lt_or_eq_of_le q2 with r | r
      · exact r
      · exfalso
        subst q1 r
        rcases hab with hab | hab
        · exact hab e
        · exact h3 hab⟩⟩
theorem js_join {xss : List (List Int)} {n : Nat} {O : List Jn} {h : Int} {a b : Nat} (s : JS xss n O h a b) (hab : a < b) (hb : b < n) (h41 : h < 41) (e : gm xss a b = h) (hne : gi (gS n O) a ≠ gi (gS n O) b) :
    JS xss n (O ++ [(a, b, h)]) h a (b + 1) := by
  have hsame := fun {i j : Nat} (hi : i < n) (hj : j < n) => g_same (n := n) (O := O) s.inb hi hj
  have hsc : scAF (fNear xss (gI n O)) n n = (a, b, h) := by
    rw [scAF_near]
    refine scan_is hab hb (fun q => hne ((hsame (by omega) hb).1 q)) e h41 (fun x y h1 h2 h3 => ?_) (fun x y h1 h2 h3 h4 => ?_)
    · exact (s.pas x y h1 h2 fun q => h3 ((hsame (by omega) h2).2 q)).1
    · exact (s.pas x y h1 h2 fun q => h3 ((hsame (by omega) h2).2 q)).2 h4
  have hl : (O ++ [(a, b, h)]).length = O.length + 1 := by simp
  have han : a < n := by omega
  refine ⟨?_, fun q hq => ?_, ?_, ?_, fun x y h1 h2 h3 => ?_⟩
  · rw [hl, oF, ← s.eq, hsc]
  · rcases List.mem_append.1 hq with hq | hq
    · exact s.inb q hq
    · simp at hq; subst hq; exact ⟨han, hb⟩
  · rw [gS_snoc]; exact lab_mg s.lab han hb
  · rw [gS_snoc, hl]
    have := fx_mg s.lab han hb hne
    have := s.cnt
    dsimp only
    omega
  · rw [gS_snoc] at h3
    have hnl := s.lab.len
    have h4 : gi (gS n O) x ≠ gi (gS n O) y := fun q => h3 ((mgS_same (by omega) (by omega)).2 (.inl q))
    refine ⟨(s.pas x y h1 h2 h4).1, fun q => ?_⟩
    rcases (s.pas x y h1 h2 h4).2 q with r | ⟨r1, r2⟩
    · exact .inl r
    · refine .inr ⟨r1, ?_⟩
      rcases Nat.lt_or_eq_of_le r2 with r | r
      · exact r
      · exfalso
        subst r1 r
        exact h3 ((mgS_same (by omega) (by omega)).2 (.inr ⟨.inl rfl, .inr rfl⟩))
theorem js_end {xss : List (List Int)} {n : Nat} {O : List Jn} {a b : Nat} (s : JS xss n O 41 a b) (hg : Gp xss) (hn : xss.length = n) : O = oF (fNear xss) n (n - 1) := by
  have hall : ∀ i j, i < j → j < n → gi (gS n O) i = gi (gS n O) j := fun i j h1 h2 => by
    apply Decidable.byContradiction
    intro h3
    have := (s.pas i j h1 h2 h3).1
    have := gm_range hg h1 (by omega)
    omega
  have h1 : fxN (gS n O) n = 1 := fx_one s.lab (by have := hg.n0; omega) fun i j hi hj => by
    rcases Nat.lt_trichotomy i j with q | q | q
    · exact hall i j q hj
    · rw [q]
    · exact (hall j i q hi).symm
  have h2 := s.cnt
  rw [s.eq, show O.length = n - 1 by omega]
theorem js_short {xss : List (List Int)} {n : Nat} {O : List Jn} {h : Int} {a b : Nat} (s : JS xss n O h a b) : O.length ≤ n := by
  have := s.cnt
  omega
theorem mgS_is {G : List Int} {a b : Nat} {x y : Int} (hx : (if gi G b < gi G a then gi G b else gi G a) = x) (hy : (if gi G a < gi G b then gi G b else gi G a) = y) : mgS G a b = reL y x G := by
  unfold mgS
  have e1 : max (gi G a) (gi G b) = y := by rw [← hy]; split <;> omega
  have e2 : min (gi G a) (gi G b) = x := by rw [← hx]; split <;> omega
  rw [e1, e2]

end Go.Proofs.Ytclfjnoedcimiaa
