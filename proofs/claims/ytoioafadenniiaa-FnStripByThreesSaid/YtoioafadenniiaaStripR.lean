/- Plain facts: strips of points turned round, negated, and of fewer points. -/
import Derived.Test.YtoioafadenniiaaStripA
import Derived.Test.YtoioafadenniiaaSmall3
namespace Go.Proofs.Ytoioafadenniiaa
open Go.RowKit

theorem smH_map {ys ys' : List Int} {s : Nat → Nat} {i k : Nat} (hi : gi ys' i = gi ys (s i)) (hk : gi ys' k = gi ys (s k)) : smH ys' i k = smH ys (s i) (s k) := by
  unfold smH; rw [hi, hk]
theorem dvH_map {xs ys xs' ys' : List Int} {s : Nat → Nat} {i k j : Nat} (xi : gi xs' i = gi xs (s i)) (xk : gi xs' k = gi xs (s k)) (xj : gi xs' j = gi xs (s j)) (hi : gi ys' i = gi ys (s i)) (hk : gi ys' k = gi ys (s k)) (hj : gi ys' j = gi ys (s j)) :
    dvH xs' ys' i k j = dvH xs ys (s i) (s k) (s j) := by
  unfold dvH atR slR
  rw [xi, xk, xj, hi, hk, hj]
/-- Points that are among others. -/
theorem str_map {xs ys xs' ys' : List Int} (s : Nat → Nat) (hs : ∀ i, i < xs'.length → s i < xs.length ∧ gi xs' i = gi xs (s i) ∧ gi ys' i = gi ys (s i)) {q : Rat} (h : StR xs' ys' q) : StR xs ys q := by
  rcases h with rfl | ⟨i, k, hi, hk, he, rfl⟩ | ⟨i, k, j, hi, hk, hj, hne, hb, rfl⟩
  · exact .inl rfl
  · obtain ⟨a1, a2, a3⟩ := hs i hi
    obtain ⟨b1, b2, b3⟩ := hs k hk
    exact .inr (.inl ⟨s i, s k, a1, b1, by rw [← a2, ← b2]; exact he, smH_map a3 b3⟩)
  · obtain ⟨a1, a2, a3⟩ := hs i hi
    obtain ⟨b1, b2, b3⟩ := hs k hk
    obtain ⟨c1, c2, c3⟩ := hs j hj
    refine .inr (.inr ⟨s i, s k, s j, a1, b1, c1, by rw [← a2, ← b2]; exact hne, ?_, dvH_map a2 b2 c2 a3 b3 c3⟩)
    unfold Btw at *
    rw [← a2, ← b2, ← c2]
    exact hb
theorem szR_negq (q : Rat) : szR (-q) = szR q := by
  unfold szR
  split <;> split <;> grind
theorem qd_negn (a b : Int) : qd (-a) b = -qd a b := by unfold qd; rw [Rat.neg_divInt]
/-- The other signs. -/
theorem str_neg {xs ys ys' : List Int} (hs : ∀ i, i < xs.length → gi ys' i = -gi ys i) {q : Rat} (h : StR xs ys' q) : StR xs ys q := by
  rcases h with rfl | ⟨i, k, hi, hk, he, rfl⟩ | ⟨i, k, j, hi, hk, hj, hne, hb, rfl⟩
  · exact .inl rfl
  · refine .inr (.inl ⟨i, k, hi, hk, he, ?_⟩)
    unfold smH
    rw [hs i hi, hs k hk, show -gi ys i - -gi ys k = -(gi ys i - gi ys k) by omega, qd_negn, szR_negq]
  · refine .inr (.inr ⟨i, k, j, hi, hk, hj, hne, hb, ?_⟩)
    unfold dvH atR slR
    rw [hs i hi, hs k hk, hs j hj, show -gi ys i - -gi ys k = -(gi ys i - gi ys k) by omega, qd_negn, qd_negn, qd_negn]
    congr 1
    rw [← szR_negq]
    congr 1
    grind

def revT (xs : List Int) : List Int := tabI (fun j => gi xs (xs.length - 1 - j)) xs.length
def negT (xs : List Int) : List Int := tabI (fun j => - gi xs j) xs.length
theorem revT_length (xs : List Int) : (revT xs).length = xs.length := tabI_length _ _
theorem negT_length (xs : List Int) : (negT xs).length = xs.length := tabI_length _ _
theorem gi_revT {xs : List Int} {i : Nat} (h : i < xs.length) : gi (revT xs) i = gi xs (xs.length - 1 - i) := gi_tabI h
theorem gi_negT {xs : List Int} {i : Nat} (h : i < xs.length) : gi (negT xs) i = - gi xs i := gi_tabI h
theorem gi_takeI {xs : List Int} {n i : Nat} (h : i < n) (hn : n ≤ xs.length) : gi (xs.take n) i = gi xs i := by
  rw [gi_eq (by simp; omega), gi_eq (by omega), List.getElem_take]

structure Strips (xs ys : List Int) (m : Rat) : Prop where
  rev : clB (revT xs) (revT ys) = true ∧ Top (StR (revT xs) (revT ys)) m
  neg : clB xs (negT ys) = true ∧ Top (StR xs (negT ys)) m
  few : ∀ l, Top (StR (xs.take (xs.length - 1)) (ys.take (xs.length - 1))) l → l ≤ m
theorem strips_of {xs ys : List Int} {m : Rat} (hc : Cl xs ys) (h : Top (StR xs ys) m) : Strips xs ys m := by
  have hl := hc.pl.ne
  have n0 := hc.pl.n0
  have n7 := hc.pl.nm
  have hx := hc.pl.x
  have hy := hc.pl.y
  obtain ⟨k, hk, hne⟩ := wdB_iff.1 hc.wd
  have e1 : ∀ i, i < xs.length → gi (revT ys) i = gi ys (xs.length - 1 - i) := fun i hi => by rw [gi_revT (by omega), hl]
  refine ⟨⟨?_, ?_, ?_⟩, ⟨?_, ?_, ?_⟩, fun l hm => ?_⟩
  · unfold clB
    rw [Bool.and_eq_true]
    refine ⟨plB_of (m := 7) ⟨by rw [revT_length]; omega, by rw [revT_length]; omega, by rw [revT_length, revT_length, hl], fun i hi => ?_, fun i hi => ?_⟩, wdB_iff.2 ?_⟩
    · rw [revT_length] at hi
      rw [gi_revT hi]
      exact hx _ (by omega)
    · rw [revT_length] at hi
      rw [e1 i hi]
      exact hy _ (by omega)
    · rw [revT_length, gi_revT (by omega)]
      by_cases e : gi xs (xs.length - 1 - 0) = gi xs 0
      · exact ⟨xs.length - 1 - k, by omega, by rw [gi_revT (by omega), e, show xs.length - 1 - (xs.length - 1 - k) = k by omega]; exact hne⟩
      · exact ⟨xs.length - 1, by omega, by rw [gi_revT (by omega), show xs.length - 1 - (xs.length - 1) = 0 by omega]; exact fun h => e h.symm⟩
  · exact str_map (fun i => xs.length - 1 - i) (fun i hi => ⟨by rw [revT_length]; omega, by rw [gi_revT (by omega), show xs.length - 1 - (xs.length - 1 - i) = i by omega], by rw [e1 _ (by omega), show xs.length - 1 - (xs.length - 1 - i) = i by omega]⟩) h.1
  · intro q hq
    exact h.2 _ (str_map (fun i => xs.length - 1 - i) (fun i hi => by rw [revT_length] at hi; exact ⟨by omega, gi_revT hi, e1 i hi⟩) hq)
  · unfold clB
    rw [Bool.and_eq_true]
    refine ⟨plB_of (m := 7) ⟨n0, n7, by rw [negT_length, hl], hx, fun i hi => ?_⟩, hc.wd⟩
    rw [gi_negT (by omega)]
    have := hy i hi
    omega
  · exact str_neg (ys := negT ys) (ys' := ys) (fun i hi => by rw [gi_negT (by omega), Int.neg_neg]) h.1
  · intro q hq
    exact h.2 _ (str_neg (fun i hi => gi_negT (by omega)) hq)
  · exact h.2 _ (str_map (fun i => i) (fun i hi => by
      have hi' : i < xs.length - 1 := by simp at hi; omega
      exact ⟨by omega, gi_takeI hi' (by omega), gi_takeI hi' (by omega)⟩) hm.1)
theorem RowI.take {w : World} {b o : Nat} {xs : List Int} (h : RowI w b o xs) (n : Nat) : RowI w b o (xs.take n) :=
  ⟨h.blk, fun k hk => by
    have hk' : k < n ∧ k < xs.length := by simp at hk; omega
    rw [h.cell k hk'.2, gi_eq hk, gi_eq hk'.2, List.getElem_take]⟩
theorem turned_n (b o c n : Nat) (xs : List Int) (w : World) (h : RowI w b o xs) (hn : xs.length = n) (hl : n ≤ 1048576) (h1 : 1 ≤ n) :
    Calls Try.prog 24 #[.slice (some ⟨b, o, none⟩) n c] w fun e w' => ∃ g cap, e = .returned (.slice (some ⟨g, 0, none⟩) n cap) ∧ w.heap.size ≤ g ∧ RowI w' g 0 (revT xs) ∧ Below w.heap.size w w' := by
  subst hn
  refine (turned_any b o c xs w h hl).mono ?_
  rintro e w' ⟨v, rfl, ho, hb⟩
  obtain ⟨g, cap, rfl, hg⟩ := ho.shape (by omega)
  exact ⟨g, cap, rfl, hg, ho.row, hb⟩
theorem negated_n (b o c n : Nat) (xs : List Int) (w : World) (h : RowI w b o xs) (hn : xs.length = n) (hl : n ≤ 1048576) (h1 : 1 ≤ n) (hx : ∀ k, k < xs.length → -12 ≤ gi xs k ∧ gi xs k ≤ 12) :
    Calls Try.prog 35 #[.slice (some ⟨b, o, none⟩) n c] w fun e w' => ∃ g cap, e = .returned (.slice (some ⟨g, 0, none⟩) n cap) ∧ w.heap.size ≤ g ∧ RowI w' g 0 (negT xs) ∧ Below w.heap.size w w' := by
  subst hn
  refine (negated_any b o c xs w h hl (fun k hk => by have := hx k hk; omega)).mono ?_
  rintro e w' ⟨v, rfl, ho, hb⟩
  obtain ⟨g, cap, rfl, hg⟩ := ho.shape (by omega)
  exact ⟨g, cap, rfl, hg, ho.row, hb⟩

end Go.Proofs.Ytoioafadenniiaa
