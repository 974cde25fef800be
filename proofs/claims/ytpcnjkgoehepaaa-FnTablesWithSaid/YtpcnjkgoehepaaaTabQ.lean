/- Plain facts: sums over the rows that fit, in their order; bounds of the counts and of the ways. -/
import Derived.Test.YtpcnjkgoehepaaaTabE
import Derived.Test.YtpcnjkgoehepaaaTabP
namespace Go.Proofs.Ytpcnjkgoehepaaa

/-- What a row leaves of the columns. -/
def lf (cols w : List Nat) : List Nat := List.zipWith (· - ·) cols w
/-- The sum of f over a list of rows. -/
def pS (f : List Nat → Nat) : List (List Nat) → Nat
  | [] => 0
  | r :: R => f r + pS f R
theorem pS_append (f : List Nat → Nat) : ∀ A B, pS f (A ++ B) = pS f A + pS f B
  | [], B => by simp [pS]
  | r :: A, B => by rw [List.cons_append, pS, pS, pS_append f A B]; omega
theorem pS_map (f : List Nat → Nat) (v : Nat) : ∀ A : List (List Nat), pS f (A.map (v :: ·)) = pS (fun w => f (v :: w)) A
  | [] => rfl
  | r :: A => by rw [List.map_cons, pS, pS, pS_map f v A]
theorem pS_enF (F : List Nat → Nat) (g : Nat → List (List Nat)) : ∀ n, pS F (enF g n) = sN (fun v => pS (fun w => F (v :: w)) (g v)) n
  | 0 => rfl
  | n + 1 => by rw [enF, pS_append, pS_map, pS_enF F g n, sN]
theorem pS_congr {f g : List Nat → Nat} : ∀ A : List (List Nat), (∀ r, r ∈ A → f r = g r) → pS f A = pS g A
  | [], _ => rfl
  | r :: A, h => by rw [pS, pS, h r (by simp), pS_congr A fun r hr => h r (by simp [hr])]
theorem rS_en : ∀ (cols : List Nat) (t : Nat) (f : List Nat → List Nat → Nat), rS t cols f = pS (fun w => f w (lf cols w)) (en t cols)
  | [], t, f => by
    rw [rS, en]
    by_cases e : t = 0
    · rw [if_pos e, if_pos e]; rfl
    · rw [if_neg e, if_neg e]; rfl
  | c :: L, t, f => by
    rw [rS, en, pS_enF]
    refine sN_congr _ fun v _ => ?_
    rw [rS_en L (t - v)]
    rfl
theorem pS_take {f : List Nat → Nat} {R : List (List Nat)} {i : Nat} {r : List Nat} (h : R[i]? = some r) : pS f (R.take (i + 1)) = pS f (R.take i) + f r := by
  rw [List.take_add_one, h, pS_append]
  simp [pS]
theorem pS_take_le (f : List Nat → Nat) (R : List (List Nat)) (i : Nat) : pS f (R.take i) ≤ pS f R := by
  have := pS_append f (R.take i) (R.drop i)
  rw [List.take_append_drop] at this
  omega
theorem pS_at {f : List Nat → Nat} {R : List (List Nat)} {i : Nat} {r : List Nat} (h : R[i]? = some r) : pS f (R.take i) + f r ≤ pS f R := by
  rw [← pS_take h]
  exact pS_take_le f R (i + 1)
/-- What holds of the rows that fit. -/
theorem en_fit : ∀ (cols : List Nat) (t : Nat) (r : List Nat), r ∈ en t cols → sm r = t ∧ sm (lf cols r) + t = sm cols ∧ ∀ i, i < cols.length → r.getD i 0 ≤ cols.getD i 0
  | [], t, r, h => by
    rw [en] at h
    split at h
    · rename_i e
      simp at h
      subst h
      exact ⟨by rw [e]; rfl, by rw [e]; rfl, fun i hi => by simp at hi⟩
    · simp at h
  | c :: L, t, r, h => by
    rw [en] at h
    obtain ⟨v, hv, s, hs, e⟩ := enF_mem _ h
    subst e
    obtain ⟨h1, h2, h3⟩ := en_fit L _ s hs
    refine ⟨by rw [sm, h1]; omega, ?_, fun i hi => ?_⟩
    · have e : lf (c :: L) (v :: s) = (c - v) :: lf L s := rfl
      rw [e, sm, sm]
      omega
    · cases i with
      | zero => simp; omega
      | succ i =>
        have := h3 i (by simpa using hi)
        simpa using this
theorem lf_len {cols w : List Nat} (h : w.length = cols.length) : (lf cols w).length = cols.length := by simp [lf, h]
theorem lf_at {cols w : List Nat} (h : w.length = cols.length) {i : Nat} (hi : i < cols.length) : (lf cols w).getD i 0 = cols.getD i 0 - w.getD i 0 := by
  have h2 : i < w.length := by omega
  simp [lf, List.getElem?_zipWith, hi, h2]
theorem lf_le {b : Nat} : ∀ (cols w : List Nat), (∀ c ∈ cols, c ≤ b) → ∀ c ∈ lf cols w, c ≤ b
  | [], _, _ => by simp [lf]
  | _ :: _, [], _ => by simp [lf]
  | c :: L, v :: w, h => by
    intro x hx
    have e : lf (c :: L) (v :: w) = (c - v) :: lf L w := rfl
    rw [e] at hx
    rcases List.mem_cons.1 hx with rfl | hx
    · have := h c (by simp); omega
    · exact lf_le L w (fun x hx => h x (by simp [hx])) x hx
theorem here_le : ∀ (w : List Nat) (a : Nat), here a w ≤ a
  | [], a => Nat.le_refl _
  | v :: w, a => by rw [here]; exact Nat.le_trans (here_le w _) (Nat.div_le_self _ _)
theorem here_append (v : Nat) : ∀ (w : List Nat) (a : Nat), here a (w ++ [v]) = here a w / fct v
  | [], _ => rfl
  | u :: w, a => by rw [List.cons_append, here, here, here_append v w]
theorem here_take {w : List Nat} {a k : Nat} (h : k < w.length) : here a (w.take (k + 1)) = here a (w.take k) / fct (w.getD k 0) := by
  rw [List.take_add_one, List.getElem?_eq_getElem h, Option.toList_some, here_append]
  simp [h]
theorem pF_pos : ∀ L : List Nat, 1 ≤ pF L
  | [] => Nat.le_refl _
  | c :: L => by
    have := pF_pos L
    unfold pF at this ⊢
    rw [List.map_cons, List.foldr_cons]
    exact Nat.mul_pos (fct_pos c) this
theorem here_pos {w : List Nat} {r : Nat} (h : sm w = r) (hr : r ≤ 18) : 1 ≤ here (fct r) w := by
  have := (here_mul w 1 (by omega)).2 1
  rw [Nat.one_mul, h] at this
  have hp := fct_pos r
  rcases Nat.eq_zero_or_pos (here (fct r) w) with e | e
  · rw [e, Nat.zero_mul] at this; omega
  · exact e
theorem sN_mono {f g : Nat → Nat} : ∀ n, (∀ i, i < n → f i ≤ g i) → sN f n ≤ sN g n
  | 0, _ => Nat.le_refl _
  | n + 1, h => by
    rw [sN, sN]
    exact Nat.add_le_add (sN_mono n fun i hi => h i (by omega)) (h n (by omega))
theorem rS_mono {f g : List Nat → List Nat → Nat} : ∀ (L : List Nat) (t : Nat), (∀ w l, sm w = t → f w l ≤ g w l) → rS t L f ≤ rS t L g
  | [], t, h => by
    rw [rS, rS]
    by_cases e : t = 0
    · rw [if_pos e, if_pos e]
      exact h [] [] (by rw [e]; rfl)
    · rw [if_neg e, if_neg e]
      exact Nat.le_refl _
  | c :: L, t, h => by
    rw [rS, rS]
    refine sN_mono _ fun v hv => ?_
    refine rS_mono L (t - v) fun w l h3 => h _ _ ?_
    rw [sm, h3]; omega
theorem tN_le_wN : ∀ (rows cols : List Nat), (∀ r ∈ rows, r ≤ 18) → tN rows cols ≤ wN rows cols
  | [], cols, _ => Nat.le_refl _
  | r :: rows, cols, h => by
    rw [tN, wN]
    refine rS_mono _ _ fun w l hw => ?_
    have h1 := tN_le_wN rows l fun x hx => h x (by simp [hx])
    have h2 := here_pos hw (h r (by simp))
    calc tN rows l ≤ wN rows l := h1
      _ = 1 * wN rows l := (Nat.one_mul _).symm
      _ ≤ here (fct r) w * wN rows l := Nat.mul_le_mul_right _ h2
theorem wN_le {rows cols : List Nat} (hl : cols.length ≤ 3) (hc : ∀ c ∈ cols, c ≤ 6) (h : sm rows = sm cols) : wN rows cols ≤ fct (sm rows) := by
  have e := wN_all rows cols hl hc h
  rw [← e]
  exact Nat.le_mul_of_pos_right _ (pF_pos cols)
theorem tN_en (r : Nat) (rows cols : List Nat) : tN (r :: rows) cols = pS (fun w => tN rows (lf cols w)) (en r cols) := by rw [tN, rS_en]
theorem wN_en (r : Nat) (rows cols : List Nat) : wN (r :: rows) cols = pS (fun w => here (fct r) w * wN rows (lf cols w)) (en r cols) := by rw [wN, rS_en]

/-- A table's sums: so many rows and columns, small, with the same sum. -/
structure TOk (rows cols : List Nat) : Prop where
  nr : rows.length ≤ 3
  c1 : 1 ≤ cols.length
  nc : cols.length ≤ 3
  r6 : ∀ r ∈ rows, r ≤ 6
  c6 : ∀ c ∈ cols, c ≤ 6
  eq : sm rows = sm cols
theorem TOk.next {r : Nat} {rows cols row : List Nat} (h : TOk (r :: rows) cols) (hr : row ∈ en r cols) : TOk rows (lf cols row) := by
  obtain ⟨_, e2, _⟩ := en_fit cols r row hr
  have el := lf_len (en_len cols r row hr)
  have := h.nr
  have he := h.eq
  rw [sm] at he
  exact ⟨by simp at this; omega, by rw [el]; exact h.c1, by rw [el]; exact h.nc, fun x hx => h.r6 x (by simp [hx]), lf_le _ _ h.c6, by omega⟩
theorem TOk.w {rows cols : List Nat} (h : TOk rows cols) : wN rows cols ≤ 6402373705728000 := by
  have h1 := wN_le h.nc h.c6 h.eq
  have h2 : sm rows ≤ 18 := by rw [h.eq]; exact sm_le18 h.nc h.c6
  have h3 : ∀ n, n < 19 → fct n ≤ 6402373705728000 := by decide
  have := h3 _ (show sm rows < 19 by omega)
  omega
theorem TOk.t {rows cols : List Nat} (h : TOk rows cols) : tN rows cols ≤ 6402373705728000 :=
  Nat.le_trans (tN_le_wN rows cols fun r hr => by have := h.r6 r hr; omega) h.w
/-- Bounds at the i-th row. -/
theorem TOk.atT {r : Nat} {rows cols row : List Nat} {i : Nat} (h : TOk (r :: rows) cols) (hi : (en r cols)[i]? = some row) :
    pS (fun w => tN rows (lf cols w)) ((en r cols).take i) + tN rows (lf cols row) ≤ 6402373705728000 := by
  have h1 := pS_at (f := fun w => tN rows (lf cols w)) hi
  have h2 := h.t
  rw [tN_en] at h2
  exact Nat.le_trans h1 h2
theorem TOk.atW {r : Nat} {rows cols row : List Nat} {i : Nat} (h : TOk (r :: rows) cols) (hi : (en r cols)[i]? = some row) :
    pS (fun w => here (fct r) w * wN rows (lf cols w)) ((en r cols).take i) + here (fct r) row * wN rows (lf cols row) ≤ 6402373705728000 := by
  have h1 := pS_at (f := fun w => here (fct r) w * wN rows (lf cols w)) hi
  have h2 := h.w
  rw [wN_en] at h2
  exact Nat.le_trans h1 h2

theorem gi_iN (L : List Nat) (k : Nat) : gi (iN L) k = ((L.getD k 0 : Nat) : Int) := by
  unfold gi iN
  by_cases h : k < L.length
  · simp [h]
  · simp [h]

end Go.Proofs.Ytpcnjkgoehepaaa
