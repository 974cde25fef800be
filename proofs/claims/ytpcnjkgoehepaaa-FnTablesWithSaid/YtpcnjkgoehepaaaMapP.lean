/- Plain facts: a map of numbers to counts as a function, and the sums of draws. No walk here. -/
import Derived.Test.YtpcnjkgoehepaaaDrawP
import Derived.Maps.Ext
namespace Go.Proofs.Ytpcnjkgoehepaaa
open Go.Maps (IsMap)

/-- The map reads as the function f, which is above 0 at its keys alone. -/
structure Rd (D : DataW Unit) (f : Int → Int) : Prop where
  isMap : IsMap D
  at0 : ∀ t : Int, D.atKey (.int .i64 t) (.lit (.int .i64 0)) = .lit (.int .i64 (f t))
  has : ∀ t : Int, Maps.has D (.int .i64 t) = decide (f t ≠ 0)
  nn : ∀ t, 0 ≤ f t
theorem Rd.ext {D : DataW Unit} {f g : Int → Int} (h : Rd D f) (e : ∀ t, f t = g t) : Rd D g := by
  have : f = g := funext e
  subst this
  exact h
theorem Rd.empty : Rd (.map []) (fun _ => 0) := ⟨Maps.isMap_empty, fun _ => rfl, fun _ => rfl, fun _ => Int.le_refl 0⟩
theorem Rd.put {D : DataW Unit} {f : Int → Int} (h : Rd D f) (u c : Int) (hc : 1 ≤ c) : Rd (D.put (.int .i64 u) (.lit (.int .i64 c))) (fun t => if t = u then c else f t) := by
  refine ⟨h.isMap.put _ _, fun t => ?_, fun t => ?_, fun t => ?_⟩
  · by_cases e : t = u
    · rw [e, Maps.atKey_put_same (k := .int .i64 u) h.isMap (show WideAt.IsKeyLit (.int .i64 u) from trivial), if_pos rfl]
    · rw [Maps.atKey_put_other (k := .int .i64 u) (k' := .int .i64 t) (show Lit.int .i64 t ≠ .int .i64 u from fun e' => e (by injection e')), if_neg e, h.at0]
  · by_cases e : t = u
    · rw [e, Maps.has_put_same (k := .int .i64 u) h.isMap (show WideAt.IsKeyLit (.int .i64 u) from trivial), if_pos rfl]
      exact (decide_eq_true (by omega)).symm
    · rw [Maps.has_put_other (k := .int .i64 u) (k' := .int .i64 t) (show Lit.int .i64 t ≠ .int .i64 u from fun e' => e (by injection e')), if_neg e, h.has]
  · show 0 ≤ if t = u then c else f t
    split
    · omega
    · exact h.nn t
theorem Rd.at_inj {D : DataW Unit} {f : Int → Int} (h : Rd D f) {t c : Int} (e : ∀ z, D.atKey (.int .i64 t) z = .lit (.int .i64 c)) : c = f t := by
  have := (e _).symm.trans (h.at0 t)
  injection this with this
  injection this

theorem sX_congr {g h : Nat → Int} : ∀ n, (∀ i, i < n → g i = h i) → sX g n = sX h n
  | 0, _ => rfl
  | n + 1, e => by rw [sX, sX, sX_congr n fun i hi => e i (by omega), e n (by omega)]
theorem sX_add (g h : Nat → Int) : ∀ n, sX (fun i => g i + h i) n = sX g n + sX h n
  | 0 => rfl
  | n + 1 => by rw [sX, sX, sX, sX_add g h n]; omega
theorem sX_le {g : Nat → Int} {M : Int} (hM : 0 ≤ M) : ∀ n : Nat, (∀ i, i < n → 0 ≤ g i ∧ g i ≤ M) → 0 ≤ sX g n ∧ sX g n ≤ n * M
  | 0, _ => by simp [sX]
  | n + 1, e => by
    have h1 := sX_le hM n fun i hi => e i (by omega)
    have h2 := e n (by omega)
    have : ((n + 1 : Nat) : Int) * M = n * M + M := by push_cast; rw [Int.add_mul, Int.one_mul]
    rw [sX, this]
    omega
theorem sX_zero {g : Nat → Int} : ∀ n : Nat, (∀ i, i < n → g i = 0) → sX g n = 0
  | 0, _ => rfl
  | n + 1, e => by rw [sX, sX_zero n fun i hi => e i (by omega), e n (by omega)]; rfl
theorem Ct_sum (x : Nat → Int) (n l : Nat) (t : Int) : Ct x n (l + 1) t = sX (fun i => Ct x n l (t - x i)) n := by
  rw [Ct]
  have : ∀ k, fld (fun i c => c + Ct x n l (t - x i)) k 0 = sX (fun i => Ct x n l (t - x i)) k := fun k => by
    induction k with
    | zero => rfl
    | succ k ih => rw [fld, sX, ih]
  exact this n
theorem Ct_bd (x : Nat → Int) (n : Nat) (hn : n ≤ 4) : ∀ (l : Nat) (t : Int), 0 ≤ Ct x n l t ∧ Ct x n l t ≤ 4 ^ l
  | 0, t => by rw [Ct]; split <;> simp
  | l + 1, t => by
    rw [Ct_sum]
    have h4 : (0 : Int) ≤ 4 ^ l := Int.pow_nonneg (by omega)
    have := sX_le (g := fun i => Ct x n l (t - x i)) h4 n fun i _ => Ct_bd x n hn l _
    have h5 : (n : Int) * 4 ^ l ≤ 4 * 4 ^ l := Int.mul_le_mul_of_nonneg_right (by omega) h4
    have h6 : (4 : Int) ^ (l + 1) = 4 * 4 ^ l := by rw [Int.pow_succ, Int.mul_comm]
    exact ⟨this.1, by rw [h6]; exact Int.le_trans this.2 h5⟩
theorem sX_ne {g : Nat → Int} : ∀ n : Nat, sX g n ≠ 0 → ∃ i, i < n ∧ g i ≠ 0
  | 0, h => absurd rfl h
  | n + 1, h => by
    by_cases e : g n = 0
    · obtain ⟨i, hi, h2⟩ := sX_ne n (fun e' => h (by rw [sX, e', e]; rfl))
      exact ⟨i, by omega, h2⟩
    · exact ⟨n, by omega, e⟩
theorem Ct_far (x : Nat → Int) (n : Nat) (hx : ∀ i, i < n → -200 ≤ x i ∧ x i ≤ 200) : ∀ (l : Nat) (t : Int), Ct x n l t ≠ 0 → -(200 * (l : Int)) ≤ t ∧ t ≤ 200 * (l : Int)
  | 0, t, h => by
    rw [Ct] at h
    split at h
    · omega
    · exact absurd rfl h
  | l + 1, t, h => by
    rw [Ct_sum] at h
    obtain ⟨i, hi, h2⟩ := sX_ne n h
    have h3 := Ct_far x n hx l _ h2
    have h4 := hx i hi
    push_cast
    omega

/-- What has come of f's keys. -/
def vis (f : Int → Int) (left : Lit → Bool) (t : Int) : Int := if left (.int .i64 t) = true then 0 else f t
def Gs (f : Int → Int) (x : Nat → Int) (n : Nat) (left : Lit → Bool) (t : Int) : Int := sX (fun i => vis f left (t - x i)) n
/-- What the numbers so far add for the sum s. -/
def Ad (x : Nat → Int) (s c : Int) (i : Nat) (t : Int) : Int := sX (fun i => if t - x i = s then c else 0) i
theorem Gs_start {D : DataW Unit} {f : Int → Int} (h : Rd D f) (x : Nat → Int) (n : Nat) (t : Int) : Gs f x n (Maps.has D) t = 0 := by
  refine sX_zero n fun i _ => ?_
  simp only [vis, h.has]
  by_cases e : f (t - x i) = 0
  · simp [e]
  · simp [e]
theorem Gs_end {f : Int → Int} {left : Lit → Bool} (hl : ∀ k, left k = false) (x : Nat → Int) (n : Nat) (t : Int) : Gs f x n left t = sX (fun i => f (t - x i)) n := sX_congr n fun i _ => by simp [vis, hl]
theorem Gs_step {f : Int → Int} {left : Lit → Bool} {s : Int} (hs : left (.int .i64 s) = true) (x : Nat → Int) (n : Nat) (t : Int) :
    Gs f x n (fun z => left z && !z.sameKey (.int .i64 s)) t = Gs f x n left t + Ad x s (f s) n t := by
  rw [Gs, Gs, Ad, ← sX_add]
  refine sX_congr n fun i _ => ?_
  simp only [vis]
  by_cases e : t - x i = s
  · have h1 : (Lit.int .i64 (t - x i)).sameKey (.int .i64 s) = true := by simp [Lit.sameKey, e]
    have h2 : left (.int .i64 (t - x i)) = true := by rw [e]; exact hs
    rw [if_pos e, if_neg (by simp [h1]), if_pos h2, e]
    omega
  · have : (Lit.int .i64 (t - x i)).sameKey (.int .i64 s) = false := by simp [Lit.sameKey, e]
    simp [this, e]
theorem Gs_bd {f : Int → Int} {M : Int} (hM : 0 ≤ M) (hf : ∀ t, 0 ≤ f t ∧ f t ≤ M) (x : Nat → Int) {n : Nat} (hn : n ≤ 4) (left : Lit → Bool) (t : Int) : 0 ≤ Gs f x n left t ∧ Gs f x n left t ≤ 4 * M := by
  have := sX_le (g := fun i => vis f left (t - x i)) hM n fun i _ => by
    have := hf (t - x i)
    simp only [vis]
    split <;> omega
  have h5 : (n : Int) * M ≤ 4 * M := Int.mul_le_mul_of_nonneg_right (by omega) hM
  rw [Gs]
  omega
theorem Ad_bd {c M : Int} (hc : 0 ≤ c ∧ c ≤ M) (x : Nat → Int) (s : Int) {i : Nat} (hi : i ≤ 4) (t : Int) : 0 ≤ Ad x s c i t ∧ Ad x s c i t ≤ 4 * M := by
  have hM : 0 ≤ M := by omega
  have := sX_le (g := fun i => if t - x i = s then c else 0) hM i fun i _ => by
    show 0 ≤ (if t - x i = s then c else 0) ∧ (if t - x i = s then c else 0) ≤ M
    split <;> omega
  have h5 : (i : Int) * M ≤ 4 * M := Int.mul_le_mul_of_nonneg_right (by omega) hM
  rw [Ad]
  omega
theorem Ad_step (x : Nat → Int) (s c : Int) (i : Nat) (t : Int) : Ad x s c (i + 1) t = Ad x s c i t + if t = s + x i then c else 0 := by
  rw [Ad, Ad, sX]
  by_cases e : t = s + x i
  · rw [if_pos e, if_pos (by omega)]
  · rw [if_neg e, if_neg (by omega)]
/-- One number more has been put into the map. -/
theorem Rd.more {D : DataW Unit} {f : Int → Int} {x : Nat → Int} {n : Nat} {left : Lit → Bool} {s c : Int} {i : Nat} (h : Rd D (fun t => Gs f x n left t + Ad x s c i t)) (hc : 1 ≤ c) :
    Rd (D.put (.int .i64 (s + x i)) (.lit (.int .i64 (Gs f x n left (s + x i) + Ad x s c i (s + x i) + c)))) (fun t => Gs f x n left t + Ad x s c (i + 1) t) := by
  have h0 : 0 ≤ Gs f x n left (s + x i) + Ad x s c i (s + x i) := h.nn (s + x i)
  refine (h.put _ _ (by omega)).ext fun t => ?_
  show (if t = s + x i then _ else _) = _
  rw [Ad_step]
  by_cases e : t = s + x i
  · rw [if_pos e, if_pos e, e]; omega
  · rw [if_neg e, if_neg e]; omega

end Go.Proofs.Ytpcnjkgoehepaaa
