/- Plain facts: tables with given sums, their number and their ways. No walk here. -/
import Derived.Test.YtpcnjkgoehepaaaList
import Derived.Test.YtpcnjkgoehepaaaTab
namespace Go.Proofs.Ytpcnjkgoehepaaa

/-- The sum of the first n values. -/
def sN (g : Nat → Nat) : Nat → Nat
  | 0 => 0
  | n + 1 => sN g n + g n
theorem sN_congr {f g : Nat → Nat} : ∀ n, (∀ i, i < n → f i = g i) → sN f n = sN g n
  | 0, _ => rfl
  | n + 1, h => by rw [sN, sN, sN_congr n fun i hi => h i (by omega), h n (by omega)]
theorem sN_mul (a : Nat) (g : Nat → Nat) : ∀ n, sN (fun i => a * g i) n = a * sN g n
  | 0 => rfl
  | n + 1 => by rw [sN, sN, sN_mul a g n, Nat.mul_add]
theorem sN_le {g : Nat → Nat} {i : Nat} : ∀ n, i < n → g i ≤ sN g n
  | 0, h => by omega
  | n + 1, h => by
    rw [sN]
    by_cases e : i = n
    · subst e; omega
    · have := sN_le (g := g) n (show i < n by omega); omega
def sm : List Nat → Nat
  | [] => 0
  | c :: L => c + sm L
/-- The sum of f over all rows w with sum t within the columns: f of the row and of what the columns have left. -/
def rS (t : Nat) : List Nat → (List Nat → List Nat → Nat) → Nat
  | [], f => if t = 0 then f [] [] else 0
  | c :: L, f => sN (fun v => rS (t - v) L fun w l => f (v :: w) ((c - v) :: l)) (min t c + 1)
theorem rS_congr {f g : List Nat → List Nat → Nat} : ∀ (L : List Nat) (t : Nat), (∀ w l, w.length = L.length → l.length = L.length → sm w = t → sm l + t = sm L → f w l = g w l) → rS t L f = rS t L g
  | [], t, h => by
    rw [rS, rS]
    by_cases e : t = 0
    · rw [if_pos e, if_pos e, h [] [] rfl rfl (by rw [e]; rfl) (by rw [e]; rfl)]
    · rw [if_neg e, if_neg e]
  | c :: L, t, h => by
    rw [rS, rS]
    refine sN_congr _ fun v hv => ?_
    refine rS_congr L (t - v) fun w l h1 h2 h3 h4 => h _ _ (by simp [h1]) (by simp [h2]) ?_ ?_
    · rw [sm, h3]; omega
    · rw [sm, sm]; omega
theorem rS_mul (a : Nat) {f : List Nat → List Nat → Nat} : ∀ (L : List Nat) (t : Nat), rS t L (fun w l => a * f w l) = a * rS t L f
  | [], t => by
    rw [rS, rS]; split
    · rfl
    · rfl
  | c :: L, t => by
    rw [rS, rS, ← sN_mul]
    refine sN_congr _ fun v _ => ?_
    exact rS_mul a L (t - v)
theorem rS_zero : ∀ (L : List Nat) (t : Nat), rS t L (fun _ _ => 0) = 0
  | [], t => by rw [rS]; split <;> rfl
  | c :: L, t => by
    rw [rS, sN_congr (g := fun _ => 0) _ fun v _ => rS_zero L (t - v)]
    generalize min t c + 1 = n
    induction n with
    | zero => rfl
    | succ n ih => rw [sN, ih]
theorem rS_add (f g : List Nat → List Nat → Nat) : ∀ (L : List Nat) (t : Nat), rS t L (fun w l => f w l + g w l) = rS t L f + rS t L g
  | [], t => by
    rw [rS, rS, rS]; split
    · rfl
    · rfl
  | c :: L, t => by
    rw [rS, rS, rS, sN_congr (g := fun v => rS (t - v) L (fun w l => f (v :: w) ((c - v) :: l)) + rS (t - v) L (fun w l => g (v :: w) ((c - v) :: l))) _ fun v _ => rS_add _ _ L (t - v)]
    generalize min t c + 1 = n
    induction n with
    | zero => rfl
    | succ n ih => rw [sN, sN, sN, ih]; omega
theorem rS_sum (F : Nat → List Nat → List Nat → Nat) (L : List Nat) (t : Nat) : ∀ n, rS t L (fun w l => sN (fun v => F v w l) n) = sN (fun v => rS t L (F v)) n
  | 0 => rS_zero L t
  | n + 1 => by
    have := rS_add (fun w l => sN (fun v => F v w l) n) (F n) L t
    rw [sN, ← rS_sum F L t n]
    exact this
/-- Two such sums in either order. -/
theorem rS_swap (F : List Nat → List Nat → Nat) : ∀ (L : List Nat) (t : Nat) (M : List Nat) (u : Nat), rS t L (fun _ a => rS u M fun _ b => F a b) = rS u M (fun _ b => rS t L fun _ a => F a b)
  | [], t, M, u => by
    by_cases e : t = 0
    · simp only [rS, if_pos e]
    · simp only [rS, if_neg e]
      exact (rS_zero M u).symm
  | c :: L, t, M, u => by
    have h1 : rS t (c :: L) (fun _ a => rS u M fun _ b => F a b) = sN (fun v => rS (t - v) L fun _ l => rS u M fun _ b => F ((c - v) :: l) b) (min t c + 1) := rfl
    have h2 : (fun _ b => rS t (c :: L) fun _ a => F a b) = fun (_ b : List Nat) => sN (fun v => rS (t - v) L fun _ l => F ((c - v) :: l) b) (min t c + 1) := rfl
    rw [h1, h2, rS_sum (fun v _ b => rS (t - v) L fun _ l => F ((c - v) :: l) b) M u]
    exact sN_congr _ fun v _ => rS_swap (fun l b => F ((c - v) :: l) b) L (t - v) M u
/-- How many tables. -/
def tN : List Nat → List Nat → Nat
  | [], cols => if sm cols = 0 then 1 else 0
  | r :: rows, cols => rS r cols fun _ l => tN rows l
theorem tN_col : ∀ (rows : List Nat) (c : Nat) (cols : List Nat), tN rows (c :: cols) = rS c rows fun _ rows' => tN rows' cols
  | [], c, cols => by
    rw [tN, rS, tN, sm]
    by_cases e : c = 0
    · rw [if_pos e, e, Nat.zero_add]
    · rw [if_neg e, if_neg (by omega)]
  | r :: rows, c, cols => by
    rw [tN]
    show sN _ (min r c + 1) = sN _ (min c r + 1)
    rw [Nat.min_comm]
    refine sN_congr _ fun v _ => ?_
    have h1 : rS (r - v) cols (fun _ l => tN rows ((c - v) :: l)) = rS (r - v) cols (fun _ l => rS (c - v) rows fun _ b => tN b l) :=
      rS_congr _ _ fun w l _ _ _ _ => tN_col rows (c - v) l
    rw [h1, rS_swap (fun l b => tN b l)]
    rfl
/-- As many tables with rows as columns. -/
theorem tN_turn : ∀ (cols rows : List Nat), tN rows cols = tN cols rows
  | [], [] => rfl
  | [], r :: rows => by
    show (if r = 0 then tN rows [] else 0) = if r + sm rows = 0 then 1 else 0
    by_cases e : r = 0
    · rw [if_pos e, tN_turn [] rows, tN, e, Nat.zero_add]
    · rw [if_neg e, if_neg (by omega)]
  | c :: cols, rows => by
    rw [tN_col, tN]
    exact rS_congr _ _ fun _ l _ _ _ _ => tN_turn cols l
theorem rS_pos {f : List Nat → List Nat → Nat} : ∀ (L : List Nat) (t : Nat), t ≤ sm L → (∀ w l, sm l + t = sm L → 1 ≤ f w l) → 1 ≤ rS t L f
  | [], t, h, hf => by
    rw [sm] at h
    rw [rS, if_pos (by omega)]
    exact hf _ _ (by rw [sm]; omega)
  | c :: L, t, h, hf => by
    rw [sm] at h
    rw [rS]
    have := rS_pos (f := fun w l => f ((min t c) :: w) ((c - min t c) :: l)) L (t - min t c) (by omega) fun w l hl => hf _ _ (by rw [sm, sm]; omega)
    exact Nat.le_trans this (sN_le (g := fun v => rS (t - v) L fun w l => f (v :: w) ((c - v) :: l)) _ (by omega))
theorem tN_pos : ∀ (rows cols : List Nat), sm rows = sm cols → 1 ≤ tN rows cols
  | [], cols, h => by rw [tN, if_pos (by rw [← h]; rfl)]; exact Nat.le_refl _
  | r :: rows, cols, h => by
    rw [sm] at h
    rw [tN]
    exact rS_pos _ _ (by omega) fun w l hl => tN_pos rows l (by omega)
/-- Products of the numbers up to n. -/
def fct : Nat → Nat
  | 0 => 1
  | n + 1 => fct n * (n + 1)
theorem fct_pos : ∀ n, 0 < fct n
  | 0 => by decide
  | n + 1 => Nat.mul_pos (fct_pos n) (by omega)
/-- How many sets of k of n. -/
def ch (n k : Nat) : Nat := if k ≤ n then fct n / (fct k * fct (n - k)) else 0
theorem ch_fct : ∀ n, n < 19 → ∀ k, k < n + 1 → fct n = ch n k * fct (n - k) * fct k := by decide +kernel
theorem ch_sum : ∀ c, c < 7 → ∀ n, n < 13 → ∀ r, r < 19 → sN (fun v => ch c v * ch n (r - v)) (min r c + 1) = ch (c + n) r := by decide +kernel
/-- The things of one row given to the columns. -/
def here (a : Nat) : List Nat → Nat
  | [] => a
  | v :: w => here (a / fct v) w
theorem here_mul : ∀ (w : List Nat) (a : Nat), sm w ≤ 18 → here (a * fct (sm w)) w = a * here (fct (sm w)) w ∧ ∀ q, here (q * fct (sm w)) w * (w.map fct).foldr (· * ·) 1 = q * fct (sm w)
  | [], a, _ => ⟨by simp [here], fun q => by simp [here]⟩
  | v :: w, a, h => by
    rw [sm] at h ⊢
    have e := ch_fct (v + sm w) (by omega) v (by omega)
    rw [Nat.add_sub_cancel_left] at e
    have d : ∀ q, q * fct (v + sm w) / fct v = q * ch (v + sm w) v * fct (sm w) := fun q => by
      rw [e, ← Nat.mul_assoc, ← Nat.mul_assoc, Nat.mul_div_cancel _ (fct_pos v)]
    have ih := here_mul w
    refine ⟨?_, fun q => ?_⟩
    · rw [here, here, d a, (ih _ (by omega)).1]
      have := d 1
      rw [Nat.one_mul, Nat.one_mul] at this
      rw [this, (ih (ch (v + sm w) v) (by omega)).1, Nat.mul_assoc]
    · rw [here, d q]
      have := (ih 0 (by omega)).2 (q * ch (v + sm w) v)
      rw [List.map_cons, List.foldr_cons]
      calc here (q * ch (v + sm w) v * fct (sm w)) w * (fct v * (w.map fct).foldr (· * ·) 1)
          = (here (q * ch (v + sm w) v * fct (sm w)) w * (w.map fct).foldr (· * ·) 1) * fct v := by ac_rfl
        _ = q * fct (v + sm w) := by rw [this, e]; ac_rfl
/-- The ways. -/
def wN : List Nat → List Nat → Nat
  | [], cols => if sm cols = 0 then 1 else 0
  | r :: rows, cols => rS r cols fun w l => here (fct r) w * wN rows l
def pF (L : List Nat) : Nat := (L.map fct).foldr (· * ·) 1
theorem pF_zero : ∀ L, sm L = 0 → pF L = 1
  | [], _ => rfl
  | c :: L, h => by
    rw [sm] at h
    have := pF_zero L (by omega)
    unfold pF at this ⊢
    rw [List.map_cons, List.foldr_cons, this, show c = 0 by omega]
    rfl
/-- The sets of r of all columns, row by row. -/
theorem rS_ch : ∀ (L : List Nat) (r : Nat), L.length ≤ 3 → (∀ c ∈ L, c ≤ 6) → r ≤ 18 → rS r L (fun w l => (List.zipWith (fun v d => ch (v + d) v) w l).foldr (· * ·) 1) = ch (sm L) r
  | [], r, _, _, _ => by
    rw [rS, sm]
    unfold ch
    by_cases e : r = 0
    · rw [if_pos e, e]; rfl
    · rw [if_neg e, if_neg (by omega)]
  | c :: L, r, hl, hc, hr => by
    rw [rS, sm]
    have h6 := hc c (by simp)
    have hl' : L.length ≤ 2 := by simp at hl; omega
    have hs : sm L < 13 := by
      match L, hl', hc with
      | [], _, _ => rw [sm]; omega
      | [a], _, hc => have := hc a (by simp); simp only [sm]; omega
      | [a, b], _, hc => have := hc a (by simp); have := hc b (by simp); simp only [sm]; omega
    rw [← ch_sum c (by omega) (sm L) hs r (by omega)]
    refine sN_congr _ fun v hv => ?_
    have ih := rS_ch L (r - v) (by omega) (fun x hx => hc x (by simp [hx])) (by omega)
    rw [← ih, ← rS_mul]
    refine rS_congr _ _ fun w l _ _ _ _ => ?_
    rw [List.zipWith_cons_cons, List.foldr_cons, show v + (c - v) = c by omega]
theorem pF_split : ∀ (w l : List Nat), w.length = l.length → sm w + sm l ≤ 18 → pF (List.zipWith (· + ·) w l) = (List.zipWith (fun v d => ch (v + d) v) w l).foldr (· * ·) 1 * pF w * pF l
  | [], [], _, _ => rfl
  | [], _ :: _, h, _ => by simp at h
  | _ :: _, [], h, _ => by simp at h
  | v :: w, d :: l, h, hs => by
    rw [sm, sm] at hs
    have ih := pF_split w l (by simpa using h) (by omega)
    have e := ch_fct (v + d) (by omega) v (by omega)
    rw [Nat.add_sub_cancel_left] at e
    unfold pF at ih ⊢
    simp only [List.zipWith_cons_cons, List.map_cons, List.foldr_cons]
    rw [ih, e]
    ac_rfl
theorem rS_congr' {f g : List Nat → List Nat → Nat} : ∀ (L : List Nat) (t : Nat), (∀ w l, List.zipWith (· + ·) w l = L → w.length = l.length → sm w = t → f w l = g w l) → rS t L f = rS t L g
  | [], t, h => by
    rw [rS, rS]
    by_cases e : t = 0
    · rw [if_pos e, if_pos e, h [] [] rfl rfl (by rw [e]; rfl)]
    · rw [if_neg e, if_neg e]
  | c :: L, t, h => by
    rw [rS, rS]
    refine sN_congr _ fun v hv => ?_
    refine rS_congr' L (t - v) fun w l h1 h2 h3 => h _ _ (by rw [List.zipWith_cons_cons, h1, show v + (c - v) = c by omega]) (by simp [h2]) (by rw [sm, h3]; omega)
theorem sm_zip : ∀ (w l : List Nat), w.length = l.length → sm (List.zipWith (· + ·) w l) = sm w + sm l
  | [], [], _ => rfl
  | [], _ :: _, h => by simp at h
  | _ :: _, [], h => by simp at h
  | v :: w, d :: l, h => by
    rw [List.zipWith_cons_cons, sm, sm, sm, sm_zip w l (by simpa using h)]
    omega
theorem zip_le : ∀ (w l : List Nat), w.length = l.length → (∀ c ∈ List.zipWith (· + ·) w l, c ≤ 6) → ∀ c ∈ l, c ≤ 6
  | [], [], _, _ => by simp
  | [], _ :: _, h, _ => by simp at h
  | _ :: _, [], h, _ => by simp at h
  | v :: w, d :: l, h, hc => by
    intro c hx
    rcases List.mem_cons.1 hx with rfl | hx
    · have := hc (v + c) (by simp); omega
    · exact zip_le w l (by simpa using h) (fun x hx => hc x (by simp [hx])) c hx
theorem sm_le18 {L : List Nat} (hl : L.length ≤ 3) (hc : ∀ c ∈ L, c ≤ 6) : sm L ≤ 18 := by
  match L, hl, hc with
  | [], _, _ => rw [sm]; omega
  | [a], _, hc => have := hc a (by simp); simp only [sm]; omega
  | [a, b], _, hc => have := hc a (by simp); have := hc b (by simp); simp only [sm]; omega
  | [a, b, c], _, hc => have := hc a (by simp); have := hc b (by simp); have := hc c (by simp); simp only [sm]; omega
  | _ :: _ :: _ :: _ :: _, hl, _ => simp at hl
/-- The ways times the orders of things in columns are all orders. -/
theorem wN_all : ∀ (rows cols : List Nat), cols.length ≤ 3 → (∀ c ∈ cols, c ≤ 6) → sm rows = sm cols → wN rows cols * pF cols = fct (sm rows)
  | [], cols, _, _, h => by
    have h0 : sm cols = 0 := h ▸ rfl
    rw [wN, if_pos h0, pF_zero _ h0]
    rfl
  | r :: rows, cols, hl, hc, h => by
    have h18 := sm_le18 hl hc
    rw [sm] at h
    have key : wN (r :: rows) cols * pF cols = rS r cols fun w l => (fct r * fct (sm rows)) * (List.zipWith (fun v d => ch (v + d) v) w l).foldr (· * ·) 1 := by
      rw [wN, Nat.mul_comm, ← rS_mul]
      refine rS_congr' _ _ fun w l h1 h2 h3 => ?_
      have hz := sm_zip w l h2
      rw [h1] at hz
      have ih := wN_all rows l (by rw [← h2]; have := congrArg List.length h1; simp at this; omega) (zip_le w l h2 (by rw [h1]; exact hc)) (by omega)
      have hh := (here_mul w 1 (by omega)).2 1
      rw [Nat.one_mul, h3] at hh
      rw [← h1, pF_split w l h2 (by omega), ← ih]
      generalize hq : here (fct r) w = q at *
      rw [← hh]
      show _ = q * pF w * (wN rows l * pF l) * _
      ac_rfl
    rw [key, rS_mul, rS_ch cols r hl hc (by omega), sm]
    have e := ch_fct (sm cols) (by omega) r (by omega)
    rw [show sm cols - r = sm rows by omega] at e
    rw [h, e]
    ac_rfl

end Go.Proofs.Ytpcnjkgoehepaaa
