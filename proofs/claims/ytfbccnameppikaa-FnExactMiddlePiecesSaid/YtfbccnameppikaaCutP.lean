/- Plain facts: cuts of a list into pieces, and the least sums of what pieces cost. No program here. -/
import Derived.Test.YtfbccnameppikaaRat
namespace Go.Proofs.Ytfbccnameppikaa

/-- What pieces cost together. -/
def cSum (c : List Int → Rat) : List (List Int) → Rat
  | [] => 0
  | p :: L => c p + cSum c L
theorem cSum_append (c : List Int → Rat) (M : List (List Int)) : ∀ L, cSum c (L ++ M) = cSum c L + cSum c M
  | [] => by show cSum c M = 0 + cSum c M; grind
  | p :: L => by show c p + cSum c (L ++ M) = c p + cSum c L + cSum c M; rw [cSum_append c M L]; grind
theorem cSum_one (c : List Int → Rat) (p : List Int) : cSum c [p] = c p := by show c p + 0 = c p; grind

/-- Pieces of a list, in order, none of them empty. -/
structure IsCut (xs : List Int) (L : List (List Int)) : Prop where
  join : L.flatten = xs
  ne : ∀ p, p ∈ L → p ≠ []
theorem flat_len (L : List (List Int)) (h : ∀ p, p ∈ L → p ≠ []) : L.length ≤ L.flatten.length := by
  induction L with
  | nil => exact Nat.le_refl _
  | cons p L ih =>
    have h1 := ih fun q hq => h q (List.mem_cons_of_mem _ hq)
    have h2 := List.length_pos_iff.2 (h p (List.mem_cons_self ..))
    simp only [List.length_cons, List.flatten_cons, List.length_append]
    omega
theorem IsCut.len {xs : List Int} {L : List (List Int)} (h : IsCut xs L) : L.length ≤ xs.length := by
  have := flat_len L h.ne
  rwa [h.join] at this
theorem IsCut.whole {xs : List Int} (h : xs ≠ []) : IsCut xs [xs] := ⟨by simp, by simp [h]⟩
theorem IsCut.nil_of {L : List (List Int)} (h : IsCut [] L) : L = [] := by
  have := h.len
  exact List.eq_nil_of_length_eq_zero (by simpa using this)
theorem IsCut.snoc {xs ys q : List Int} {L : List (List Int)} (h : IsCut ys L) (hq : q ≠ []) (e : ys ++ q = xs) : IsCut xs (L ++ [q]) := by
  refine ⟨by rw [List.flatten_append, h.join]; simpa using e, fun p hp => ?_⟩
  rcases List.mem_append.1 hp with hp | hp
  · exact h.ne p hp
  · rw [List.mem_singleton.1 hp]; exact hq
theorem IsCut.cons {xs ys q : List Int} {L : List (List Int)} (h : IsCut ys L) (hq : q ≠ []) (e : q ++ ys = xs) : IsCut xs (q :: L) := by
  refine ⟨by rw [List.flatten_cons, h.join]; exact e, fun p hp => ?_⟩
  rcases List.mem_cons.1 hp with hp | hp
  · rw [hp]; exact hq
  · exact h.ne p hp
theorem IsCut.init {xs q : List Int} {L : List (List Int)} (h : IsCut xs (L ++ [q])) : IsCut L.flatten L ∧ q ≠ [] ∧ L.flatten ++ q = xs :=
  ⟨⟨rfl, fun p hp => h.ne p (List.mem_append_left _ hp)⟩, h.ne q (by simp), by have := h.join; simpa using this⟩
theorem IsCut.tail {xs q : List Int} {L : List (List Int)} (h : IsCut xs (q :: L)) : IsCut L.flatten L ∧ q ≠ [] ∧ q ++ L.flatten = xs :=
  ⟨⟨rfl, fun p hp => h.ne p (List.mem_cons_of_mem _ hp)⟩, h.ne q (by simp), by have := h.join; simpa using this⟩
/-- The last piece of a cut of the first e numbers. -/
theorem IsCut.last {xs : List Int} {e : Nat} {L : List (List Int)} (he : e ≤ xs.length) (h : IsCut (xs.take e) L) (hL : L ≠ []) :
    ∃ M a, L = M ++ [(xs.take e).drop a] ∧ a < e ∧ IsCut (xs.take a) M ∧ M.length ≤ a := by
  obtain ⟨M, q, rfl⟩ : ∃ M q, L = M ++ [q] := ⟨L.dropLast, L.getLast hL, (List.dropLast_concat_getLast hL).symm⟩
  obtain ⟨h1, h2, h3⟩ := h.init
  have hl : (xs.take e).length = e := by simp; omega
  have hq := List.length_pos_iff.2 h2
  have e1 : M.flatten.length + q.length = e := by rw [← hl, ← h3]; simp
  have e2 : (xs.take e).take M.flatten.length = M.flatten := by rw [← h3]; simp
  have e3 : (xs.take e).drop M.flatten.length = q := by rw [← h3]; simp
  rw [List.take_take, Nat.min_eq_left (by omega)] at e2
  have h1' : IsCut (xs.take M.flatten.length) M := by rw [e2]; exact h1
  exact ⟨M, M.flatten.length, by rw [e3], by omega, h1', h1.len⟩
/-- The first piece of a cut of the numbers from i on. -/
theorem IsCut.first {xs : List Int} {i : Nat} {L : List (List Int)} (hi : i < xs.length) (h : IsCut (xs.drop i) L) :
    ∃ M k, L = (xs.take k).drop i :: M ∧ i < k ∧ k ≤ xs.length ∧ IsCut (xs.drop k) M := by
  cases L with
  | nil =>
    have := h.join
    have hl : (xs.drop i).length = xs.length - i := List.length_drop ..
    rw [← this] at hl
    simp at hl
    omega
  | cons q M =>
    obtain ⟨h1, h2, h3⟩ := h.tail
    have hq := List.length_pos_iff.2 h2
    have hl : (xs.drop i).length = xs.length - i := List.length_drop ..
    have e1 : q.length + M.flatten.length = xs.length - i := by rw [← hl, ← h3]; simp
    have e2 : (xs.take (i + q.length)).drop i = q := by
      rw [List.drop_take, ← h3]
      simp
    have e3 : xs.drop (i + q.length) = M.flatten := by
      rw [← List.drop_drop, ← h3]; simp
    exact ⟨M, i + q.length, by rw [e2], by omega, by omega, by rw [e3]; exact h1⟩

/-- The least sum over the cuts whose number of pieces is allowed. -/
structure Least (c : List Int → Rat) (xs : List Int) (P : Nat → Prop) (r : Rat) : Prop where
  got : ∃ L, IsCut xs L ∧ P L.length ∧ cSum c L = r
  low : ∀ L, IsCut xs L → P L.length → r ≤ cSum c L
theorem Least.uniq {c : List Int → Rat} {xs : List Int} {P : Nat → Prop} {r s : Rat} (h : Least c xs P r) (g : Least c xs P s) : r = s := by
  obtain ⟨L, h1, h2, h3⟩ := h.got
  obtain ⟨M, g1, g2, g3⟩ := g.got
  have a := h.low M g1 g2
  have b := g.low L h1 h2
  rw [g3] at a
  rw [h3] at b
  exact Rat.le_antisymm a b
theorem Least.congr {c : List Int → Rat} {xs : List Int} {P Q : Nat → Prop} {r : Rat} (h : Least c xs P r) (e : ∀ n, n ≤ xs.length → (P n ↔ Q n)) : Least c xs Q r := by
  obtain ⟨L, h1, h2, h3⟩ := h.got
  exact ⟨⟨L, h1, (e _ h1.len).1 h2, h3⟩, fun M g1 g2 => h.low M g1 ((e _ g1.len).2 g2)⟩
theorem Least.mono {c : List Int → Rat} {xs : List Int} {P Q : Nat → Prop} {r s : Rat} (h : Least c xs P r) (g : Least c xs Q s) (e : ∀ n, P n → Q n) : s ≤ r := by
  obtain ⟨L, h1, h2, h3⟩ := h.got
  have := g.low L h1 (e _ h2)
  rwa [h3] at this

def mnR (b x : Rat) : Rat := if x < b then x else b
theorem mnR_le (b x : Rat) : mnR b x ≤ b ∧ mnR b x ≤ x := by unfold mnR; split <;> constructor <;> grind
theorem mnR_or (b x : Rat) : mnR b x = b ∨ mnR b x = x := by unfold mnR; split <;> simp

/-- The piece from a up to e. -/
def pc (xs : List Int) (a e : Nat) : List Int := (xs.take e).drop a
theorem pc_length {xs : List Int} {a e : Nat} (he : e ≤ xs.length) : (pc xs a e).length = e - a := by unfold pc; simp; omega
theorem pc_ne {xs : List Int} {a e : Nat} (he : e ≤ xs.length) (ha : a < e) : pc xs a e ≠ [] := by
  intro h
  have := pc_length (a := a) he
  rw [h] at this
  simp at this
  omega
theorem take_pc {xs : List Int} {a e : Nat} (ha : a ≤ e) : xs.take a ++ pc xs a e = xs.take e := by
  unfold pc
  have := List.take_append_drop a (xs.take e)
  rwa [List.take_take, Nat.min_eq_left ha] at this
theorem pc_drop {xs : List Int} {a e : Nat} (ha : a ≤ e) : pc xs a e ++ xs.drop e = xs.drop a := by
  unfold pc
  rcases Nat.lt_or_ge xs.length a with h | h
  · rw [List.drop_eq_nil_of_le (by simp; omega), List.drop_eq_nil_of_le (by omega), List.drop_eq_nil_of_le (by omega)]; rfl
  · conv => rhs; rw [← List.take_append_drop e xs]
    rw [List.drop_append_of_le_length (by simp; omega)]
theorem pc_all (xs : List Int) (a : Nat) : pc xs a xs.length = xs.drop a := by unfold pc; rw [List.take_length]
theorem pc_zero (xs : List Int) (e : Nat) : pc xs 0 e = xs.take e := by unfold pc; rfl

/-- The program's steps: exactly so many pieces. -/
def lcD (c : List Int → Rat) (xs : List Int) (prev : Nat → Rat) (p e : Nat) : Nat → Rat
  | 0 => prev p + c (pc xs p e)
  | d + 1 => mnR (lcD c xs prev p e d) (prev (p + (d + 1)) + c (pc xs (p + (d + 1)) e))
def lcN (c : List Int → Rat) (xs : List Int) : Nat → Nat → Rat
  | 0, e => c (xs.take e)
  | p + 1, e => lcD c xs (lcN c xs p) (p + 1) e (e - (p + 1) - 1)
theorem lcD_or (c : List Int → Rat) (xs : List Int) (prev : Nat → Rat) (p e : Nat) : ∀ d, ∃ a, p ≤ a ∧ a ≤ p + d ∧ lcD c xs prev p e d = prev a + c (pc xs a e)
  | 0 => ⟨p, Nat.le_refl _, Nat.le_refl _, rfl⟩
  | d + 1 => by
    rcases mnR_or (lcD c xs prev p e d) (prev (p + (d + 1)) + c (pc xs (p + (d + 1)) e)) with h | h
    · obtain ⟨a, h1, h2, h3⟩ := lcD_or c xs prev p e d
      exact ⟨a, h1, by omega, by rw [lcD, h, h3]⟩
    · exact ⟨p + (d + 1), by omega, Nat.le_refl _, by rw [lcD, h]⟩
theorem lcD_le (c : List Int → Rat) (xs : List Int) (prev : Nat → Rat) (p e : Nat) : ∀ d a, p ≤ a → a ≤ p + d → lcD c xs prev p e d ≤ prev a + c (pc xs a e)
  | 0, a, h1, h2 => by
    obtain rfl : a = p := by omega
    exact Rat.le_refl
  | d + 1, a, h1, h2 => by
    have m := mnR_le (lcD c xs prev p e d) (prev (p + (d + 1)) + c (pc xs (p + (d + 1)) e))
    rw [lcD]
    by_cases h : a = p + (d + 1)
    · rw [h]; exact m.2
    · exact Rat.le_trans m.1 (lcD_le c xs prev p e d a h1 (by omega))
theorem lcN_least (c : List Int → Rat) (xs : List Int) : ∀ p e, p + 1 ≤ e → e ≤ xs.length → Least c (xs.take e) (fun n => n = p + 1) (lcN c xs p e)
  | 0, e, h1, h2 => by
    have hne : xs.take e ≠ [] := by rw [← pc_zero]; exact pc_ne h2 (by omega)
    refine ⟨⟨[xs.take e], .whole hne, rfl, cSum_one _ _⟩, fun L hL hl => ?_⟩
    match L, hl with
    | [q], _ =>
      have := hL.join
      rw [cSum_one]
      simp at this
      rw [this]
      exact Rat.le_refl
  | p + 1, e, h1, h2 => by
    rw [lcN]
    constructor
    · obtain ⟨a, h3, h4, h5⟩ := lcD_or c xs (lcN c xs p) (p + 1) e (e - (p + 1) - 1)
      obtain ⟨M, g1, g2, g3⟩ := (lcN_least c xs p a h3 (by omega)).got
      exact ⟨M ++ [pc xs a e], g1.snoc (pc_ne h2 (by omega)) (take_pc (by omega)), by simp [g2], by rw [cSum_append, cSum_one, g3, h5]⟩
    · intro L hL hl
      obtain ⟨M, a, rfl, g1, g2, g3⟩ := hL.last h2 (by intro h; rw [h] at hl; simp at hl)
      have hm : M.length = p + 1 := by simpa using hl
      have := lcD_le c xs (lcN c xs p) (p + 1) e (e - (p + 1) - 1) a (by omega) (by omega)
      have k := (lcN_least c xs p a (by omega) (by omega)).low M g2 hm
      rw [cSum_append, cSum_one]
      show _ ≤ cSum c M + c (pc xs a e)
      grind

/-- The reference's steps: at most so many pieces. -/
def amD (c : List Int → Rat) (xs : List Int) (prev : Nat → Rat) (e : Nat) : Nat → Rat
  | 0 => prev e
  | d + 1 => mnR (amD c xs prev e d) (prev (d + 1) + c (pc xs (d + 1) e))
def amN (c : List Int → Rat) (xs : List Int) : Nat → Nat → Rat
  | _, 0 => 0
  | 0, e + 1 => c (xs.take (e + 1))
  | p + 1, e + 1 => amD c xs (amN c xs p) (e + 1) e
theorem amD_or (c : List Int → Rat) (xs : List Int) (prev : Nat → Rat) (e : Nat) : ∀ d, amD c xs prev e d = prev e ∨ ∃ a, 1 ≤ a ∧ a ≤ d ∧ amD c xs prev e d = prev a + c (pc xs a e)
  | 0 => .inl rfl
  | d + 1 => by
    rcases mnR_or (amD c xs prev e d) (prev (d + 1) + c (pc xs (d + 1) e)) with h | h
    · rcases amD_or c xs prev e d with g | ⟨a, h1, h2, h3⟩
      · exact .inl (by rw [amD, h, g])
      · exact .inr ⟨a, h1, by omega, by rw [amD, h, h3]⟩
    · exact .inr ⟨d + 1, by omega, Nat.le_refl _, by rw [amD, h]⟩
theorem amD_le (c : List Int → Rat) (xs : List Int) (prev : Nat → Rat) (e : Nat) : ∀ d, amD c xs prev e d ≤ prev e ∧ ∀ a, 1 ≤ a → a ≤ d → amD c xs prev e d ≤ prev a + c (pc xs a e)
  | 0 => ⟨Rat.le_refl, fun a h1 h2 => by omega⟩
  | d + 1 => by
    have m := mnR_le (amD c xs prev e d) (prev (d + 1) + c (pc xs (d + 1) e))
    have ih := amD_le c xs prev e d
    rw [amD]
    refine ⟨Rat.le_trans m.1 ih.1, fun a h1 h2 => ?_⟩
    by_cases h : a = d + 1
    · rw [h]; exact m.2
    · exact Rat.le_trans m.1 (ih.2 a h1 (by omega))
theorem amN_least (c : List Int → Rat) (xs : List Int) : ∀ p e, 1 ≤ e → e ≤ xs.length → Least c (xs.take e) (fun n => n ≤ p + 1) (amN c xs p e)
  | 0, e + 1, h1, h2 => by
    have h := lcN_least c xs 0 (e + 1) (by omega) h2
    obtain ⟨L, g1, g2, g3⟩ := h.got
    refine ⟨⟨L, g1, by omega, g3⟩, fun M k1 k2 => h.low M k1 ?_⟩
    cases M with
    | nil =>
      have := k1.join
      have hl : (xs.take (e + 1)).length = e + 1 := by simp; omega
      rw [← this] at hl
      simp at hl
    | cons q M => simp at k2; simp [k2]
  | p + 1, e + 1, h1, h2 => by
    rw [amN]
    have am := amD_le c xs (amN c xs p) (e + 1) e
    constructor
    · rcases amD_or c xs (amN c xs p) (e + 1) e with h | ⟨a, h3, h4, h5⟩
      · obtain ⟨M, g1, g2, g3⟩ := (amN_least c xs p (e + 1) h1 h2).got
        exact ⟨M, g1, by omega, by rw [g3, h]⟩
      · obtain ⟨M, g1, g2, g3⟩ := (amN_least c xs p a h3 (by omega)).got
        exact ⟨M ++ [pc xs a (e + 1)], g1.snoc (pc_ne h2 (by omega)) (take_pc (by omega)), by simp; omega, by rw [cSum_append, cSum_one, g3, h5]⟩
    · intro L hL hl
      by_cases hs : L.length ≤ p + 1
      · exact Rat.le_trans am.1 ((amN_least c xs p (e + 1) h1 h2).low L hL hs)
      · obtain ⟨M, a, rfl, g1, g2, g3⟩ := hL.last h2 (by intro h; rw [h] at hs; simp at hs)
        have hm : M.length = p + 1 := by simp at hl hs; omega
        have := am.2 a (by omega) (by omega)
        have k := (amN_least c xs p a (by omega) (by omega)).low M g2 (by omega)
        rw [cSum_append, cSum_one]
        show _ ≤ cSum c M + c (pc xs a (e + 1))
        grind

/-- The reference's trying. -/
def cfD (c : List Int → Rat) (xs : List Int) (rest : Nat → Rat) (i : Nat) : Nat → Rat
  | 0 => c (xs.drop i)
  | d + 1 => mnR (cfD c xs rest i d) (c (pc xs i (i + 1 + d)) + rest (i + 1 + d))
def cfN (c : List Int → Rat) (xs : List Int) : Nat → Nat → Rat
  | 0, i => c (xs.drop i)
  | m + 1, i => cfD c xs (cfN c xs m) i (xs.length - i - 1)
theorem cfD_or (c : List Int → Rat) (xs : List Int) (rest : Nat → Rat) (i : Nat) : ∀ d, cfD c xs rest i d = c (xs.drop i) ∨ ∃ k, i < k ∧ k ≤ i + d ∧ cfD c xs rest i d = c (pc xs i k) + rest k
  | 0 => .inl rfl
  | d + 1 => by
    rcases mnR_or (cfD c xs rest i d) (c (pc xs i (i + 1 + d)) + rest (i + 1 + d)) with h | h
    · rcases cfD_or c xs rest i d with g | ⟨a, h1, h2, h3⟩
      · exact .inl (by rw [cfD, h, g])
      · exact .inr ⟨a, h1, by omega, by rw [cfD, h, h3]⟩
    · exact .inr ⟨i + 1 + d, by omega, by omega, by rw [cfD, h]⟩
theorem cfD_le (c : List Int → Rat) (xs : List Int) (rest : Nat → Rat) (i : Nat) : ∀ d, cfD c xs rest i d ≤ c (xs.drop i) ∧ ∀ k, i < k → k ≤ i + d → cfD c xs rest i d ≤ c (pc xs i k) + rest k
  | 0 => ⟨Rat.le_refl, fun a h1 h2 => by omega⟩
  | d + 1 => by
    have m := mnR_le (cfD c xs rest i d) (c (pc xs i (i + 1 + d)) + rest (i + 1 + d))
    have ih := cfD_le c xs rest i d
    rw [cfD]
    refine ⟨Rat.le_trans m.1 ih.1, fun a h1 h2 => ?_⟩
    by_cases h : a = i + 1 + d
    · rw [h]; exact m.2
    · exact Rat.le_trans m.1 (ih.2 a h1 (by omega))
theorem drop_ne {xs : List Int} {i : Nat} (h : i < xs.length) : xs.drop i ≠ [] := by
  rw [← pc_all]; exact pc_ne (Nat.le_refl _) h
theorem cfN_least (c : List Int → Rat) (xs : List Int) : ∀ m i, i < xs.length → Least c (xs.drop i) (fun n => n ≤ m + 1) (cfN c xs m i)
  | 0, i, h1 => by
    refine ⟨⟨[xs.drop i], .whole (drop_ne h1), Nat.le_refl _, cSum_one _ _⟩, fun L hL hl => ?_⟩
    obtain ⟨M, k, rfl, g1, g2, g3⟩ := hL.first h1
    have : M = [] := List.eq_nil_of_length_eq_zero (by rw [List.length_cons] at hl; omega)
    subst this
    have := hL.join
    simp only [List.flatten_cons, List.flatten_nil, List.append_nil] at this
    rw [this, cSum_one]
    exact Rat.le_refl
  | m + 1, i, h1 => by
    rw [cfN]
    have cm := cfD_le c xs (cfN c xs m) i (xs.length - i - 1)
    constructor
    · rcases cfD_or c xs (cfN c xs m) i (xs.length - i - 1) with h | ⟨k, h3, h4, h5⟩
      · exact ⟨[xs.drop i], .whole (drop_ne h1), by simp, by rw [cSum_one, h]⟩
      · obtain ⟨M, g1, g2, g3⟩ := (cfN_least c xs m k (by omega)).got
        exact ⟨pc xs i k :: M, g1.cons (pc_ne (by omega) h3) (pc_drop (by omega)), by simp; omega, by rw [cSum, g3, h5]⟩
    · intro L hL hl
      obtain ⟨M, k, rfl, g1, g2, g3⟩ := hL.first h1
      by_cases hk : k = xs.length
      · subst hk
        rw [List.drop_length] at g3
        have := g3.nil_of
        subst this
        rw [cSum_one]
        show _ ≤ c (pc xs i xs.length)
        rw [pc_all]
        exact cm.1
      · have := cm.2 k g1 (by omega)
        have k2 := (cfN_least c xs m k (by omega)).low M g3 (by simp at hl; omega)
        show _ ≤ c (pc xs i k) + cSum c M
        grind

/-- Both directions. -/
theorem cSum_rev {c : List Int → Rat} (hc : ∀ l, c l.reverse = c l) (L : List (List Int)) : cSum c (L.map List.reverse).reverse = cSum c L := by
  induction L with
  | nil => rfl
  | cons p L ih => rw [List.map_cons, List.reverse_cons, cSum_append, ih, cSum_one, hc, cSum]; grind
theorem IsCut.rev {xs : List Int} {L : List (List Int)} (h : IsCut xs L) : IsCut xs.reverse (L.map List.reverse).reverse := by
  refine ⟨?_, fun p hp => ?_⟩
  · rw [← h.join, List.reverse_flatten]
  · simp only [List.mem_reverse, List.mem_map] at hp
    obtain ⟨q, hq, rfl⟩ := hp
    have := h.ne q hq
    simpa using this
theorem Least.rev {c : List Int → Rat} (hc : ∀ l, c l.reverse = c l) {xs : List Int} {P : Nat → Prop} {r : Rat} (h : Least c xs P r) : Least c xs.reverse P r := by
  obtain ⟨L, h1, h2, h3⟩ := h.got
  refine ⟨⟨_, h1.rev, by simpa using h2, by rw [cSum_rev hc, h3]⟩, fun M g1 g2 => ?_⟩
  have := h.low _ (by have := g1.rev; rwa [List.reverse_reverse] at this) (by simpa using g2)
  rwa [cSum_rev hc] at this
def ngL (l : List Int) : List Int := l.map fun x => -x
theorem ngL_ngL (l : List Int) : ngL (ngL l) = l := by
  unfold ngL
  rw [List.map_map]
  exact (List.map_congr_left fun x _ => Int.neg_neg x).trans (List.map_id _)
theorem cSum_neg {c : List Int → Rat} (hc : ∀ l, c (ngL l) = c l) (L : List (List Int)) : cSum c (L.map ngL) = cSum c L := by
  induction L with
  | nil => rfl
  | cons p L ih => rw [List.map_cons, cSum, ih, hc, cSum]
theorem IsCut.neg {xs : List Int} {L : List (List Int)} (h : IsCut xs L) : IsCut (ngL xs) (L.map ngL) := by
  refine ⟨?_, fun p hp => ?_⟩
  · rw [← h.join]; unfold ngL; rw [List.map_flatten]
  · simp only [List.mem_map] at hp
    obtain ⟨q, hq, rfl⟩ := hp
    have := h.ne q hq
    unfold ngL
    simpa using this
theorem Least.neg {c : List Int → Rat} (hc : ∀ l, c (ngL l) = c l) {xs : List Int} {P : Nat → Prop} {r : Rat} (h : Least c xs P r) : Least c (ngL xs) P r := by
  obtain ⟨L, h1, h2, h3⟩ := h.got
  refine ⟨⟨_, h1.neg, by simpa using h2, by rw [cSum_neg hc, h3]⟩, fun M g1 g2 => ?_⟩
  have := h.low _ (by have := g1.neg; rwa [ngL_ngL] at this) (by simpa using g2)
  rwa [cSum_neg hc] at this

end Go.Proofs.Ytfbccnameppikaa
