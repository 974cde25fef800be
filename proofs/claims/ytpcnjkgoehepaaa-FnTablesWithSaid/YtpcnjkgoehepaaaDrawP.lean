/- Plain facts: sums of draws, and their counts. No walk here. -/
import Derived.Test.YtpcnjkgoehepaaaList
import Derived.Test.YtpcnjkgoehepaaaTab
namespace Go.Proofs.Ytpcnjkgoehepaaa

/-- The first n steps of g. -/
def fld {α : Type} (g : Nat → α → α) : Nat → α → α
  | 0, a => a
  | n + 1, a => g n (fld g n a)
/-- A draw's sum put into its place. -/
def insP (s : Int) : List (Int × Int) → List (Int × Int)
  | [] => [(s, 1)]
  | p :: L => if p.1 < s then p :: insP s L else if p.1 = s then (p.1, p.2 + 1) :: L else (s, 1) :: p :: L
/-- All draws of l numbers of x 0 .. x (n - 1) on the sum s. -/
def dF (x : Nat → Int) (n : Nat) : Nat → Int → List (Int × Int) → List (Int × Int)
  | 0, s, L => insP s L
  | l + 1, s, L => fld (fun i L => dF x n l (s + x i) L) n L
/-- The count at a sum. -/
def cP (t : Int) : List (Int × Int) → Int
  | [] => 0
  | p :: L => (if p.1 = t then p.2 else 0) + cP t L
/-- In how many ways l numbers have the sum t. -/
def Ct (x : Nat → Int) (n : Nat) : Nat → Int → Int
  | 0, t => if t = 0 then 1 else 0
  | l + 1, t => fld (fun i c => c + Ct x n l (t - x i)) n 0
structure AscP (L : List (Int × Int)) : Prop where
  asc : L.Pairwise (fun p q => p.1 < q.1)
  pos : ∀ p ∈ L, 1 ≤ p.2
theorem insP_mem {s : Int} {q : Int × Int} : ∀ L : List (Int × Int), q ∈ insP s L → q.1 = s ∨ q ∈ L
  | [], h => by simp [insP] at h; exact .inl (by rw [h])
  | p :: L, h => by
    simp only [insP] at h
    split at h
    · rcases List.mem_cons.1 h with h | h
      · exact .inr (by simp [h])
      · exact (insP_mem L h).imp id fun h => by simp [h]
    · split at h
      · rename_i e
        rcases List.mem_cons.1 h with h | h
        · exact .inl (by rw [h]; exact e)
        · exact .inr (by simp [h])
      · rcases List.mem_cons.1 h with h | h
        · exact .inl (by rw [h])
        · exact .inr h
theorem insP_asc {s : Int} : ∀ L : List (Int × Int), AscP L → AscP (insP s L)
  | [], _ => ⟨by simp [insP], fun p hp => by simp [insP] at hp; rw [hp]; exact Int.le_refl 1⟩
  | p :: L, h => by
    obtain ⟨h1, h2⟩ := h
    obtain ⟨h3, h4⟩ := List.pairwise_cons.1 h1
    have ih := insP_asc (s := s) L ⟨h4, fun q hq => h2 q (by simp [hq])⟩
    simp only [insP]
    split
    · rename_i hlt
      refine ⟨List.pairwise_cons.2 ⟨fun q hq => ?_, ih.asc⟩, fun q hq => ?_⟩
      · rcases insP_mem L hq with e | e
        · rw [e]; exact hlt
        · exact h3 q e
      · rcases List.mem_cons.1 hq with e | e
        · rw [e]; exact h2 p (by simp)
        · exact ih.pos q e
    · split
      · refine ⟨List.pairwise_cons.2 ⟨fun q hq => h3 q hq, h4⟩, fun q hq => ?_⟩
        rcases List.mem_cons.1 hq with e | e
        · have := h2 p (by simp)
          rw [e]
          show 1 ≤ p.2 + 1
          omega
        · exact h2 q (by simp [e])
      · rename_i n1 n2
        refine ⟨List.pairwise_cons.2 ⟨fun q hq => ?_, h1⟩, fun q hq => ?_⟩
        · rcases List.mem_cons.1 hq with e | e
          · rw [e]; show s < p.1; omega
          · have := h3 q e; show s < q.1; omega
        · rcases List.mem_cons.1 hq with e | e
          · rw [e]; exact Int.le_refl 1
          · exact h2 q e
theorem cP_low {t : Int} : ∀ L : List (Int × Int), (∀ p ∈ L, t < p.1) → cP t L = 0
  | [], _ => rfl
  | p :: L, h => by
    have := h p (by simp)
    rw [cP, if_neg (by omega), cP_low L fun q hq => h q (by simp [hq])]
    rfl
theorem cP_ins {s t : Int} : ∀ L : List (Int × Int), cP t (insP s L) = cP t L + if s = t then 1 else 0
  | [] => by simp [insP, cP]
  | p :: L => by
    simp only [insP]
    split
    · rw [cP, cP, cP_ins L]; omega
    · split
      · rename_i e
        simp only [cP]
        by_cases h : p.1 = t
        · rw [if_pos h, if_pos h, if_pos (by omega)]; omega
        · rw [if_neg h, if_neg h, if_neg (by omega)]; omega
      · simp only [cP]
        omega
theorem fld_ind {α : Type} {P : α → Prop} {g : Nat → α → α} (hg : ∀ i a, P a → P (g i a)) : ∀ n a, P a → P (fld g n a)
  | 0, _, h => h
  | n + 1, a, h => hg n _ (fld_ind hg n a h)
theorem dF_asc (x : Nat → Int) (n : Nat) : ∀ (l : Nat) (s : Int) (L : List (Int × Int)), AscP L → AscP (dF x n l s L)
  | 0, _, L, h => insP_asc L h
  | l + 1, s, L, h => fld_ind (P := AscP) (fun i L h => dF_asc x n l (s + x i) L h) n L h
theorem cP_dF (x : Nat → Int) (n : Nat) : ∀ (l : Nat) (s t : Int) (L : List (Int × Int)), cP t (dF x n l s L) = cP t L + Ct x n l (t - s)
  | 0, s, t, L => by
    rw [dF, cP_ins, Ct]
    by_cases e : s = t
    · rw [if_pos e, if_pos (by omega)]
    · rw [if_neg e, if_neg (by omega)]
  | l + 1, s, t, L => by
    rw [dF, Ct]
    have : ∀ k, cP t (fld (fun i L => dF x n l (s + x i) L) k L) = cP t L + fld (fun i c => c + Ct x n l (t - s - x i)) k 0 := fun k => by
      induction k with
      | zero => simp [fld]
      | succ k ih =>
        rw [fld, fld, cP_dF x n l, ih, show t - (s + x k) = t - s - x k by omega]
        omega
    exact this n
/-- How many draws, and the sum of their sums. -/
def tS : List (Int × Int) → Int
  | [] => 0
  | p :: L => p.2 + tS L
def wS : List (Int × Int) → Int
  | [] => 0
  | p :: L => p.1 * p.2 + wS L
theorem tS_ins (s : Int) : ∀ L : List (Int × Int), tS (insP s L) = tS L + 1
  | [] => rfl
  | p :: L => by
    simp only [insP]
    split
    · rw [tS, tS, tS_ins s L]; omega
    · split
      · simp only [tS]; omega
      · simp only [tS]; omega
theorem wS_ins (s : Int) : ∀ L : List (Int × Int), wS (insP s L) = wS L + s
  | [] => by simp [insP, wS]
  | p :: L => by
    simp only [insP]
    split
    · rw [wS, wS, wS_ins s L]; omega
    · split
      · rename_i e
        simp only [wS]
        rw [Int.mul_add, e]
        omega
      · simp only [wS]
        omega
theorem tS_dF (x : Nat → Int) (n : Nat) : ∀ (l : Nat) (s : Int) (L : List (Int × Int)), tS (dF x n l s L) = tS L + (n : Int) ^ l
  | 0, s, L => by rw [dF, tS_ins]; simp
  | l + 1, s, L => by
    have : ∀ k : Nat, tS (fld (fun i L => dF x n l (s + x i) L) k L) = tS L + k * (n : Int) ^ l := fun k => by
      induction k with
      | zero => simp [fld]
      | succ k ih => rw [fld, tS_dF x n l, ih]; grind
    rw [dF, this n]
    grind
/-- The sum of the first k numbers. -/
def sX (x : Nat → Int) : Nat → Int
  | 0 => 0
  | k + 1 => sX x k + x k
theorem wS_dF (x : Nat → Int) (n : Nat) : ∀ (l : Nat) (s : Int) (L : List (Int × Int)), (n : Int) * (wS (dF x n l s L) - wS L) = (n : Int) * ((n : Int) ^ l * s) + l * (n : Int) ^ l * sX x n
  | 0, s, L => by rw [dF, wS_ins]; simp; grind
  | l + 1, s, L => by
    have key : ∀ k : Nat, (n : Int) * (wS (fld (fun i L => dF x n l (s + x i) L) k L) - wS L) = k * ((n : Int) * ((n : Int) ^ l * s) + l * (n : Int) ^ l * sX x n) + (n : Int) * (n : Int) ^ l * sX x k := fun k => by
      induction k with
      | zero => simp [fld, sX]
      | succ k ih =>
        have h := wS_dF x n l (s + x k) (fld (fun i L => dF x n l (s + x i) L) k L)
        rw [fld, sX]
        generalize wS (dF x n l (s + x k) (fld (fun i L => dF x n l (s + x i) L) k L)) = a at *
        generalize wS (fld (fun i L => dF x n l (s + x i) L) k L) = b at *
        generalize (n : Int) ^ l = p at *
        generalize sX x n = z at *
        generalize sX x k = y at *
        grind
    rw [dF, key n]
    generalize sX x n = z
    have : (n : Int) ^ (l + 1) = (n : Int) ^ l * n := Int.pow_succ _ _
    rw [this]
    generalize (n : Int) ^ l = p
    grind
/-- All draws: the sums times their counts. -/
theorem wS_all (x : Nat → Int) {n : Nat} (hn : 1 ≤ n) : wS (dF x n n 0 []) = (n : Int) ^ n * sX x n := by
  have h := wS_dF x n n 0 []
  rw [wS] at h
  generalize wS (dF x n n 0 []) = a at *
  generalize (n : Int) ^ n = p at *
  generalize sX x n = z at *
  have : (n : Int) * a = (n : Int) * (p * z) := by grind
  exact Int.eq_of_mul_eq_mul_left (by omega) this
theorem cP_mem {t : Int} : ∀ L : List (Int × Int), AscP L → (∀ c, (t, c) ∈ L → cP t L = c) ∧ ((∀ c, (t, c) ∉ L) → cP t L = 0)
  | [], _ => ⟨fun c h => by simp at h, fun _ => rfl⟩
  | p :: L, h => by
    obtain ⟨h3, h4⟩ := List.pairwise_cons.1 h.asc
    have ih := cP_mem (t := t) L ⟨h4, fun q hq => h.pos q (by simp [hq])⟩
    refine ⟨fun c hc => ?_, fun hno => ?_⟩
    · rcases List.mem_cons.1 hc with e | e
      · rw [cP, ← e, if_pos rfl]
        have : cP t L = 0 := cP_low L fun q hq => by have := h3 q hq; rw [← e] at this; exact this
        omega
      · have := h3 _ e
        have hlt : p.1 < t := this
        rw [cP, if_neg (by omega), ih.1 c e]
        omega
    · rw [cP, ih.2 fun c hc => hno c (by simp [hc]), if_neg fun e => hno p.2 (by rw [← e]; simp)]
      rfl
theorem cP_key {t : Int} {L : List (Int × Int)} (h : AscP L) : 1 ≤ cP t L ↔ t ∈ L.map Prod.fst := by
  constructor
  · intro h1
    refine Classical.byContradiction fun hn => ?_
    have := (cP_mem L h).2 fun c hc => hn (List.mem_map.2 ⟨_, hc, rfl⟩)
    omega
  · intro h1
    obtain ⟨p, hp, e⟩ := List.mem_map.1 h1
    have := (cP_mem (t := t) L h).1 p.2 (by rw [← e]; exact hp)
    have := h.pos p hp
    omega
theorem snd_cP {L : List (Int × Int)} (h : AscP L) : L.map Prod.snd = (L.map Prod.fst).map fun t => cP t L := by
  rw [List.map_map]
  exact List.map_congr_left fun p hp => ((cP_mem (t := p.1) L h).1 p.2 hp).symm
/-- Two rising lists of the same numbers are one. -/
theorem asc_eq : ∀ A B : List Int, A.Pairwise (· < ·) → B.Pairwise (· < ·) → (∀ t, t ∈ A ↔ t ∈ B) → A = B
  | [], [], _, _, _ => rfl
  | [], b :: B, _, _, h => by have := (h b).2 (by simp); simp at this
  | a :: A, [], _, _, h => by have := (h a).1 (by simp); simp at this
  | a :: A, b :: B, ha, hb, h => by
    obtain ⟨a1, a2⟩ := List.pairwise_cons.1 ha
    obtain ⟨b1, b2⟩ := List.pairwise_cons.1 hb
    have e : a = b := by
      have h1 := (h a).1 (by simp)
      have h2 := (h b).2 (by simp)
      rcases List.mem_cons.1 h1 with e | e
      · exact e
      · rcases List.mem_cons.1 h2 with e' | e'
        · exact e'.symm
        · have := a1 b e'; have := b1 a e; omega
    subst e
    rw [asc_eq A B a2 b2 fun t => ?_]
    have ht := h t
    constructor
    · intro hA
      rcases List.mem_cons.1 (ht.1 (by simp [hA])) with e | e
      · have := a1 t hA; omega
      · exact e
    · intro hB
      rcases List.mem_cons.1 (ht.2 (by simp [hB])) with e | e
      · have := b1 t hB; omega
      · exact e

/-! By their places. -/
def fS (L : List (Int × Int)) : List Int := L.map Prod.fst
def sS (L : List (Int × Int)) : List Int := L.map Prod.snd
theorem fS_length (L : List (Int × Int)) : (fS L).length = L.length := by simp [fS]
theorem sS_length (L : List (Int × Int)) : (sS L).length = L.length := by simp [sS]
theorem gi_cons0 (a : Int) (L : List Int) : gi (a :: L) 0 = a := rfl
theorem gi_consS (a : Int) (L : List Int) (k : Nat) : gi (a :: L) (k + 1) = gi L k := rfl
theorem insP_new {s : Int} : ∀ (L : List (Int × Int)) (k : Nat), k ≤ L.length → (∀ j, j < k → gi (fS L) j < s) → (k < L.length → s < gi (fS L) k) → insP s L = L.take k ++ (s, 1) :: L.drop k
  | [], k, hk, _, _ => by
    have : k = 0 := by simpa using hk
    subst this
    rfl
  | p :: L, 0, _, _, h => by
    have := h (by simp)
    have h1 : s < p.1 := this
    simp only [insP]
    rw [if_neg (by omega), if_neg (by omega)]
    rfl
  | p :: L, k + 1, hk, hj, h => by
    have h1 : p.1 < s := hj 0 (by omega)
    simp only [insP]
    rw [if_pos h1, insP_new L k (by simpa using hk) (fun j hj' => hj (j + 1) (by omega)) (fun h' => h (by simpa using h'))]
    rfl
theorem insP_old {s : Int} : ∀ (L : List (Int × Int)) (k : Nat), k < L.length → (∀ j, j < k → gi (fS L) j < s) → gi (fS L) k = s → fS (insP s L) = fS L ∧ sS (insP s L) = (sS L).set k (gi (sS L) k + 1)
  | [], k, hk, _, _ => by simp at hk
  | p :: L, 0, _, _, h => by
    have h1 : p.1 = s := h
    simp only [insP]
    rw [if_neg (by omega), if_pos h1]
    exact ⟨rfl, rfl⟩
  | p :: L, k + 1, hk, hj, h => by
    have h1 : p.1 < s := hj 0 (by omega)
    obtain ⟨a1, a2⟩ := insP_old L k (by simpa using hk) (fun j hj' => hj (j + 1) (by omega)) h
    simp only [insP]
    rw [if_pos h1]
    refine ⟨?_, ?_⟩
    · show p.1 :: fS (insP s L) = p.1 :: fS L
      rw [a1]
    · show p.2 :: sS (insP s L) = (p.2 :: sS L).set (k + 1) (gi (sS L) k + 1)
      rw [a2]
      rfl
theorem insP_len (s : Int) : ∀ L : List (Int × Int), L.length ≤ (insP s L).length ∧ (insP s L).length ≤ L.length + 1
  | [] => by simp [insP]
  | p :: L => by
    have := insP_len s L
    simp only [insP]
    split
    · simp only [List.length_cons]; omega
    · split <;> simp only [List.length_cons] <;> omega
theorem dF_len (x : Nat → Int) (n : Nat) : ∀ (l : Nat) (s : Int) (L : List (Int × Int)), L.length ≤ (dF x n l s L).length ∧ (dF x n l s L).length ≤ L.length + n ^ l
  | 0, s, L => by have := insP_len s L; rw [dF]; simpa using this
  | l + 1, s, L => by
    have key : ∀ k : Nat, L.length ≤ (fld (fun i L => dF x n l (s + x i) L) k L).length ∧ (fld (fun i L => dF x n l (s + x i) L) k L).length ≤ L.length + k * n ^ l := fun k => by
      induction k with
      | zero => simp [fld]
      | succ k ih =>
        have h := dF_len x n l (s + x k) (fld (fun i L => dF x n l (s + x i) L) k L)
        rw [fld, Nat.succ_mul]
        omega
    have := key n
    rw [dF, Nat.pow_succ, Nat.mul_comm (n ^ l) n]
    exact this

end Go.Proofs.Ytpcnjkgoehepaaa
