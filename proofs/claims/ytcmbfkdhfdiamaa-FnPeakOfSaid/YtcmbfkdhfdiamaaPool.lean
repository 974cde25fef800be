/- Blocks whose means rise: the plain reckoning. No program here. -/
import Derived.Test.YtcmbfkdhfdiamaaMean
namespace Go.Proofs.Ytcmbfkdhfdiamaa
open Go.RowKit

/-- Of a row of first indices, the last one first: joined as long as the means do not rise. -/
def popR (xs ws : List Int) (i : Nat) : List Nat → List Nat
  | a :: b :: r => if mq xs ws b (a - 1) < mq xs ws a i then a :: b :: r else popR xs ws i (b :: r)
  | s => s
def poolR (xs ws : List Int) : Nat → List Nat
  | 0 => []
  | n + 1 => popR xs ws n (n :: poolR xs ws n)

def Dec : Nat → List Nat → Prop
  | _, [] => True
  | i, a :: r => a ≤ i ∧ (r = [] ∨ 1 ≤ a) ∧ Dec (a - 1) r
theorem Dec.mono {i j : Nat} (h : i ≤ j) : ∀ {R : List Nat}, Dec i R → Dec j R
  | [], _ => trivial
  | _ :: _, hd => ⟨Nat.le_trans hd.1 h, hd.2⟩
theorem popR_dec {xs ws : List Int} {i : Nat} : ∀ {R : List Nat}, Dec i R → Dec i (popR xs ws i R)
  | [], h => h
  | [a], h => h
  | a :: b :: r, h => by
    unfold popR
    split
    · exact h
    · exact popR_dec (R := b :: r) (h.2.2.mono (by have := h.1; omega))
theorem popR_ne {xs ws : List Int} {i : Nat} : ∀ {R : List Nat}, R ≠ [] → popR xs ws i R ≠ []
  | [], h => h
  | [a], h => h
  | a :: b :: r, h => by
    unfold popR
    split
    · exact h
    · exact popR_ne (R := b :: r) (by simp)
theorem poolR_dec (xs ws : List Int) : ∀ n, Dec (n - 1) (poolR xs ws n)
  | 0 => trivial
  | n + 1 => by
    have ih := poolR_dec xs ws n
    refine popR_dec ⟨by omega, ?_, ih⟩
    cases n with
    | zero => exact Or.inl rfl
    | succ n => exact Or.inr (by omega)
theorem poolR_ne (xs ws : List Int) (n : Nat) : poolR xs ws (n + 1) ≠ [] := popR_ne (by simp)
theorem popR_length {xs ws : List Int} {i : Nat} : ∀ {R : List Nat}, (popR xs ws i R).length ≤ R.length
  | [] => Nat.le_refl _
  | [a] => Nat.le_refl _
  | a :: b :: r => by
    unfold popR
    split
    · exact Nat.le_refl _
    · exact Nat.le_trans (popR_length (R := b :: r)) (by simp)
theorem poolR_length (xs ws : List Int) : ∀ n, (poolR xs ws n).length ≤ n
  | 0 => Nat.le_refl _
  | n + 1 => Nat.le_trans popR_length (by have := poolR_length xs ws n; simpa using this)

/-- The row in memory, the first one first. -/
def lst (R : List Nat) : List Int := R.reverse.map Int.ofNat
theorem lst_cons (a : Nat) (r : List Nat) : lst (a :: r) = lst r ++ [(a : Int)] := by simp [lst]
theorem lst_length (R : List Nat) : (lst R).length = R.length := by simp [lst]
theorem gi_lst (a : Nat) (r : List Nat) : gi (lst (a :: r)) r.length = a := by
  rw [lst_cons, ← lst_length r]
  exact gi_append_eq
theorem gi_lst2 (a b : Nat) (r : List Nat) : gi (lst (a :: b :: r)) r.length = b := by
  rw [lst_cons, gi_append_lt (by rw [lst_length]; simp)]
  exact gi_lst b r

end Go.Proofs.Ytcmbfkdhfdiamaa
