/- The blocks' means rise; the plain reckoning. No program here. -/
import Derived.Test.YtcmbfkdhfdiamaaAsc
import Derived.Test.YtcmbfkdhfdiamaaSmall
namespace Go.Proofs.Ytcmbfkdhfdiamaa
open Go.RowKit

/-- The means of the blocks (the last one first, up to the end e) rise strictly. -/
def Inc (xs ws : List Int) : List Nat → Nat → Prop
  | a :: b :: r, e => mq xs ws b (a - 1) < mq xs ws a (e - 1) ∧ Inc xs ws (b :: r) a
  | _, _ => True
def IncT (xs ws : List Int) : List Nat → Prop
  | a :: r => Inc xs ws r a
  | [] => True
theorem popR_inc {xs ws : List Int} {i : Nat} : ∀ {R : List Nat}, IncT xs ws R → Inc xs ws (popR xs ws i R) (i + 1)
  | [], _ => trivial
  | [a], _ => trivial
  | a :: b :: r, h => by
    unfold popR
    split
    · rename_i hlt
      exact ⟨hlt, h⟩
    · refine popR_inc (R := b :: r) ?_
      cases r with
      | nil => exact trivial
      | cons c r => exact h.2
theorem poolR_inc (xs ws : List Int) : ∀ n, Inc xs ws (poolR xs ws n) n
  | 0 => trivial
  | n + 1 => popR_inc (R := n :: poolR xs ws n) (poolR_inc xs ws n)
theorem Inc.at {xs ws : List Int} : ∀ {R : List Nat} {e : Nat}, Inc xs ws R e → ∀ i, i + 1 < R.length →
    mq xs ws (bd (e :: R) i) (bd (e :: R) (i + 1) - 1) < mq xs ws (bd (e :: R) (i + 1)) (bd (e :: R) (i + 2) - 1)
  | [], _, _, i, h => absurd h (Nat.not_lt_zero _)
  | [a], _, _, i, h => absurd h (by simp)
  | a :: b :: r, e, hI, i, h => by
    by_cases hi : i + 1 < (b :: r).length
    · have ih := Inc.at hI.2 i hi
      rw [bd_cons_lt (a := e) (L := a :: b :: r) (i := i) (by simp at h ⊢; omega), bd_cons_lt (a := e) (L := a :: b :: r) (i := i + 1) (by simp at h ⊢; omega), bd_cons_lt (a := e) (L := a :: b :: r) (i := i + 2) (by simp at h hi ⊢; omega)]
      exact ih
    · have hr : i = r.length := by simp at h hi; omega
      subst hr
      have e0 : bd (e :: a :: b :: r) r.length = b := by
        rw [bd_cons_lt (by simp; omega), bd_cons_lt (by simp), bd_cons_eq]
      have e1 : bd (e :: a :: b :: r) (r.length + 1) = a := by
        rw [bd_cons_lt (by simp)]
        exact bd_cons_eq (a := a) (L := b :: r)
      have e2 : bd (e :: a :: b :: r) (r.length + 2) = e := bd_cons_eq (a := e) (L := a :: b :: r)
      rw [e0, e1, e2]
      exact hI.1

theorem mq_one {xs ws : List Int} (hv : Vl xs ws) {k : Nat} (hk : k < xs.length) : mq xs ws k k = (gi xs k : Rat) := by
  have hw := hv.w k hk
  unfold mq
  rw [show k + 1 - k = 1 from by omega]
  simp only [wsum, dsum, Nat.add_zero, Int.zero_add]
  have hw0 : (gi ws k : Rat) ≠ 0 := fun e => by have := Rat.intCast_eq_zero_iff.1 e; omega
  unfold qd
  rw [Rat.divInt_eq_div, Rat.intCast_mul]
  grind

/-- n first indices, the last one first. -/
def cnt : Nat → List Nat
  | 0 => []
  | n + 1 => n :: cnt n
theorem cnt_length : ∀ n, (cnt n).length = n
  | 0 => rfl
  | n + 1 => by simp [cnt, cnt_length n]
theorem poolR_asc {xs ws : List Int} (hv : Vl xs ws) (ha : Asc xs xs.length) : ∀ n, n ≤ xs.length → poolR xs ws n = cnt n
  | 0, _ => rfl
  | 1, _ => rfl
  | n + 2, hn => by
    have ih := poolR_asc hv ha (n + 1) (by omega)
    show popR xs ws (n + 1) ((n + 1) :: poolR xs ws (n + 1)) = _
    rw [ih]
    show popR xs ws (n + 1) ((n + 1) :: n :: cnt n) = (n + 1) :: n :: cnt n
    rw [popR, if_pos]
    rw [show n + 1 - 1 = n from rfl, mq_one hv (by omega), mq_one hv (by omega)]
    exact Rat.intCast_lt_intCast.2 (ha n (by omega))

theorem bd_asc {R : List Nat} {e : Nat} (hd : Dec (e - 1) R) (he : R = [] ∨ 1 ≤ e) : Asc (lst R) R.length := by
  intro k hk
  rw [gi_bd (by omega), gi_bd hk, ← bd_cons_lt (a := e) (by omega), ← bd_cons_lt (a := e) hk]
  have := bd_up hd he k (by omega)
  omega

end Go.Proofs.Ytcmbfkdhfdiamaa
