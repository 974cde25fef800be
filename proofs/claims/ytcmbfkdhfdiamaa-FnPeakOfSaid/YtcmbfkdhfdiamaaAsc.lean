/- Blocks in the order of the row: where each begins and ends. No program here. -/
import Derived.Test.YtcmbfkdhfdiamaaSPool
import Derived.Test.YtcmbfkdhfdiamaaOwnF
namespace Go.Proofs.Ytcmbfkdhfdiamaa
open Go.RowKit

/-- The i-th one of a row that lies with its last one first. -/
def bd (L : List Nat) (i : Nat) : Nat := L.reverse.getD i 0
theorem gi_bd {L : List Nat} {i : Nat} (h : i < L.length) : gi (lst L) i = bd L i := by
  unfold gi lst bd
  simp [h]
theorem bd_cons_lt {a : Nat} {L : List Nat} {i : Nat} (h : i < L.length) : bd (a :: L) i = bd L i := by
  unfold bd
  simp [List.getElem?_append, h]
theorem bd_cons_eq {a : Nat} {L : List Nat} : bd (a :: L) L.length = a := by
  unfold bd
  simp

/-- The block of an index: where it begins and where the next one begins. -/
def blkOf : List Nat → Nat → Nat → Nat × Nat
  | [], e, _ => (0, e)
  | a :: R, e, j => if a ≤ j then (a, e) else blkOf R a j

theorem bd_le : ∀ {R : List Nat} {e : Nat}, Dec e R → ∀ i, i < R.length → bd R i ≤ e
  | [], _, _, i, h => absurd h (Nat.not_lt_zero _)
  | a :: R, e, hd, i, h => by
    by_cases hi : i < R.length
    · rw [bd_cons_lt hi]
      exact Nat.le_trans (bd_le hd.2.2 i hi) (Nat.le_trans (Nat.sub_le _ _) hd.1)
    · have : i = R.length := by simp at h; omega
      subst this
      rw [bd_cons_eq]
      exact hd.1
theorem bd_up : ∀ {R : List Nat} {e : Nat}, Dec (e - 1) R → (R = [] ∨ 1 ≤ e) → ∀ i, i < R.length → bd (e :: R) i < bd (e :: R) (i + 1)
  | [], _, _, _, i, h => absurd h (Nat.not_lt_zero _)
  | a :: R, e, hd, he, i, h => by
    have he1 : 1 ≤ e := by rcases he with h | h; (· cases h); exact h
    by_cases hi : i < R.length
    · rw [bd_cons_lt h, bd_cons_lt (show i + 1 < (a :: R).length by simp; omega)]
      exact bd_up hd.2.2 hd.2.1 i hi
    · have : i = R.length := by simp at h; omega
      subst this
      rw [bd_cons_lt h, bd_cons_eq, show R.length + 1 = (a :: R).length from rfl, bd_cons_eq]
      have := hd.1
      omega
theorem bd_bound {R : List Nat} {e : Nat} (hd : Dec (e - 1) R) (i : Nat) (hi : i ≤ R.length) : bd (e :: R) i ≤ e := by
  by_cases h : i < R.length
  · rw [bd_cons_lt h]
    exact Nat.le_trans (bd_le hd i h) (Nat.sub_le _ _)
  · have : i = R.length := by omega
    subst this
    rw [bd_cons_eq]
    exact Nat.le_refl _
theorem blkOf_eq : ∀ {R : List Nat} {e : Nat}, Dec (e - 1) R → ∀ i j, i < R.length → bd (e :: R) i ≤ j → j < bd (e :: R) (i + 1) → blkOf R e j = (bd (e :: R) i, bd (e :: R) (i + 1))
  | [], _, _, i, _, h, _, _ => absurd h (Nat.not_lt_zero _)
  | a :: R, e, hd, i, j, h, h1, h2 => by
    by_cases hi : i < R.length
    · rw [bd_cons_lt h] at h1 ⊢
      rw [bd_cons_lt (show i + 1 < (a :: R).length by simp; omega)] at h2 ⊢
      have h3 := bd_bound (e := a) hd.2.2 (i + 1) (by omega)
      unfold blkOf
      rw [if_neg (by omega)]
      exact blkOf_eq hd.2.2 i j hi h1 h2
    · have : i = R.length := by simp at h; omega
      subst this
      rw [bd_cons_lt h, bd_cons_eq, show R.length + 1 = (a :: R).length from rfl, bd_cons_eq] at *
      unfold blkOf
      rw [if_pos h1]

theorem popR_last {xs ws : List Int} {i : Nat} : ∀ {R : List Nat}, bd (popR xs ws i R) 0 = bd R 0
  | [] => rfl
  | [a] => rfl
  | a :: b :: r => by
    unfold popR
    split
    · rfl
    · rw [popR_last (R := b :: r)]; exact (bd_cons_lt (a := a) (L := b :: r) (i := 0) (by simp)).symm
theorem poolR_last (xs ws : List Int) : ∀ n, bd (poolR xs ws n) 0 = 0
  | 0 => rfl
  | n + 1 => by
    show bd (popR xs ws n (n :: poolR xs ws n)) 0 = 0
    rw [popR_last]
    cases n with
    | zero => rfl
    | succ n =>
      rw [bd_cons_lt]
      · exact poolR_last xs ws (n + 1)
      · exact List.length_pos_iff.2 (poolR_ne xs ws n)

/-- The means of the blocks, for each index. -/
def bmq (xs ws : List Int) (R : List Nat) (j : Nat) : Rat := mq xs ws (blkOf R xs.length j).1 ((blkOf R xs.length j).2 - 1)
theorem bmq_eq {xs ws : List Int} {R : List Nat} (hd : Dec (xs.length - 1) R) {i j : Nat} (hi : i < R.length) (h1 : bd (xs.length :: R) i ≤ j) (h2 : j < bd (xs.length :: R) (i + 1)) :
    bmq xs ws R j = mq xs ws (bd (xs.length :: R) i) (bd (xs.length :: R) (i + 1) - 1) := by
  unfold bmq
  rw [blkOf_eq hd i j hi h1 h2]
theorem poolR_dec1 {xs ws : List Int} : Dec (xs.length - 1) (poolR xs ws xs.length) := poolR_dec xs ws xs.length
theorem poolR_first {xs ws : List Int} (h : 1 ≤ xs.length) : bd (xs.length :: poolR xs ws xs.length) 0 = 0 := by
  obtain ⟨n, hn⟩ : ∃ n, xs.length = n + 1 := ⟨xs.length - 1, by omega⟩
  rw [bd_cons_lt (by rw [hn]; exact List.length_pos_iff.2 (poolR_ne xs ws n))]
  exact poolR_last xs ws _
def rbb (xs ws : List Int) : List Rat := tab (bmq xs ws (poolR xs ws xs.length)) xs.length

end Go.Proofs.Ytcmbfkdhfdiamaa
