/- Rows of fractions in memory: tests, marks, the least and the greatest one. -/
import Derived.Test.YtfbccnameppikaaToInt
import Derived.Test.YtfbccnameppikaaSFrac
import Derived.Test.YtfbccnameppikaaSm
namespace Go.Proofs.Ytfbccnameppikaa
open Go.RowKit

/-- The cells of a list of fractions. -/
def fc : List Rat → List Value
  | [] => []
  | q :: r => .int .i64 (up q) :: .int .i64 (dn q) :: fc r
def gq (fs : List Rat) (k : Nat) : Rat := fs.getD k 0
theorem gq_eq {fs : List Rat} {k : Nat} (h : k < fs.length) : gq fs k = fs[k] := by unfold gq; simp [h]
theorem fc_length : ∀ fs : List Rat, (fc fs).length = fs.length * 2
  | [] => rfl
  | q :: r => by simp only [fc, List.length_cons, fc_length r]; omega
theorem get_fc0 : ∀ {fs : List Rat} {k : Nat}, k < fs.length → (fc fs)[k * 2]? = some (.int .i64 (up (gq fs k)))
  | [], _, h => absurd h (Nat.not_lt_zero _)
  | q :: r, 0, _ => rfl
  | q :: r, k + 1, h => by
    have := get_fc0 (fs := r) (k := k) (by simpa using h)
    rw [show (k + 1) * 2 = k * 2 + 1 + 1 from by omega]
    simp only [fc, List.getElem?_cons_succ, this]
    rfl
theorem get_fc1 : ∀ {fs : List Rat} {k : Nat}, k < fs.length → (fc fs)[k * 2 + 1]? = some (.int .i64 (dn (gq fs k)))
  | [], _, h => absurd h (Nat.not_lt_zero _)
  | q :: r, 0, _ => rfl
  | q :: r, k + 1, h => by
    have := get_fc1 (fs := r) (k := k) (by simpa using h)
    rw [show (k + 1) * 2 + 1 = k * 2 + 1 + 1 + 1 from by omega]
    simp only [fc, List.getElem?_cons_succ, this]
    rfl
theorem fc_append (fs : List Rat) (q : Rat) : fc fs ++ [.int .i64 (up q), .int .i64 (dn q)] = fc (fs ++ [q]) := by
  induction fs with
  | nil => rfl
  | cons a r ih => simp only [fc, List.cons_append, ih]
theorem Blk.f0 {w : World} {g : Nat} {fs : List Rat} {k : Nat} (h : Blk w g 27 (fc fs)) (hk : k < fs.length) : w.cell? ⟨g, k * 2, none⟩ = some (.int .i64 (up (gq fs k))) := h.cell (get_fc0 hk)
theorem Blk.f1 {w : World} {g : Nat} {fs : List Rat} {k : Nat} (h : Blk w g 27 (fc fs)) (hk : k < fs.length) : w.cell? ⟨g, k * 2 + 1, none⟩ = some (.int .i64 (dn (gq fs k))) := h.cell (get_fc1 hk)

theorem infoF : (Try.prog.info? 27).map (fun i => (i.zero, i.size, i.bytes)) = some (some (.agg #[.int .i64 0, .int .i64 0]), 2, 16) := by kernel_rfl



/-- Marks: numbers from m on. -/
def mk (m : Int) (n : Nat) : List Value := (List.range n).map fun j : Nat => .int .i64 (m + (j : Int))
theorem mk_length (m : Int) (n : Nat) : (mk m n).length = n := by simp [mk]
theorem get_mk {m : Int} {n j : Nat} (h : j < n) : (mk m n)[j]? = some (.int .i64 (m + j)) := by simp [mk, h]
theorem eq_mk {cs : List Value} {m : Int} {n : Nat} (h1 : cs.length = n) (h2 : ∀ j, j < n → cs[j]? = (mk m n)[j]?) : cs = mk m n := by
  apply List.ext_getElem?
  intro j
  by_cases hj : j < n
  · exact h2 j hj
  · rw [List.getElem?_eq_none (by omega), List.getElem?_eq_none (by rw [mk_length]; omega)]



end Go.Proofs.Ytfbccnameppikaa
