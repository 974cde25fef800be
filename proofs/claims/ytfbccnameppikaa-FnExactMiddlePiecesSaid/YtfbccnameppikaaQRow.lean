/- Rows of fractions in memory of which some are known. -/
import Derived.Test.YtfbccnameppikaaFRow
import Derived.Test.YtfbccnameppikaaBlk2
import Derived.Test.YtfbccnameppikaaMisP
namespace Go.Proofs.Ytfbccnameppikaa
open Go.RowKit

/-- A row of m fractions; those that f tells. -/
def RowQ (w : World) (g m : Nat) (f : Nat → Option Rat) : Prop :=
  ∃ cs : List Value, cs.length = m * 2 ∧ Blk w g 27 cs ∧ ∀ k q, k < m → f k = some q → cs[k * 2]? = some (.int .i64 (up q)) ∧ cs[k * 2 + 1]? = some (.int .i64 (dn q))
theorem RowQ.lt {w : World} {g m : Nat} {f : Nat → Option Rat} (h : RowQ w g m f) : g < w.heap.size := by
  obtain ⟨cs, _, h2, _⟩ := h
  exact h2.lt
theorem RowQ.below {w w' : World} {g m : Nat} {f : Nat → Option Rat} (h : RowQ w g m f) (hb : Below w.heap.size w w') : RowQ w' g m f := by
  obtain ⟨cs, h1, h2, h3⟩ := h
  exact ⟨cs, h1, h2.below hb, h3⟩
theorem RowQ.grown {w w' : World} {g m g' : Nat} {f : Nat → Option Rat} (h : RowQ w g m f) (hb : w.grownBy w' (some g')) (hne : g ≠ g') : RowQ w' g m f := by
  obtain ⟨cs, h1, h2, h3⟩ := h
  exact ⟨cs, h1, h2.grown hb hne, h3⟩
theorem RowQ.other {w : World} {g m : Nat} {f : Nat → Option Rat} (h : RowQ w g m f) {a : Addr} {v : Value} (ha : a.block ≠ g) : RowQ (w.setCell a v) g m f := by
  obtain ⟨cs, h1, h2, h3⟩ := h
  exact ⟨cs, h1, h2.other v ha, h3⟩
theorem RowQ.weak {w : World} {g m : Nat} {f f' : Nat → Option Rat} (h : RowQ w g m f) (hf : ∀ k q, k < m → f' k = some q → f k = some q) : RowQ w g m f' := by
  obtain ⟨cs, h1, h2, h3⟩ := h
  exact ⟨cs, h1, h2, fun k q hk hq => h3 k q hk (hf k q hk hq)⟩
/-- What a known one's cells hold; and that each one has cells that can be written. -/
theorem RowQ.cell {w : World} {g m : Nat} {f : Nat → Option Rat} (h : RowQ w g m f) {k : Nat} {q : Rat} (hk : k < m) (hq : f k = some q) :
    w.cell? ⟨g, k * 2, none⟩ = some (.int .i64 (up q)) ∧ w.cell? ⟨g, k * 2 + 1, none⟩ = some (.int .i64 (dn q)) := by
  obtain ⟨cs, h1, h2, h3⟩ := h
  exact ⟨h2.cell (h3 k q hk hq).1, h2.cell (h3 k q hk hq).2⟩
theorem RowQ.anyc {w : World} {g m : Nat} {f : Nat → Option Rat} (h : RowQ w g m f) {k : Nat} (hk : k < m) :
    ∃ u v, w.cell? ⟨g, k * 2, none⟩ = some u ∧ w.cell? ⟨g, k * 2 + 1, none⟩ = some v ∧ w.frozen? ⟨g, k * 2, none⟩ = false ∧ w.frozen? ⟨g, k * 2 + 1, none⟩ = false := by
  obtain ⟨cs, h1, h2, h3⟩ := h
  exact ⟨_, _, h2.cell (List.getElem?_eq_getElem (show k * 2 < cs.length by omega)), h2.cell (List.getElem?_eq_getElem (show k * 2 + 1 < cs.length by omega)), h2.frozen _, h2.frozen _⟩
theorem RowQ.set {w : World} {g m : Nat} {f f' : Nat → Option Rat} (h : RowQ w g m f) {k : Nat} (hk : k < m) (q : Rat) (hf : ∀ j p, j < m → f' j = some p → (j = k ∧ p = q) ∨ (j ≠ k ∧ f j = some p)) :
    RowQ ((w.setCell ⟨g, k * 2, none⟩ (.int .i64 (up q))).setCell ⟨g, k * 2 + 1, none⟩ (.int .i64 (dn q))) g m f' := by
  obtain ⟨cs, h1, h2, h3⟩ := h
  refine ⟨(cs.set (k * 2) (.int .i64 (up q))).set (k * 2 + 1) (.int .i64 (dn q)), by rw [List.length_set, List.length_set]; exact h1, (h2.set _ _).set _ _, fun j p hj hp => ?_⟩
  rcases hf j p hj hp with ⟨rfl, rfl⟩ | ⟨hne, hp⟩
  · constructor
    · rw [List.getElem?_set_ne (by omega), List.getElem?_set_self (by omega)]
    · rw [List.getElem?_set_self (by rw [List.length_set]; omega)]
  · have := h3 j p hj hp
    constructor
    · rw [List.getElem?_set_ne (by omega), List.getElem?_set_ne (by omega)]; exact this.1
    · rw [List.getElem?_set_ne (by omega), List.getElem?_set_ne (by omega)]; exact this.2
theorem RowQ.of_blk {w : World} {g m : Nat} {cs : List Value} (h : Blk w g 27 cs) (hl : cs.length = m * 2) : RowQ w g m (fun _ => none) := ⟨cs, hl, h, fun _ _ _ h => by cases h⟩

theorem lcN_pq {c : List Int → Rat} (hc : GoodC c) {xs : List Int} (h8 : xs.length ≤ 8) (h30 : In30 xs) {p e : Nat} (h1 : p + 1 ≤ e) (h2 : e ≤ xs.length) : Pq 6048000 (lcN c xs p e) :=
  (lcN_least c xs p e h1 h2).pq hc (by rw [List.length_take]; omega) (h30.take e)
theorem sum_pq {c : List Int → Rat} (hc : GoodC c) {xs : List Int} (h8 : xs.length ≤ 8) (h30 : In30 xs) {p a e : Nat} (h1 : p + 1 ≤ a) (h2 : a < e) (h3 : e ≤ xs.length) : Pq 6048000 (lcN c xs p a + c (pc xs a e)) := by
  obtain ⟨M, g1, g2, g3⟩ := (lcN_least c xs p a h1 (by omega)).got
  have := (g1.snoc (pc_ne h3 h2) (take_pc (by omega))).pq hc (by rw [List.length_take]; omega) (h30.take e)
  rwa [cSum_append, cSum_one, g3] at this
theorem lcD_pq {c : List Int → Rat} (hc : GoodC c) {xs : List Int} (h8 : xs.length ≤ 8) (h30 : In30 xs) {p e d : Nat} (h1 : p + 1 + d < e) (h2 : e ≤ xs.length) : Pq 6048000 (lcD c xs (lcN c xs p) (p + 1) e d) := by
  obtain ⟨a, h3, h4, h5⟩ := lcD_or c xs (lcN c xs p) (p + 1) e d
  rw [h5]
  exact sum_pq hc h8 h30 h3 (by omega) h2
theorem pc_pq {c : List Int → Rat} (hc : GoodC c) {xs : List Int} {i k : Nat} (hik : i < k) (hk : k ≤ xs.length) (h8 : xs.length ≤ 8) (h30 : In30 xs) : Pq 6048000 (c (pc xs i k)) := by
  have := pc_length (a := i) hk
  exact (hc _ (pc_ne hk hik) (by omega) (h30.pc i k)).mono (by omega)

end Go.Proofs.Ytfbccnameppikaa
