/- spec.rowsFrom: walked. -/
import Derived.Test.YtpcnjkgoehepaaaTabQ
import Derived.Test.YtpcnjkgoehepaaaTabG
import Derived.Maps.AppendAt
namespace Go.Proofs.Ytpcnjkgoehepaaa
open Go.RowKit

theorem infoSS : (Try.prog.info? 23).map (fun i => (i.zero, i.size, i.bytes)) = some (some (.slice none 0 0), 1, 24) := by kernel_rfl
theorem own_one {w : World} {base g : Nat} {e : TypeId} (x : Value) (hg : w.heap.size = g) (hb : base ≤ g) : (w.alloc (.cells #[x] e)).ownsRow base e 1 (.slice (some ⟨g, 0, none⟩) 1 1) 1 [x] := by
  subst hg
  exact ⟨by simp, .inr ⟨w.heap.size, 1, #[x], rfl, hb, heap_alloc_new w _, Nat.le_refl _, by unfold maxLen; omega, rfl, rfl⟩⟩
theorem own_belowM {w w' : World} {base n : Nat} {e : TypeId} {size : Nat} {v : Value} {xs : List Value} (h : w.ownsRow base e size v n xs) (hb : Below w.heap.size w w') : w'.ownsRow base e size v n xs :=
  World.ownsRow.kept h (row := none) ⟨hb.os, hb.tape, hb.output, hb.size, fun k hk _ => hb.block k hk⟩ (by cases hv : v.ownBlock <;> simp)
/-- Rows of n numbers that the call has made. -/
def RM (w : World) (base g c n : Nat) (rows : List (List Nat)) : Prop :=
  ∃ cs, w.ownsRow base 23 1 (.slice (some ⟨g, 0, none⟩) rows.length c) rows.length cs ∧
    ∀ (j : Nat) (r : List Nat), rows[j]? = some r → r.length = n ∧ ∃ h ch, cs[j]? = some (.slice (some ⟨h, 0, none⟩) n ch) ∧ base ≤ h ∧ h ≠ g ∧ RowI w h 0 (iN r)
theorem RM.base {w : World} {base g c n : Nat} {rows : List (List Nat)} (h : RM w base g c n rows) : base ≤ g ∧ g < w.heap.size := by
  obtain ⟨cs, h1, _⟩ := h
  exact ⟨(Blk.of_own h1).2, (Blk.of_own h1).1.lt⟩
theorem RM.nil (w : World) (base n : Nat) (hb : base ≤ w.heap.size) : RM (w.alloc (.cells #[] 23)) base w.heap.size 0 n [] :=
  ⟨[], World.ownsRow_made w #[] 0 hb (by unfold maxLen; omega) rfl, fun j r hr => by simp at hr⟩
theorem RM.mono {w : World} {base base' g c n : Nat} {rows : List (List Nat)} (h : RM w base g c n rows) (hb : base' ≤ base) : RM w base' g c n rows := by
  obtain ⟨cs, h1, h2⟩ := h
  refine ⟨cs, ⟨h1.1, ?_⟩, fun j r hr => ?_⟩
  · rcases h1.2 with h | ⟨g', cap, cur, a1, a2, a3⟩
    · exact .inl h
    · exact .inr ⟨g', cap, cur, a1, Nat.le_trans hb a2, a3⟩
  · obtain ⟨a1, q, ch, a2, a3, a4, a5⟩ := h2 j r hr
    exact ⟨a1, q, ch, a2, Nat.le_trans hb a3, a4, a5⟩
theorem RM.at' {w : World} {base g c n : Nat} {rows : List (List Nat)} (h : RM w base g c n rows) {j : Nat} {r : List Nat} (hj : rows[j]? = some r) :
    r.length = n ∧ ∃ q ch, w.cell? ⟨g, j, none⟩ = some (.slice (some ⟨q, 0, none⟩) n ch) ∧ base ≤ q ∧ q < w.heap.size ∧ RowI w q 0 (iN r) := by
  obtain ⟨cs, h1, h2⟩ := h
  obtain ⟨a1, q, ch, a2, a3, _, a5⟩ := h2 j r hj
  exact ⟨a1, q, ch, (Blk.of_own h1).1.cell a2, a3, a5.blk, a5⟩
theorem RowI.of_eq {w w' : World} {b o : Nat} {xs : List Int} (h : RowI w b o xs) (hs : w.heap.size ≤ w'.heap.size) (e : w'.heap[b]? = w.heap[b]?) : RowI w' b o xs :=
  ⟨Nat.lt_of_lt_of_le h.blk hs, fun k hk => (World.cell?_of_block (a := ⟨b, o + k, none⟩) e).trans (h.cell k hk)⟩
theorem RowI.grownM {w w' : World} {b o g : Nat} {xs : List Int} (h : RowI w b o xs) (hb : w.grownBy w' (some g)) (hne : b ≠ g) : RowI w' b o xs :=
  h.of_eq hb.size (hb.block b h.blk (fun e => hne (Option.some.inj e)))
theorem RM.below {w w' : World} {base g c n : Nat} {rows : List (List Nat)} (h : RM w base g c n rows) (hb : Below w.heap.size w w') : RM w' base g c n rows := by
  obtain ⟨cs, h1, h2⟩ := h
  refine ⟨cs, own_belowM h1 hb, fun j r hr => ?_⟩
  obtain ⟨a1, q, ch, a2, a3, a4, a5⟩ := h2 j r hr
  exact ⟨a1, q, ch, a2, a3, a4, a5.below hb⟩
/-- One row more. -/
theorem RM.app {w wc w' : World} {base g n g' cap h ch : Nat} {rows : List (List Nat)} {r : List Nat} (hw : Below w.heap.size w wc) (hb : base ≤ h) (hne : h ≠ g) (hl : r.length = n) (hx : RowI wc h 0 (iN r)) {cs : List Value} (hcl : cs.length = rows.length)
    (hcs : ∀ (j : Nat) (r : List Nat), rows[j]? = some r → r.length = n ∧ ∃ h ch, cs[j]? = some (.slice (some ⟨h, 0, none⟩) n ch) ∧ base ≤ h ∧ h ≠ g ∧ RowI w h 0 (iN r))
    (o1 : w'.ownsRow base 23 1 (.slice (some ⟨g', 0, none⟩) (rows.length + 1) cap) (rows.length + 1) (cs ++ [.slice (some ⟨h, 0, none⟩) n ch])) (o2 : wc.grownBy w' (some g)) (o3 : some g = some g' ∨ wc.heap.size ≤ g') : RM w' base g' cap n (rows ++ [r]) := by
  have hne' : ∀ q, q < wc.heap.size → q ≠ g → q ≠ g' := by
    intro q hq h1
    rcases o3 with e | e
    · have := Option.some.inj e; omega
    · omega
  refine ⟨_, by rw [List.length_append, List.length_singleton]; exact o1, fun j s hj => ?_⟩
  rw [List.getElem?_append] at hj
  split at hj
  · rename_i hjl
    obtain ⟨a1, q, c, a2, a3, a4, a5⟩ := hcs j s hj
    have a6 := a5.below hw
    exact ⟨a1, q, c, by rw [List.getElem?_append_left (by omega)]; exact a2, a3, hne' q a6.blk a4, a6.grownM o2 a4⟩
  · rename_i hjl
    have hq : j - rows.length = 0 := by
      cases hq : j - rows.length with
      | zero => rfl
      | succ m => rw [hq] at hj; simp at hj
    rw [hq] at hj
    simp at hj
    subst hj
    have e : j = cs.length := by omega
    refine ⟨hl, h, ch, ?_, hb, hne' h hx.blk hne, hx.grownM o2 hne⟩
    rw [e, List.getElem?_append_right (Nat.le_refl _), Nat.sub_self]
    rfl

theorem enF_nil {f : Nat → List (List Nat)} : ∀ n, (∀ v, v < n → f v = []) → enF f n = []
  | 0, _ => rfl
  | n + 1, h => by rw [enF, enF_nil n fun v hv => h v (by omega), h n (by omega)]; rfl
/-- One column. -/
theorem en_one (t c : Nat) : en t [c] = if t ≤ c then [[t]] else [] := by
  rw [en]
  by_cases h : t ≤ c
  · rw [if_pos h, show min t c + 1 = t + 1 by omega, enF, enF_nil t fun v hv => by rw [en, if_neg (by omega)], Nat.sub_self, en, if_pos rfl]
    rfl
  · rw [if_neg h]
    exact enF_nil _ fun v hv => by rw [en, if_neg (by omega)]
theorem enF_count {f : Nat → List (List Nat)} {b : Nat} : ∀ n, (∀ v, v < n → (f v).length ≤ b) → (enF f n).length ≤ n * b
  | 0, _ => by simp [enF]
  | n + 1, h => by
    have h1 := enF_count n fun v hv => h v (by omega)
    have h2 := h n (by omega)
    rw [enF, List.length_append, List.length_map, Nat.add_mul, Nat.one_mul]
    omega
theorem en_count : ∀ (cols : List Nat) (t : Nat), (∀ x ∈ cols, x ≤ 100) → (en t cols).length ≤ 101 ^ cols.length
  | [], t, _ => by rw [en]; split <;> simp
  | c :: L, t, h => by
    have h1 := enF_count (f := fun v => en (t - v) L) (b := 101 ^ L.length) (min t c + 1) fun v _ => en_count L (t - v) fun x hx => h x (by simp [hx])
    rw [en, List.length_cons, Nat.pow_succ, Nat.mul_comm]
    have hc := h c (by simp)
    exact Nat.le_trans h1 (Nat.mul_le_mul_right _ (by omega))
theorem en_few {cols : List Nat} (t : Nat) (hl : cols.length ≤ 3) (h : ∀ x ∈ cols, x ≤ 100) : (en t cols).length ≤ 1030301 :=
  Nat.le_trans (en_count cols t h) (Nat.pow_le_pow_right (n := 101) (by omega) hl)

set_option maxHeartbeats 4000000 in
set_option maxRecDepth 100000 in
theorem rowsFrom_one (d t b o c : Nat) (w : World) (hr : RowI w b o (iN [d])) (_ : t ≤ 100) (_ : d ≤ 100) (_ : 1 ≤ c) :
    Calls Try.prog 44 #[.slice (some ⟨b, o, none⟩) 1 c, .int .i64 t] w fun e w' => ∃ g cg, e = .returned (.slice (some ⟨g, 0, none⟩) (en t [d]).length cg) ∧ RM w' w.heap.size g cg 1 (en t [d]) ∧ Below w.heap.size w w' := by
  have c0 := hr.cell 0 (by rw [iN_length]; simp)
  rw [gi_iN, Nat.add_zero] at c0
  have e0 : [d].getD 0 0 = d := rfl
  rw [e0] at c0
  clear hr e0
  by_cases h : t ≤ d
  · rw [en_one, if_pos h]
    have h' : (t : Int) ≤ (d : Int) := by omega
    go_enter Try.func44, Try.ntmps44
    go_wp2_with fail
    go_ret
    refine ⟨_, _, rfl, ⟨_, own_one _ (by simp) (by omega), fun j r hj => ?_⟩, by (repeat' (first | (with_reducible exact Below.refl _ _) | (with_reducible assumption) | (with_reducible refine Below.drewN ?_ _) | (with_reducible refine Below.alloc ?_ ?_ _) | (with_reducible refine Below.drew ?_) | (with_reducible refine Below.setCell ?_ ?_ _) | (with_reducible refine Below.trans ?_ (Below.mono (by assumption) ?_)) | go_size | (with_reducible refine Nat.le_trans ?_ (Below.size (by assumption)))))⟩
    cases j with
    | zero =>
      simp at hj
      subst hj
      refine ⟨rfl, w.heap.size, 1, rfl, Nat.le_refl _, by simp, ?_⟩
      have k := (Blk.made w #[.int .i64 (t : Int)] 3).below (below_alloc (o := .cells #[.slice (some ⟨w.heap.size, 0, none⟩) 1 1] 23))
      exact Blk.row (xs := iN [t]) k
    | succ j => simp at hj
  · rw [en_one, if_neg h]
    have h' : ¬ (t : Int) ≤ (d : Int) := by omega
    go_enter Try.func44, Try.ntmps44
    go_wp2_with fail
    go_ret
    exact ⟨_, _, rfl, RM.nil w w.heap.size 1 (Nat.le_refl _), by (repeat' (first | (with_reducible exact Below.refl _ _) | (with_reducible assumption) | (with_reducible refine Below.drewN ?_ _) | (with_reducible refine Below.alloc ?_ ?_ _) | (with_reducible refine Below.drew ?_) | (with_reducible refine Below.setCell ?_ ?_ _) | (with_reducible refine Below.trans ?_ (Below.mono (by assumption) ?_)) | go_size | (with_reducible refine Nat.le_trans ?_ (Below.size (by assumption)))))⟩

end Go.Proofs.Ytpcnjkgoehepaaa
