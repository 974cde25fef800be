/- The program's search for the least join by a function of two things; its list of joins. slices.Clip of joins. -/
import Derived.Test.YtclfjnoedcimiaaGrp
namespace Go.Proofs.Ytclfjnoedcimiaa
open Go.RowKit

def stF (F : Nat → Nat → Int × Bool) (s : Jn) (a b : Nat) : Jn := if (F a b).2 = true ∧ (F a b).1 < s.2.2 then (a, b, (F a b).1) else s
def scRF (F : Nat → Nat → Int × Bool) (s : Jn) (a : Nat) : Nat → Jn
  | 0 => s
  | d + 1 => stF F (scRF F s a d) a (a + 1 + d)
def scAF (F : Nat → Nat → Int × Bool) (n : Nat) : Nat → Jn
  | 0 => (0, 0, 41)
  | a + 1 => scRF F (scAF F n a) a (n - 1 - a)
/-- The first k joins. -/
def oF (F : List Int → Nat → Nat → Int × Bool) (n : Nat) : Nat → List Jn
  | 0 => []
  | k + 1 => oF F n k ++ [scAF (F (gI n (oF F n k))) n n]
theorem oF_length (F : List Int → Nat → Nat → Int × Bool) (n : Nat) : ∀ k, (oF F n k).length = k
  | 0 => rfl
  | k + 1 => by rw [oF, List.length_append, oF_length F n k]; rfl
theorem scRF_in (F : Nat → Nat → Int × Bool) {n a : Nat} {s : Jn} (hs : s.1 < n ∧ s.2.1 < n) (ha : a < n) : ∀ d, a + 1 + d ≤ n → (scRF F s a d).1 < n ∧ (scRF F s a d).2.1 < n
  | 0, _ => hs
  | d + 1, h => by
    rw [scRF, stF]
    split
    · exact ⟨ha, by dsimp only; omega⟩
    · exact scRF_in F hs ha d (by omega)
theorem scAF_in (F : Nat → Nat → Int × Bool) {n : Nat} (hn : 1 ≤ n) : ∀ a, a ≤ n → (scAF F n a).1 < n ∧ (scAF F n a).2.1 < n
  | 0, _ => ⟨by show 0 < n; omega, by show 0 < n; omega⟩
  | a + 1, h => by
    rw [scAF]
    exact scRF_in F (scAF_in F hn a (by omega)) (by omega) _ (by omega)

theorem Blk.three {w : World} {g : Nat} {e : TypeId} {x y z : Value} (h : Blk w g e [x, y, z]) (u v t : Value) : Blk (((w.setCell ⟨g, 0, none⟩ u).setCell ⟨g, 1, none⟩ v).setCell ⟨g, 2, none⟩ t) g e [u, v, t] := ((h.set 0 u).set 1 v).set 2 t
theorem Blk.made' {w : World} {g : Nat} {e : TypeId} {cs : List Value} (cur : Array Value) (hg : g = w.heap.size) (hc : cur.toList = cs) : Blk (w.alloc (.cells cur e)) g e cs := by
  subst hg hc
  exact Blk.made _ _ _
theorem own_mono' {w : World} {base base' n : Nat} {e : TypeId} {size : Nat} {v : Value} {xs : List Value} (h : w.ownsRow base e size v n xs) (hb : base' ≤ base) : w.ownsRow base' e size v n xs := by
  rcases h with ⟨h1, h2 | ⟨g, cap, cur, a1, a2, a3⟩⟩
  · exact ⟨h1, .inl h2⟩
  · exact ⟨h1, .inr ⟨g, cap, cur, a1, Nat.le_trans hb a2, a3⟩⟩

set_option maxHeartbeats 400000 in
theorem clipJ_any (g n c : Nat) (w : World) (_hn : n ≤ 1099511627776) (hc : n ≤ c) :
    Calls Try.prog 62 #[.slice (some ⟨g, 0, none⟩) n c] w fun e w' => e = .returned (.slice (some ⟨g, 0, none⟩) n n) ∧ w = w' := by
  go_enter Try.func62, Try.ntmps62
  go_wp2
  go_ret
  exact ⟨rfl, rfl⟩
set_option maxHeartbeats 400000 in
theorem clipJ_nil (w : World) : Calls Try.prog 62 #[.slice none 0 0] w fun e w' => e = .returned (.slice none 0 0) ∧ w = w' := by
  go_enter Try.func62, Try.ntmps62
  go_wp2
  go_ret
  exact ⟨rfl, rfl⟩
theorem clipJ_own (base n : Nat) (v : Value) (L : List Jn) (w : World) (h : OwnJ w base v n L) (hn : n ≤ 1000000) :
    Calls Try.prog 62 #[v] w fun e w' => ∃ v', e = .returned v' ∧ Mut 35 w base v' n (jc L) ∧ w = w' := by
  rcases h.2 with ⟨rfl, rfl⟩ | ⟨g, cap, cur, rfl, hb, hg, hnc, _⟩
  · refine (clipJ_nil w).mono ?_
    rintro e w' ⟨rfl, rfl⟩
    exact ⟨_, rfl, .inl ⟨rfl, rfl, by have := h.len; rw [List.eq_nil_of_length_eq_zero this]; rfl⟩, rfl⟩
  · refine (clipJ_any g n cap w (by omega) hnc).mono ?_
    rintro e w' ⟨rfl, rfl⟩
    exact ⟨_, rfl, .inr ⟨g, n, rfl, hb, (Blk.of_own h).1⟩, rfl⟩

end Go.Proofs.Ytclfjnoedcimiaa
