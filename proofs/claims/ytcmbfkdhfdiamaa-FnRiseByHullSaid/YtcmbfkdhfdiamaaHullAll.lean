/- RiseByHull: for all lists. -/
import Derived.Test.YtcmbfkdhfdiamaaSHull
namespace Go.Proofs.Ytcmbfkdhfdiamaa
open Go.RowKit

set_option maxHeartbeats 1000000 in
theorem riseByHull_bad (b o c b' o' c' : Nat) (xs ws : List Int) (w : World) (h : RowI w b o xs) (h' : RowI w b' o' ws) (hv : vlB xs ws = false) (hm : xs.length ≤ 1099511627776) (hm' : ws.length ≤ 1099511627776) :
    Calls Try.prog 28 #[.slice (some ⟨b, o, none⟩) xs.length c, .slice (some ⟨b', o', none⟩) ws.length c'] w
      fun e w' => e = .returned (.slice none 0 0) ∧ Below w.heap.size w w' := by
  have H := Lib.hid h
  have H' := Lib.hid h'
  clear h h'
  go_enter Try.func28, Try.ntmps28
  go_wp2_with (go_at_call 62; refine (validLoads_any b o c b' o' c' xs ws _ H.out H'.out hm hm').mono ?_; rintro e w1 ⟨rfl, hb1⟩)
  go_ret
  exact ⟨rfl, hb1⟩

set_option maxHeartbeats 1000000 in
theorem sriseByHull_bad (b o c b' o' c' : Nat) (xs ws : List Int) (w : World) (h : RowI w b o xs) (h' : RowI w b' o' ws) (hv : vlB xs ws = false) (hm : xs.length ≤ 1099511627776) (hm' : ws.length ≤ 1099511627776) :
    Calls Try.prog 30 #[.slice (some ⟨b, o, none⟩) xs.length c, .slice (some ⟨b', o', none⟩) ws.length c'] w
      fun e w' => e = .returned (.slice none 0 0) ∧ Below w.heap.size w w' := by
  have H := Lib.hid h
  have H' := Lib.hid h'
  clear h h'
  go_enter Try.func30, Try.ntmps30
  go_wp2_with (go_at_call 64; refine (svalidLoads_any b o c b' o' c' xs ws _ H.out H'.out hm hm').mono ?_; rintro e w1 ⟨rfl, rfl⟩)
  go_ret
  exact ⟨rfl, Below.refl _ _⟩

theorem riseByHull_all (b o c b' o' c' : Nat) (xs ws : List Int) (w : World) (h : RowI w b o xs) (h' : RowI w b' o' ws) (hm : xs.length ≤ 1099511627776) (hm' : ws.length ≤ 1099511627776) :
    Calls Try.prog 28 #[.slice (some ⟨b, o, none⟩) xs.length c, .slice (some ⟨b', o', none⟩) ws.length c'] w
      fun e w' => ∃ v, e = .returned v ∧ Mut 29 w' w.heap.size v (rbbV xs ws).length (fc (rbbV xs ws)) ∧ Below w.heap.size w w' := by
  cases hv : vlB xs ws with
  | true =>
    have e : rbbV xs ws = rbb xs ws := by simp [rbbV, hv]
    rw [e, show (rbb xs ws).length = xs.length from by unfold rbb; rw [tab_length]]
    exact riseByHull_any b o c b' o' c' xs ws w h h' hv hm hm'
  | false =>
    have e : rbbV xs ws = [] := by simp [rbbV, hv]
    rw [e]
    exact (riseByHull_bad b o c b' o' c' xs ws w h h' hv hm hm').mono fun e w' ⟨he, hb⟩ => ⟨_, he, .inl ⟨rfl, rfl, rfl⟩, hb⟩

theorem sriseByHull_all (b o c b' o' c' : Nat) (xs ws : List Int) (w : World) (h : RowI w b o xs) (h' : RowI w b' o' ws) (hm : xs.length ≤ 1099511627776) (hm' : ws.length ≤ 1099511627776) :
    Calls Try.prog 30 #[.slice (some ⟨b, o, none⟩) xs.length c, .slice (some ⟨b', o', none⟩) ws.length c'] w
      fun e w' => ∃ v, e = .returned v ∧ Mut 29 w' w.heap.size v (rbbV xs ws).length (fc (rbbV xs ws)) ∧ Below w.heap.size w w' := by
  cases hv : vlB xs ws with
  | true =>
    have e : rbbV xs ws = rbb xs ws := by simp [rbbV, hv]
    rw [e, show (rbb xs ws).length = xs.length from by unfold rbb; rw [tab_length]]
    exact sriseByHull_any b o c b' o' c' xs ws w h h' hv hm hm'
  | false =>
    have e : rbbV xs ws = [] := by simp [rbbV, hv]
    rw [e]
    exact (sriseByHull_bad b o c b' o' c' xs ws w h h' hv hm hm').mono fun e w' ⟨he, hb⟩ => ⟨_, he, .inl ⟨rfl, rfl, rfl⟩, hb⟩

end Go.Proofs.Ytcmbfkdhfdiamaa
