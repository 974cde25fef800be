/- Rows that rise, by means: for all lists. -/
import Derived.Test.YtcmbfkdhfdiamaaSMeans
namespace Go.Proofs.Ytcmbfkdhfdiamaa
open Go.RowKit

def rbmV (xs ws : List Int) : List Rat := if vlB xs ws = true then rbm xs ws else []
theorem rbmV_le (xs ws : List Int) (h : xs.length ≤ 1048576) : (rbmV xs ws).length ≤ 1048576 := by
  unfold rbmV
  split
  · unfold rbm; rw [tab_length]; exact h
  · exact Nat.zero_le _

set_option maxHeartbeats 1000000 in
theorem riseByMeans_bad (b o c b' o' c' : Nat) (xs ws : List Int) (w : World) (h : RowI w b o xs) (h' : RowI w b' o' ws) (hv : vlB xs ws = false) (hm : xs.length ≤ 1099511627776) (hm' : ws.length ≤ 1099511627776) :
    Calls Try.prog 41 #[.slice (some ⟨b, o, none⟩) xs.length c, .slice (some ⟨b', o', none⟩) ws.length c'] w
      fun e w' => e = .returned (.slice none 0 0) ∧ Below w.heap.size w w' := by
  have H := Lib.hid h
  have H' := Lib.hid h'
  clear h h'
  go_enter Try.func41, Try.ntmps41
  go_wp2_with (go_at_call 62; refine (validLoads_any b o c b' o' c' xs ws _ H.out H'.out hm hm').mono ?_; rintro e w1 ⟨rfl, hb1⟩)
  go_ret
  exact ⟨rfl, hb1⟩

set_option maxHeartbeats 1000000 in
theorem sriseByMeans_bad (b o c b' o' c' : Nat) (xs ws : List Int) (w : World) (h : RowI w b o xs) (h' : RowI w b' o' ws) (hv : vlB xs ws = false) (hm : xs.length ≤ 1099511627776) (hm' : ws.length ≤ 1099511627776) :
    Calls Try.prog 40 #[.slice (some ⟨b, o, none⟩) xs.length c, .slice (some ⟨b', o', none⟩) ws.length c'] w
      fun e w' => e = .returned (.slice none 0 0) ∧ Below w.heap.size w w' := by
  have H := Lib.hid h
  have H' := Lib.hid h'
  clear h h'
  go_enter Try.func40, Try.ntmps40
  go_wp2_with (go_at_call 64; refine (svalidLoads_any b o c b' o' c' xs ws _ H.out H'.out hm hm').mono ?_; rintro e w1 ⟨rfl, rfl⟩)
  go_ret
  exact ⟨rfl, Below.refl _ _⟩

theorem riseByMeans_all (b o c b' o' c' : Nat) (xs ws : List Int) (w : World) (h : RowI w b o xs) (h' : RowI w b' o' ws) (hm : xs.length ≤ 1099511627776) (hm' : ws.length ≤ 1099511627776) :
    Calls Try.prog 41 #[.slice (some ⟨b, o, none⟩) xs.length c, .slice (some ⟨b', o', none⟩) ws.length c'] w
      fun e w' => ∃ v, e = .returned v ∧ Mut 29 w' w.heap.size v (rbmV xs ws).length (fc (rbmV xs ws)) ∧ Below w.heap.size w w' := by
  cases hv : vlB xs ws with
  | true =>
    have e : rbmV xs ws = rbm xs ws := by simp [rbmV, hv]
    rw [e, show (rbm xs ws).length = xs.length from by unfold rbm; rw [tab_length]]
    exact riseByMeans_any b o c b' o' c' xs ws w h h' hv hm hm'
  | false =>
    have e : rbmV xs ws = [] := by simp [rbmV, hv]
    rw [e]
    exact (riseByMeans_bad b o c b' o' c' xs ws w h h' hv hm hm').mono fun e w' ⟨he, hb⟩ => ⟨_, he, .inl ⟨rfl, rfl, rfl⟩, hb⟩

theorem sriseByMeans_all (b o c b' o' c' : Nat) (xs ws : List Int) (w : World) (h : RowI w b o xs) (h' : RowI w b' o' ws) (hm : xs.length ≤ 1099511627776) (hm' : ws.length ≤ 1099511627776) :
    Calls Try.prog 40 #[.slice (some ⟨b, o, none⟩) xs.length c, .slice (some ⟨b', o', none⟩) ws.length c'] w
      fun e w' => ∃ v, e = .returned v ∧ Mut 29 w' w.heap.size v (rbmV xs ws).length (fc (rbmV xs ws)) ∧ Below w.heap.size w w' := by
  cases hv : vlB xs ws with
  | true =>
    have e : rbmV xs ws = rbm xs ws := by simp [rbmV, hv]
    rw [e, show (rbm xs ws).length = xs.length from by unfold rbm; rw [tab_length]]
    exact sriseByMeans_any b o c b' o' c' xs ws w h h' hv hm hm'
  | false =>
    have e : rbmV xs ws = [] := by simp [rbmV, hv]
    rw [e]
    exact (sriseByMeans_bad b o c b' o' c' xs ws w h h' hv hm hm').mono fun e w' ⟨he, hb⟩ => ⟨_, he, .inl ⟨rfl, rfl, rfl⟩, hb⟩

end Go.Proofs.Ytcmbfkdhfdiamaa
