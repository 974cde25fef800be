/- RiseByBlocks, the program's and the reference's. -/
import Derived.Test.YtcmbfkdhfdiamaaRise
import Derived.Test.YtcmbfkdhfdiamaaSSpread
namespace Go.Proofs.Ytcmbfkdhfdiamaa
open Go.RowKit

def rbbV (xs ws : List Int) : List Rat := if vlB xs ws = true then rbb xs ws else []
theorem rbbV_le (xs ws : List Int) (h : xs.length ≤ 1048576) : (rbbV xs ws).length ≤ 1048576 := by
  unfold rbbV
  split
  · unfold rbb; rw [tab_length]; exact h
  · simp

set_option maxHeartbeats 1000000 in
theorem riseByBlocks_all (b o c b' o' c' : Nat) (xs ws : List Int) (w : World) (h : RowI w b o xs) (h' : RowI w b' o' ws) (hm : xs.length ≤ 1099511627776) (hm' : ws.length ≤ 1099511627776) :
    Calls Try.prog 35 #[.slice (some ⟨b, o, none⟩) xs.length c, .slice (some ⟨b', o', none⟩) ws.length c'] w
      fun e w' => ∃ v, e = .returned v ∧ Mut 29 w' w.heap.size v (rbbV xs ws).length (fc (rbbV xs ws)) ∧ Below w.heap.size w w' := by
  have H := Lib.hid h
  have H' := Lib.hid h'
  clear h h'
  cases hv : vlB xs ws with
  | true =>
    have HV := Lib.hid (vl_of hv)
    have e : rbbV xs ws = rbb xs ws := by simp [rbbV, hv]
    rw [e, show (rbb xs ws).length = xs.length from by unfold rbb; rw [tab_length]]
    clear e
    go_enter Try.func35, Try.ntmps35
    go_wp2_with (first
      | (go_at_call 62; refine (validLoads_any b o c b' o' c' xs ws _ H.out H'.out hm hm').mono ?_; rintro e w1 ⟨rfl, hb1⟩; have hz1 := hb1.size)
      | (go_at_call 75; refine (rise_any b o c b' o' c' xs ws _ (H.out.below hb1) (H'.out.below hb1) HV.out).mono ?_; rintro e w2 ⟨v, rfl, hm2, hb2⟩))
    go_ret
    exact ⟨_, rfl, hm2.mono hz1, hb1.trans (hb2.mono hz1)⟩
  | false =>
    have e : rbbV xs ws = [] := by simp [rbbV, hv]
    rw [e]
    clear e
    go_enter Try.func35, Try.ntmps35
    go_wp2_with (go_at_call 62; refine (validLoads_any b o c b' o' c' xs ws _ H.out H'.out hm hm').mono ?_; rintro e w1 ⟨rfl, hb1⟩; have hz1 := hb1.size)
    go_ret
    exact ⟨_, rfl, .inl ⟨rfl, rfl, rfl⟩, hb1⟩

theorem OwnF.mut {w : World} {base : Nat} {v : Value} {n : Nat} {fs : List Rat} (h : OwnF w base v n fs) : Mut 29 w base v n (fc fs) := by
  by_cases hn : n = 0
  · subst hn
    have hl := h.len
    rcases h.2 with ⟨h1, _⟩ | ⟨g', cap', cur, hv, hb, hg, _⟩
    · exact .inl ⟨h1, rfl, by rw [List.eq_nil_of_length_eq_zero hl]; rfl⟩
    · subst hv; exact .inr ⟨g', cap', rfl, hb, h.blk⟩
  · obtain ⟨g, cap, rfl, hg⟩ := h.shape hn
    exact .inr ⟨g, cap, rfl, hg, h.blk⟩

set_option maxHeartbeats 1000000 in
theorem sriseByBlocks_all (b o c b' o' c' : Nat) (xs ws : List Int) (w : World) (h : RowI w b o xs) (h' : RowI w b' o' ws) (hm : xs.length ≤ 1099511627776) (hm' : ws.length ≤ 1099511627776) :
    Calls Try.prog 34 #[.slice (some ⟨b, o, none⟩) xs.length c, .slice (some ⟨b', o', none⟩) ws.length c'] w
      fun e w' => ∃ v, e = .returned v ∧ Mut 29 w' w.heap.size v (rbbV xs ws).length (fc (rbbV xs ws)) ∧ Below w.heap.size w w' := by
  have H := Lib.hid h
  have H' := Lib.hid h'
  clear h h'
  cases hv : vlB xs ws with
  | true =>
    have hvl := vl_of hv
    have hn8 := hvl.n8
    have hn0 := hvl.n0
    have HV := Lib.hid hvl
    have e : rbbV xs ws = rbb xs ws := by simp [rbbV, hv]
    rw [e, show (rbb xs ws).length = xs.length from by unfold rbb; rw [tab_length]]
    have hpl := poolR_length xs ws xs.length
    clear e hvl
    go_enter Try.func34, Try.ntmps34
    go_wp2_with (first
      | (go_at_call 64; refine (svalidLoads_any b o c b' o' c' xs ws _ H.out H'.out hm hm').mono ?_; rintro e w1 ⟨rfl, rfl⟩)
      | (go_at_call 65; refine (pool_any b o c b' o' c' xs ws _ H.out H'.out HV.out).mono ?_; rintro e w2 ⟨g, cap, rfl, ho, hb2⟩; have hz2 := hb2.size)
      | (go_at_call 68; refine (sspread_any b o c b' o' c' g 0 cap _ xs ws _ _ (H.out.below hb2) (H'.out.below hb2) ho.row rfl HV.out poolR_dec1 (poolR_first hn0) (by omega)).mono ?_; rintro e w3 ⟨v, rfl, hm3, hb3⟩))
    go_ret
    exact ⟨_, rfl, hm3.mut.mono hz2, hb2.trans (hb3.mono hz2)⟩
  | false =>
    have e : rbbV xs ws = [] := by simp [rbbV, hv]
    rw [e]
    clear e
    go_enter Try.func34, Try.ntmps34
    go_wp2_with (go_at_call 64; refine (svalidLoads_any b o c b' o' c' xs ws _ H.out H'.out hm hm').mono ?_; rintro e w1 ⟨rfl, rfl⟩)
    go_ret
    exact ⟨_, rfl, .inl ⟨rfl, rfl, rfl⟩, Below.refl _ _⟩

end Go.Proofs.Ytcmbfkdhfdiamaa
