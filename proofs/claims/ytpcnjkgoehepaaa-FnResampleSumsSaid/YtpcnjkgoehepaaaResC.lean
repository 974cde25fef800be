/- impl.ResampleSums and spec.ResampleSums: what they return, whatever the numbers. -/
import Derived.Test.YtpcnjkgoehepaaaMapW
import Derived.Test.YtpcnjkgoehepaaaDrawA
import Derived.Test.YtpcnjkgoehepaaaLawI
namespace Go.Proofs.Ytpcnjkgoehepaaa
open Go.RowKit

def rL (xs : List Int) : List (Int × Int) := if vdB xs = true ∧ inB (xs.length : Int) 1 4 = true then dF (gi xs) xs.length xs.length 0 [] else []

set_option maxHeartbeats 4000000 in
theorem rs_impl (b o c : Nat) (xs : List Int) (w : World) (h : RowI w b o xs) (hl : xs.length ≤ 1048576) :
    Calls Try.prog 13 #[.slice (some ⟨b, o, none⟩) xs.length c] w fun e w' => ∃ v1 v2 mid, e = .returned (.tuple #[v1, v2]) ∧ (rL xs).length ≤ 256 ∧
      w.heap.size ≤ mid ∧ mid ≤ w'.heap.size ∧ MutB 3 w' w.heap.size mid v1 (rL xs).length (ic (fS (rL xs))) ∧ MutB 3 w' mid w'.heap.size v2 (rL xs).length (ic (sS (rL xs))) ∧ Below w.heap.size w w' := by
  by_cases ok : vdB xs = true ∧ inB (xs.length : Int) 1 4 = true
  · have e : rL xs = dF (gi xs) xs.length xs.length 0 [] := if_pos ok
    rw [e]
    have hb := inB_iff.1 ok.2
    refine (ways_any b o c xs.length xs w h rfl ok.1 (by omega) (by omega)).mono ?_
    rintro e w' ⟨g1, g2, rfl, h1, h2, k1, k2, h3, hbw⟩
    exact ⟨_, _, g1 + 1, rfl, h3, by omega, by have := k1.lt; omega, .inr ⟨g1, _, rfl, h1, by omega, k1⟩, .inr ⟨g2, _, rfl, by omega, k2.lt, k2⟩, hbw⟩
  · have e : rL xs = [] := if_neg ok
    rw [e]
    have HV := Lib.hid (validData_any b o c xs w h (by omega))
    have HI := Lib.hid (fun W : World => in_any (xs.length : Int) 1 4 W)
    clear e h
    cases hv : vdB xs with
    | false =>
      rw [hv] at HV
      clear ok
      go_enter Try.func13, Try.ntmps13
      go_wp2_with (first
        | (go_at_call 34; refine HV.out.mono ?_; rintro e w1 ⟨rfl, hb1⟩))
      go_ret2
      exact ⟨_, _, w.heap.size, rfl, by simp, Nat.le_refl _, hb1.size, .inl ⟨rfl, rfl, rfl⟩, .inl ⟨rfl, rfl, rfl⟩, hb1⟩
    | true =>
      have hi : inB (xs.length : Int) 1 4 = false := by
        cases h : inB (xs.length : Int) 1 4 with
        | true => exact absurd ⟨hv, h⟩ ok
        | false => rfl
      rw [hv] at HV
      rw [hi] at HI
      clear ok
      go_enter Try.func13, Try.ntmps13
      go_wp2_with (first
        | (go_at_call 34; refine HV.out.mono ?_; rintro e w1 ⟨rfl, hb1⟩)
        | (go_at_call 25; refine (HI.out _).mono ?_; rintro e w2 ⟨rfl, rfl⟩))
      go_ret2
      exact ⟨_, _, w.heap.size, rfl, by simp, Nat.le_refl _, hb1.size, .inl ⟨rfl, rfl, rfl⟩, .inl ⟨rfl, rfl, rfl⟩, hb1⟩

set_option maxHeartbeats 4000000 in
theorem rs_spec (b o c : Nat) (xs : List Int) (w : World) (h : RowI w b o xs) (hl : xs.length ≤ 1048576) :
    Calls Try.prog 11 #[.slice (some ⟨b, o, none⟩) xs.length c] w fun e w' => ∃ v1 v2, e = .returned (.tuple #[v1, v2]) ∧ ArgI w' v1 (fS (rL xs)) ∧ ArgI w' v2 (sS (rL xs)) ∧ Below w.heap.size w w' := by
  have HI := Lib.hid (fun W : World => inRange_any (xs.length : Int) 1 4 W)
  have HV := Lib.hid (svalidData_any b o c xs w h (by omega))
  by_cases ok : vdB xs = true ∧ inB (xs.length : Int) 1 4 = true
  · have e : rL xs = dF (gi xs) xs.length xs.length 0 [] := if_pos ok
    rw [e]
    have hb := inB_iff.1 ok.2
    rw [ok.1] at HV
    rw [ok.2] at HI
    have hp : (xs.length : Int) ^ xs.length ≤ 256 := by
      have : xs.length = 1 ∨ xs.length = 2 ∨ xs.length = 3 ∨ xs.length = 4 := by omega
      rcases this with h | h | h | h <;> rw [h] <;> decide
    have CD := Lib.hid (fun W => drawFrom_any b o c xs.length xs rfl (by omega) (fun i hi => by have := (vd_of ok.1).x i hi; omega) xs.length (by omega) 0 w.heap.size w.heap.size 0 (w.heap.size + 1) 0 0 [] W)
    have HR := Lib.hid h
    clear e h ok
    have hl4 : xs.length ≤ 4 := by omega
    clear hb
    obtain ⟨n, hn⟩ : ∃ n, xs.length = n := ⟨_, rfl⟩
    have c3 : DR ((w.alloc (.cells #[] 3)).alloc (.cells #[] 3)) w.heap.size w.heap.size 0 0 (fS []) :=
      ⟨Nat.le_refl _, Nat.le_refl _, rfl, ⟨by simp; omega, fun k hk => by simp [fS] at hk⟩⟩
    have c4 : DR ((w.alloc (.cells #[] 3)).alloc (.cells #[] 3)) w.heap.size (w.heap.size + 1) 0 0 (sS []) :=
      ⟨by omega, Nat.le_refl _, rfl, ⟨by simp, fun k hk => by simp [sS] at hk⟩⟩
    have hbb : Below w.heap.size w ((w.alloc (.cells #[] 3)).alloc (.cells #[] 3)) := by (repeat' (first | (with_reducible exact Below.refl _ _) | (with_reducible assumption) | (with_reducible refine Below.drewN ?_ _) | (with_reducible refine Below.alloc ?_ ?_ _) | (with_reducible refine Below.drew ?_) | (with_reducible refine Below.setCell ?_ ?_ _) | (with_reducible refine Below.trans ?_ (Below.mono (by assumption) ?_)) | go_size | (with_reducible refine Nat.le_trans ?_ (Below.size (by assumption)))))
    have CC := Lib.hid (CD.out _ (HR.out.below hbb) c3 c4 hbb.size ⟨List.Pairwise.nil, fun p hp => by simp at hp⟩ (by simp only [tS]; omega) (by omega) (by omega))
    have HBB := Lib.hid hbb
    rw [hn] at HV HI CC hp hl4 ⊢
    clear CD c3 c4 hbb
    go_enter Try.func11, Try.ntmps11
    go_wp2_with (first
      | (go_at_call 31; refine HV.out.mono ?_; rintro e w1 ⟨rfl, rfl⟩)
      | (go_at_call 32; refine (HI.out _).mono ?_; rintro e w1 ⟨rfl, rfl⟩)
      | (go_at_call 33; refine CC.out.mono ?_; rintro e w2 ⟨g5, c5, g6, c6, k', rfl, h5, h6, hb2⟩))
    go_ret2
    exact ⟨_, _, rfl, .inr ⟨g5, 0, c5, by rw [h5.len]; rfl, h5.row⟩, .inr ⟨g6, 0, c6, by rw [h6.len]; rfl, h6.row⟩, HBB.out.trans (hb2.mono HBB.out.size)⟩
  · have e : rL xs = [] := if_neg ok
    rw [e]
    clear e h
    cases hv : vdB xs with
    | false =>
      rw [hv] at HV
      clear ok
      go_enter Try.func11, Try.ntmps11
      go_wp2_with (first
        | (go_at_call 31; refine HV.out.mono ?_; rintro e w1 ⟨rfl, rfl⟩))
      go_ret2
      exact ⟨_, _, rfl, .inl ⟨none, 0, rfl, rfl⟩, .inl ⟨none, 0, rfl, rfl⟩, Below.refl _ _⟩
    | true =>
      have hi : inB (xs.length : Int) 1 4 = false := by
        cases h : inB (xs.length : Int) 1 4 with
        | true => exact absurd ⟨hv, h⟩ ok
        | false => rfl
      rw [hv] at HV
      rw [hi] at HI
      clear ok
      go_enter Try.func11, Try.ntmps11
      go_wp2_with (first
        | (go_at_call 31; refine HV.out.mono ?_; rintro e w1 ⟨rfl, rfl⟩)
        | (go_at_call 32; refine (HI.out _).mono ?_; rintro e w2 ⟨rfl, rfl⟩))
      go_ret2
      exact ⟨_, _, rfl, .inl ⟨none, 0, rfl, rfl⟩, .inl ⟨none, 0, rfl, rfl⟩, Below.refl _ _⟩

end Go.Proofs.Ytpcnjkgoehepaaa
