/- The middle of the differences of two samples: impl.samples, spec.validSamples, impl.ShiftMiddle, spec.ShiftMiddle. -/
import Derived.Test.YthemnkcgpcgilaaPairM
namespace Go.Proofs.Ythemnkcgpcgilaa
open Go.RowKit

def vsB (xs ws : List Int) : Bool := (((decide ((0 : Int) < xs.length) && decide ((0 : Int) < ws.length)) && decide ((xs.length : Int) + ws.length ≤ 10)) && vdB xs) && vdB ws
structure Vs (xs ws : List Int) : Prop where
  n0 : 1 ≤ xs.length
  m0 : 1 ≤ ws.length
  n10 : xs.length + ws.length ≤ 10
  x : ∀ k, k < xs.length → -200 ≤ gi xs k ∧ gi xs k ≤ 200
  y : ∀ k, k < ws.length → -200 ≤ gi ws k ∧ gi ws k ≤ 200
theorem vs_of {xs ws : List Int} (h : vsB xs ws = true) : Vs xs ws := by
  simp only [vsB, Bool.and_eq_true, decide_eq_true_eq] at h
  obtain ⟨⟨⟨⟨h1, h2⟩, h3⟩, h4⟩, h5⟩ := h
  exact ⟨by omega, by omega, by omega, (vd_of h4).x, (vd_of h5).x⟩

/-- The differences of the numbers of ws less those of xs before i. -/
def shf (xs ws : List Int) : Nat → List Int
  | 0 => []
  | i + 1 => shf xs ws i ++ tabI (fun k => gi ws k - gi xs i) ws.length
theorem shf_length (xs ws : List Int) : ∀ i, (shf xs ws i).length = i * ws.length
  | 0 => by simp [shf]
  | i + 1 => by rw [shf, List.length_append, shf_length xs ws i, tabI_length, Nat.add_mul, Nat.one_mul]
theorem shf_le {xs ws : List Int} (h : Vs xs ws) {i : Nat} (hi : i ≤ xs.length) : (shf xs ws i).length ≤ 100 := by
  rw [shf_length]
  have h1 := h.n10
  have : i * ws.length ≤ 10 * 10 := Nat.mul_le_mul (by omega) (by omega)
  omega
theorem shf_pos {xs ws : List Int} (h : Vs xs ws) : 1 ≤ (shf xs ws xs.length).length := by
  rw [shf_length]
  have : 1 * 1 ≤ xs.length * ws.length := Nat.mul_le_mul h.n0 h.m0
  omega
theorem shf_bound {xs ws : List Int} (h : Vs xs ws) : ∀ i, i ≤ xs.length → ∀ x ∈ shf xs ws i, -400 ≤ x ∧ x ≤ 400
  | 0, _, x, hx => by cases hx
  | i + 1, hi, x, hx => by
    rw [shf] at hx
    rcases List.mem_append.1 hx with hx | hx
    · exact shf_bound h i (by omega) x hx
    · unfold tabI at hx
      obtain ⟨k, hk, rfl⟩ := List.mem_map.1 hx
      have hk := List.mem_range.1 hk
      have h1 := h.x i (by omega)
      have h2 := h.y k hk
      omega

def smV (xs ws : List Int) : Int × Bool := if vsB xs ws then (midI (shf xs ws xs.length), true) else (0, false)

set_option maxHeartbeats 1000000 in
theorem samples_any (b o c b' o' c' : Nat) (xs ws : List Int) (w : World) (h : RowI w b o xs) (h' : RowI w b' o' ws) (hl : xs.length ≤ 1048576) (hl' : ws.length ≤ 1048576) :
    Calls Try.prog 53 #[.slice (some ⟨b, o, none⟩) xs.length c, .slice (some ⟨b', o', none⟩) ws.length c'] w fun e w' => e = .returned (.bool (vsB xs ws)) ∧ Below w.heap.size w w' := by
  have H := Lib.hid h
  have H' := Lib.hid h'
  clear h h'
  obtain ⟨t1, h1⟩ : ∃ t, decide ((0 : Int) < xs.length) = t := ⟨_, rfl⟩
  obtain ⟨t2, h2⟩ : ∃ t, decide ((0 : Int) < ws.length) = t := ⟨_, rfl⟩
  obtain ⟨t3, h3⟩ : ∃ t, decide ((xs.length : Int) + ws.length ≤ 10) = t := ⟨_, rfl⟩
  obtain ⟨t4, h4⟩ : ∃ t, vdB xs = t := ⟨_, rfl⟩
  obtain ⟨t5, h5⟩ : ∃ t, vdB ws = t := ⟨_, rfl⟩
  have e : vsB xs ws = ((((t1 && t2) && t3) && t4) && t5) := by unfold vsB; rw [h1, h2, h3, h4, h5]
  have q1 : IntKind.i64.wrap ((xs.length : Int) + (ws.length : Int)) = (xs.length : Int) + (ws.length : Int) := IntWalk.i64_in _ (by omega)
  have g1 : decide (0 < xs.length) = t1 := by rw [← h1]; by_cases g : 0 < xs.length <;> simp [g] <;> omega
  have g2 : decide (0 < ws.length) = t2 := by rw [← h2]; by_cases g : 0 < ws.length <;> simp [g] <;> omega
  have H4 := Lib.hid h4
  have H5 := Lib.hid h5
  rw [e]
  clear e h4 h5
  cases t1
  · go_enter Try.func53, Try.ntmps53
    go_wp2_with (first | (go_at_call_of 34 b; refine (validData_any b o c xs _ (H.out.below (by (repeat' (first | (with_reducible exact Below.refl _ _) | (with_reducible assumption) | (with_reducible refine Below.drewN ?_ _) | (with_reducible refine Below.alloc ?_ ?_ _) | (with_reducible refine Below.drew ?_) | (with_reducible refine Below.setCell ?_ ?_ _) | (with_reducible refine Below.trans ?_ (Below.mono (by assumption) ?_)) | go_size | (with_reducible refine Nat.le_trans ?_ (Below.size (by assumption))))))) (by omega)).mono ?_; rintro e w1 ⟨rfl, hb1⟩; rw [H4.out]) | (go_at_call_of 34 b'; refine (validData_any b' o' c' ws _ (H'.out.below (by (repeat' (first | (with_reducible exact Below.refl _ _) | (with_reducible assumption) | (with_reducible refine Below.drewN ?_ _) | (with_reducible refine Below.alloc ?_ ?_ _) | (with_reducible refine Below.drew ?_) | (with_reducible refine Below.setCell ?_ ?_ _) | (with_reducible refine Below.trans ?_ (Below.mono (by assumption) ?_)) | go_size | (with_reducible refine Nat.le_trans ?_ (Below.size (by assumption))))))) (by omega)).mono ?_; rintro e w2 ⟨rfl, hb2⟩; rw [H5.out]))
    go_ret
    exact ⟨by simp, by (repeat' (first | (with_reducible exact Below.refl _ _) | (with_reducible assumption) | (with_reducible refine Below.drewN ?_ _) | (with_reducible refine Below.alloc ?_ ?_ _) | (with_reducible refine Below.drew ?_) | (with_reducible refine Below.setCell ?_ ?_ _) | (with_reducible refine Below.trans ?_ (Below.mono (by assumption) ?_)) | go_size | (with_reducible refine Nat.le_trans ?_ (Below.size (by assumption)))))⟩
  cases t2
  · go_enter Try.func53, Try.ntmps53
    go_wp2_with (first | (go_at_call_of 34 b; refine (validData_any b o c xs _ (H.out.below (by (repeat' (first | (with_reducible exact Below.refl _ _) | (with_reducible assumption) | (with_reducible refine Below.drewN ?_ _) | (with_reducible refine Below.alloc ?_ ?_ _) | (with_reducible refine Below.drew ?_) | (with_reducible refine Below.setCell ?_ ?_ _) | (with_reducible refine Below.trans ?_ (Below.mono (by assumption) ?_)) | go_size | (with_reducible refine Nat.le_trans ?_ (Below.size (by assumption))))))) (by omega)).mono ?_; rintro e w1 ⟨rfl, hb1⟩; rw [H4.out]) | (go_at_call_of 34 b'; refine (validData_any b' o' c' ws _ (H'.out.below (by (repeat' (first | (with_reducible exact Below.refl _ _) | (with_reducible assumption) | (with_reducible refine Below.drewN ?_ _) | (with_reducible refine Below.alloc ?_ ?_ _) | (with_reducible refine Below.drew ?_) | (with_reducible refine Below.setCell ?_ ?_ _) | (with_reducible refine Below.trans ?_ (Below.mono (by assumption) ?_)) | go_size | (with_reducible refine Nat.le_trans ?_ (Below.size (by assumption))))))) (by omega)).mono ?_; rintro e w2 ⟨rfl, hb2⟩; rw [H5.out]))
    go_ret
    exact ⟨by simp, by (repeat' (first | (with_reducible exact Below.refl _ _) | (with_reducible assumption) | (with_reducible refine Below.drewN ?_ _) | (with_reducible refine Below.alloc ?_ ?_ _) | (with_reducible refine Below.drew ?_) | (with_reducible refine Below.setCell ?_ ?_ _) | (with_reducible refine Below.trans ?_ (Below.mono (by assumption) ?_)) | go_size | (with_reducible refine Nat.le_trans ?_ (Below.size (by assumption)))))⟩
  cases t3
  · go_enter Try.func53, Try.ntmps53
    go_wp2_with (first | (go_at_call_of 34 b; refine (validData_any b o c xs _ (H.out.below (by (repeat' (first | (with_reducible exact Below.refl _ _) | (with_reducible assumption) | (with_reducible refine Below.drewN ?_ _) | (with_reducible refine Below.alloc ?_ ?_ _) | (with_reducible refine Below.drew ?_) | (with_reducible refine Below.setCell ?_ ?_ _) | (with_reducible refine Below.trans ?_ (Below.mono (by assumption) ?_)) | go_size | (with_reducible refine Nat.le_trans ?_ (Below.size (by assumption))))))) (by omega)).mono ?_; rintro e w1 ⟨rfl, hb1⟩; rw [H4.out]) | (go_at_call_of 34 b'; refine (validData_any b' o' c' ws _ (H'.out.below (by (repeat' (first | (with_reducible exact Below.refl _ _) | (with_reducible assumption) | (with_reducible refine Below.drewN ?_ _) | (with_reducible refine Below.alloc ?_ ?_ _) | (with_reducible refine Below.drew ?_) | (with_reducible refine Below.setCell ?_ ?_ _) | (with_reducible refine Below.trans ?_ (Below.mono (by assumption) ?_)) | go_size | (with_reducible refine Nat.le_trans ?_ (Below.size (by assumption))))))) (by omega)).mono ?_; rintro e w2 ⟨rfl, hb2⟩; rw [H5.out]))
    go_ret
    exact ⟨by simp, by (repeat' (first | (with_reducible exact Below.refl _ _) | (with_reducible assumption) | (with_reducible refine Below.drewN ?_ _) | (with_reducible refine Below.alloc ?_ ?_ _) | (with_reducible refine Below.drew ?_) | (with_reducible refine Below.setCell ?_ ?_ _) | (with_reducible refine Below.trans ?_ (Below.mono (by assumption) ?_)) | go_size | (with_reducible refine Nat.le_trans ?_ (Below.size (by assumption)))))⟩
  cases t4
  · go_enter Try.func53, Try.ntmps53
    go_wp2_with (first | (go_at_call_of 34 b; refine (validData_any b o c xs _ (H.out.below (by (repeat' (first | (with_reducible exact Below.refl _ _) | (with_reducible assumption) | (with_reducible refine Below.drewN ?_ _) | (with_reducible refine Below.alloc ?_ ?_ _) | (with_reducible refine Below.drew ?_) | (with_reducible refine Below.setCell ?_ ?_ _) | (with_reducible refine Below.trans ?_ (Below.mono (by assumption) ?_)) | go_size | (with_reducible refine Nat.le_trans ?_ (Below.size (by assumption))))))) (by omega)).mono ?_; rintro e w1 ⟨rfl, hb1⟩; rw [H4.out]) | (go_at_call_of 34 b'; refine (validData_any b' o' c' ws _ (H'.out.below (by (repeat' (first | (with_reducible exact Below.refl _ _) | (with_reducible assumption) | (with_reducible refine Below.drewN ?_ _) | (with_reducible refine Below.alloc ?_ ?_ _) | (with_reducible refine Below.drew ?_) | (with_reducible refine Below.setCell ?_ ?_ _) | (with_reducible refine Below.trans ?_ (Below.mono (by assumption) ?_)) | go_size | (with_reducible refine Nat.le_trans ?_ (Below.size (by assumption))))))) (by omega)).mono ?_; rintro e w2 ⟨rfl, hb2⟩; rw [H5.out]))
    go_ret
    exact ⟨by simp, by (repeat' (first | (with_reducible exact Below.refl _ _) | (with_reducible assumption) | (with_reducible refine Below.drewN ?_ _) | (with_reducible refine Below.alloc ?_ ?_ _) | (with_reducible refine Below.drew ?_) | (with_reducible refine Below.setCell ?_ ?_ _) | (with_reducible refine Below.trans ?_ (Below.mono (by assumption) ?_)) | go_size | (with_reducible refine Nat.le_trans ?_ (Below.size (by assumption)))))⟩
  cases t5
  · go_enter Try.func53, Try.ntmps53
    go_wp2_with (first | (go_at_call_of 34 b; refine (validData_any b o c xs _ (H.out.below (by (repeat' (first | (with_reducible exact Below.refl _ _) | (with_reducible assumption) | (with_reducible refine Below.drewN ?_ _) | (with_reducible refine Below.alloc ?_ ?_ _) | (with_reducible refine Below.drew ?_) | (with_reducible refine Below.setCell ?_ ?_ _) | (with_reducible refine Below.trans ?_ (Below.mono (by assumption) ?_)) | go_size | (with_reducible refine Nat.le_trans ?_ (Below.size (by assumption))))))) (by omega)).mono ?_; rintro e w1 ⟨rfl, hb1⟩; rw [H4.out]) | (go_at_call_of 34 b'; refine (validData_any b' o' c' ws _ (H'.out.below (by (repeat' (first | (with_reducible exact Below.refl _ _) | (with_reducible assumption) | (with_reducible refine Below.drewN ?_ _) | (with_reducible refine Below.alloc ?_ ?_ _) | (with_reducible refine Below.drew ?_) | (with_reducible refine Below.setCell ?_ ?_ _) | (with_reducible refine Below.trans ?_ (Below.mono (by assumption) ?_)) | go_size | (with_reducible refine Nat.le_trans ?_ (Below.size (by assumption))))))) (by omega)).mono ?_; rintro e w2 ⟨rfl, hb2⟩; rw [H5.out]))
    go_ret
    exact ⟨by simp, by (repeat' (first | (with_reducible exact Below.refl _ _) | (with_reducible assumption) | (with_reducible refine Below.drewN ?_ _) | (with_reducible refine Below.alloc ?_ ?_ _) | (with_reducible refine Below.drew ?_) | (with_reducible refine Below.setCell ?_ ?_ _) | (with_reducible refine Below.trans ?_ (Below.mono (by assumption) ?_)) | go_size | (with_reducible refine Nat.le_trans ?_ (Below.size (by assumption)))))⟩
  go_enter Try.func53, Try.ntmps53
  go_wp2_with (first | (go_at_call_of 34 b; refine (validData_any b o c xs _ (H.out.below (by (repeat' (first | (with_reducible exact Below.refl _ _) | (with_reducible assumption) | (with_reducible refine Below.drewN ?_ _) | (with_reducible refine Below.alloc ?_ ?_ _) | (with_reducible refine Below.drew ?_) | (with_reducible refine Below.setCell ?_ ?_ _) | (with_reducible refine Below.trans ?_ (Below.mono (by assumption) ?_)) | go_size | (with_reducible refine Nat.le_trans ?_ (Below.size (by assumption))))))) (by omega)).mono ?_; rintro e w1 ⟨rfl, hb1⟩; rw [H4.out]) | (go_at_call_of 34 b'; refine (validData_any b' o' c' ws _ (H'.out.below (by (repeat' (first | (with_reducible exact Below.refl _ _) | (with_reducible assumption) | (with_reducible refine Below.drewN ?_ _) | (with_reducible refine Below.alloc ?_ ?_ _) | (with_reducible refine Below.drew ?_) | (with_reducible refine Below.setCell ?_ ?_ _) | (with_reducible refine Below.trans ?_ (Below.mono (by assumption) ?_)) | go_size | (with_reducible refine Nat.le_trans ?_ (Below.size (by assumption))))))) (by omega)).mono ?_; rintro e w2 ⟨rfl, hb2⟩; rw [H5.out]))
  go_ret
  exact ⟨by simp, by (repeat' (first | (with_reducible exact Below.refl _ _) | (with_reducible assumption) | (with_reducible refine Below.drewN ?_ _) | (with_reducible refine Below.alloc ?_ ?_ _) | (with_reducible refine Below.drew ?_) | (with_reducible refine Below.setCell ?_ ?_ _) | (with_reducible refine Below.trans ?_ (Below.mono (by assumption) ?_)) | go_size | (with_reducible refine Nat.le_trans ?_ (Below.size (by assumption)))))⟩

set_option maxHeartbeats 1000000 in
theorem svalidSamples_any (b o c b' o' c' : Nat) (xs ws : List Int) (w : World) (h : RowI w b o xs) (h' : RowI w b' o' ws) (hl : xs.length ≤ 1048576) (hl' : ws.length ≤ 1048576) :
    Calls Try.prog 52 #[.slice (some ⟨b, o, none⟩) xs.length c, .slice (some ⟨b', o', none⟩) ws.length c'] w fun e w' => e = .returned (.bool (vsB xs ws)) ∧ Below w.heap.size w w' := by
  have H := Lib.hid h
  have H' := Lib.hid h'
  clear h h'
  obtain ⟨t1, h1⟩ : ∃ t, decide ((0 : Int) < xs.length) = t := ⟨_, rfl⟩
  obtain ⟨t2, h2⟩ : ∃ t, decide ((0 : Int) < ws.length) = t := ⟨_, rfl⟩
  obtain ⟨t3, h3⟩ : ∃ t, decide ((xs.length : Int) + ws.length ≤ 10) = t := ⟨_, rfl⟩
  obtain ⟨t4, h4⟩ : ∃ t, vdB xs = t := ⟨_, rfl⟩
  obtain ⟨t5, h5⟩ : ∃ t, vdB ws = t := ⟨_, rfl⟩
  have e : vsB xs ws = ((((t1 && t2) && t3) && t4) && t5) := by unfold vsB; rw [h1, h2, h3, h4, h5]
  have q1 : IntKind.i64.wrap ((xs.length : Int) + (ws.length : Int)) = (xs.length : Int) + (ws.length : Int) := IntWalk.i64_in _ (by omega)
  have g1 : decide (0 < xs.length) = t1 := by rw [← h1]; by_cases g : 0 < xs.length <;> simp [g] <;> omega
  have g2 : decide (0 < ws.length) = t2 := by rw [← h2]; by_cases g : 0 < ws.length <;> simp [g] <;> omega
  have H4 := Lib.hid h4
  have H5 := Lib.hid h5
  rw [e]
  clear e h4 h5
  cases t4
  · go_enter Try.func52, Try.ntmps52
    go_wp2_with (first | (go_at_call_of 48 b; refine (svalidData_any b o c xs _ (H.out.below (by (repeat' (first | (with_reducible exact Below.refl _ _) | (with_reducible assumption) | (with_reducible refine Below.drewN ?_ _) | (with_reducible refine Below.alloc ?_ ?_ _) | (with_reducible refine Below.drew ?_) | (with_reducible refine Below.setCell ?_ ?_ _) | (with_reducible refine Below.trans ?_ (Below.mono (by assumption) ?_)) | go_size | (with_reducible refine Nat.le_trans ?_ (Below.size (by assumption))))))) (by omega)).mono ?_; rintro e w1 ⟨rfl, rfl⟩; rw [H4.out]) | (go_at_call_of 48 b'; refine (svalidData_any b' o' c' ws _ (H'.out.below (by (repeat' (first | (with_reducible exact Below.refl _ _) | (with_reducible assumption) | (with_reducible refine Below.drewN ?_ _) | (with_reducible refine Below.alloc ?_ ?_ _) | (with_reducible refine Below.drew ?_) | (with_reducible refine Below.setCell ?_ ?_ _) | (with_reducible refine Below.trans ?_ (Below.mono (by assumption) ?_)) | go_size | (with_reducible refine Nat.le_trans ?_ (Below.size (by assumption))))))) (by omega)).mono ?_; rintro e w2 ⟨rfl, rfl⟩; rw [H5.out]))
    go_ret
    exact ⟨by simp, by (repeat' (first | (with_reducible exact Below.refl _ _) | (with_reducible assumption) | (with_reducible refine Below.drewN ?_ _) | (with_reducible refine Below.alloc ?_ ?_ _) | (with_reducible refine Below.drew ?_) | (with_reducible refine Below.setCell ?_ ?_ _) | (with_reducible refine Below.trans ?_ (Below.mono (by assumption) ?_)) | go_size | (with_reducible refine Nat.le_trans ?_ (Below.size (by assumption)))))⟩
  cases t5
  · go_enter Try.func52, Try.ntmps52
    go_wp2_with (first | (go_at_call_of 48 b; refine (svalidData_any b o c xs _ (H.out.below (by (repeat' (first | (with_reducible exact Below.refl _ _) | (with_reducible assumption) | (with_reducible refine Below.drewN ?_ _) | (with_reducible refine Below.alloc ?_ ?_ _) | (with_reducible refine Below.drew ?_) | (with_reducible refine Below.setCell ?_ ?_ _) | (with_reducible refine Below.trans ?_ (Below.mono (by assumption) ?_)) | go_size | (with_reducible refine Nat.le_trans ?_ (Below.size (by assumption))))))) (by omega)).mono ?_; rintro e w1 ⟨rfl, rfl⟩; rw [H4.out]) | (go_at_call_of 48 b'; refine (svalidData_any b' o' c' ws _ (H'.out.below (by (repeat' (first | (with_reducible exact Below.refl _ _) | (with_reducible assumption) | (with_reducible refine Below.drewN ?_ _) | (with_reducible refine Below.alloc ?_ ?_ _) | (with_reducible refine Below.drew ?_) | (with_reducible refine Below.setCell ?_ ?_ _) | (with_reducible refine Below.trans ?_ (Below.mono (by assumption) ?_)) | go_size | (with_reducible refine Nat.le_trans ?_ (Below.size (by assumption))))))) (by omega)).mono ?_; rintro e w2 ⟨rfl, rfl⟩; rw [H5.out]))
    go_ret
    exact ⟨by simp, by (repeat' (first | (with_reducible exact Below.refl _ _) | (with_reducible assumption) | (with_reducible refine Below.drewN ?_ _) | (with_reducible refine Below.alloc ?_ ?_ _) | (with_reducible refine Below.drew ?_) | (with_reducible refine Below.setCell ?_ ?_ _) | (with_reducible refine Below.trans ?_ (Below.mono (by assumption) ?_)) | go_size | (with_reducible refine Nat.le_trans ?_ (Below.size (by assumption)))))⟩
  cases t3
  · go_enter Try.func52, Try.ntmps52
    go_wp2_with (first | (go_at_call_of 48 b; refine (svalidData_any b o c xs _ (H.out.below (by (repeat' (first | (with_reducible exact Below.refl _ _) | (with_reducible assumption) | (with_reducible refine Below.drewN ?_ _) | (with_reducible refine Below.alloc ?_ ?_ _) | (with_reducible refine Below.drew ?_) | (with_reducible refine Below.setCell ?_ ?_ _) | (with_reducible refine Below.trans ?_ (Below.mono (by assumption) ?_)) | go_size | (with_reducible refine Nat.le_trans ?_ (Below.size (by assumption))))))) (by omega)).mono ?_; rintro e w1 ⟨rfl, rfl⟩; rw [H4.out]) | (go_at_call_of 48 b'; refine (svalidData_any b' o' c' ws _ (H'.out.below (by (repeat' (first | (with_reducible exact Below.refl _ _) | (with_reducible assumption) | (with_reducible refine Below.drewN ?_ _) | (with_reducible refine Below.alloc ?_ ?_ _) | (with_reducible refine Below.drew ?_) | (with_reducible refine Below.setCell ?_ ?_ _) | (with_reducible refine Below.trans ?_ (Below.mono (by assumption) ?_)) | go_size | (with_reducible refine Nat.le_trans ?_ (Below.size (by assumption))))))) (by omega)).mono ?_; rintro e w2 ⟨rfl, rfl⟩; rw [H5.out]))
    go_ret
    exact ⟨by simp, by (repeat' (first | (with_reducible exact Below.refl _ _) | (with_reducible assumption) | (with_reducible refine Below.drewN ?_ _) | (with_reducible refine Below.alloc ?_ ?_ _) | (with_reducible refine Below.drew ?_) | (with_reducible refine Below.setCell ?_ ?_ _) | (with_reducible refine Below.trans ?_ (Below.mono (by assumption) ?_)) | go_size | (with_reducible refine Nat.le_trans ?_ (Below.size (by assumption)))))⟩
  cases t1
  · go_enter Try.func52, Try.ntmps52
    go_wp2_with (first | (go_at_call_of 48 b; refine (svalidData_any b o c xs _ (H.out.below (by (repeat' (first | (with_reducible exact Below.refl _ _) | (with_reducible assumption) | (with_reducible refine Below.drewN ?_ _) | (with_reducible refine Below.alloc ?_ ?_ _) | (with_reducible refine Below.drew ?_) | (with_reducible refine Below.setCell ?_ ?_ _) | (with_reducible refine Below.trans ?_ (Below.mono (by assumption) ?_)) | go_size | (with_reducible refine Nat.le_trans ?_ (Below.size (by assumption))))))) (by omega)).mono ?_; rintro e w1 ⟨rfl, rfl⟩; rw [H4.out]) | (go_at_call_of 48 b'; refine (svalidData_any b' o' c' ws _ (H'.out.below (by (repeat' (first | (with_reducible exact Below.refl _ _) | (with_reducible assumption) | (with_reducible refine Below.drewN ?_ _) | (with_reducible refine Below.alloc ?_ ?_ _) | (with_reducible refine Below.drew ?_) | (with_reducible refine Below.setCell ?_ ?_ _) | (with_reducible refine Below.trans ?_ (Below.mono (by assumption) ?_)) | go_size | (with_reducible refine Nat.le_trans ?_ (Below.size (by assumption))))))) (by omega)).mono ?_; rintro e w2 ⟨rfl, rfl⟩; rw [H5.out]))
    go_ret
    exact ⟨by simp, by (repeat' (first | (with_reducible exact Below.refl _ _) | (with_reducible assumption) | (with_reducible refine Below.drewN ?_ _) | (with_reducible refine Below.alloc ?_ ?_ _) | (with_reducible refine Below.drew ?_) | (with_reducible refine Below.setCell ?_ ?_ _) | (with_reducible refine Below.trans ?_ (Below.mono (by assumption) ?_)) | go_size | (with_reducible refine Nat.le_trans ?_ (Below.size (by assumption)))))⟩
  cases t2
  · go_enter Try.func52, Try.ntmps52
    go_wp2_with (first | (go_at_call_of 48 b; refine (svalidData_any b o c xs _ (H.out.below (by (repeat' (first | (with_reducible exact Below.refl _ _) | (with_reducible assumption) | (with_reducible refine Below.drewN ?_ _) | (with_reducible refine Below.alloc ?_ ?_ _) | (with_reducible refine Below.drew ?_) | (with_reducible refine Below.setCell ?_ ?_ _) | (with_reducible refine Below.trans ?_ (Below.mono (by assumption) ?_)) | go_size | (with_reducible refine Nat.le_trans ?_ (Below.size (by assumption))))))) (by omega)).mono ?_; rintro e w1 ⟨rfl, rfl⟩; rw [H4.out]) | (go_at_call_of 48 b'; refine (svalidData_any b' o' c' ws _ (H'.out.below (by (repeat' (first | (with_reducible exact Below.refl _ _) | (with_reducible assumption) | (with_reducible refine Below.drewN ?_ _) | (with_reducible refine Below.alloc ?_ ?_ _) | (with_reducible refine Below.drew ?_) | (with_reducible refine Below.setCell ?_ ?_ _) | (with_reducible refine Below.trans ?_ (Below.mono (by assumption) ?_)) | go_size | (with_reducible refine Nat.le_trans ?_ (Below.size (by assumption))))))) (by omega)).mono ?_; rintro e w2 ⟨rfl, rfl⟩; rw [H5.out]))
    go_ret
    exact ⟨by simp, by (repeat' (first | (with_reducible exact Below.refl _ _) | (with_reducible assumption) | (with_reducible refine Below.drewN ?_ _) | (with_reducible refine Below.alloc ?_ ?_ _) | (with_reducible refine Below.drew ?_) | (with_reducible refine Below.setCell ?_ ?_ _) | (with_reducible refine Below.trans ?_ (Below.mono (by assumption) ?_)) | go_size | (with_reducible refine Nat.le_trans ?_ (Below.size (by assumption)))))⟩
  go_enter Try.func52, Try.ntmps52
  go_wp2_with (first | (go_at_call_of 48 b; refine (svalidData_any b o c xs _ (H.out.below (by (repeat' (first | (with_reducible exact Below.refl _ _) | (with_reducible assumption) | (with_reducible refine Below.drewN ?_ _) | (with_reducible refine Below.alloc ?_ ?_ _) | (with_reducible refine Below.drew ?_) | (with_reducible refine Below.setCell ?_ ?_ _) | (with_reducible refine Below.trans ?_ (Below.mono (by assumption) ?_)) | go_size | (with_reducible refine Nat.le_trans ?_ (Below.size (by assumption))))))) (by omega)).mono ?_; rintro e w1 ⟨rfl, rfl⟩; rw [H4.out]) | (go_at_call_of 48 b'; refine (svalidData_any b' o' c' ws _ (H'.out.below (by (repeat' (first | (with_reducible exact Below.refl _ _) | (with_reducible assumption) | (with_reducible refine Below.drewN ?_ _) | (with_reducible refine Below.alloc ?_ ?_ _) | (with_reducible refine Below.drew ?_) | (with_reducible refine Below.setCell ?_ ?_ _) | (with_reducible refine Below.trans ?_ (Below.mono (by assumption) ?_)) | go_size | (with_reducible refine Nat.le_trans ?_ (Below.size (by assumption))))))) (by omega)).mono ?_; rintro e w2 ⟨rfl, rfl⟩; rw [H5.out]))
  go_ret
  exact ⟨by simp, by (repeat' (first | (with_reducible exact Below.refl _ _) | (with_reducible assumption) | (with_reducible refine Below.drewN ?_ _) | (with_reducible refine Below.alloc ?_ ?_ _) | (with_reducible refine Below.drew ?_) | (with_reducible refine Below.setCell ?_ ?_ _) | (with_reducible refine Below.trans ?_ (Below.mono (by assumption) ?_)) | go_size | (with_reducible refine Nat.le_trans ?_ (Below.size (by assumption)))))⟩

set_option maxHeartbeats 4000000 in
theorem sshiftMiddle_any (b o c b' o' c' : Nat) (xs ws : List Int) (w : World) (h : RowI w b o xs) (h' : RowI w b' o' ws) (hl : xs.length ≤ 1048576) (hl' : ws.length ≤ 1048576) :
    Calls Try.prog 21 #[.slice (some ⟨b, o, none⟩) xs.length c, .slice (some ⟨b', o', none⟩) ws.length c'] w fun e w' => e = .returned (.tuple #[.int .i64 (smV xs ws).1, .bool (smV xs ws).2]) ∧ Below w.heap.size w w' := by
  have H := Lib.hid h
  have H' := Lib.hid h'
  clear h h'
  cases hv : vsB xs ws with
  | false =>
    have e : smV xs ws = (0, false) := by simp [smV, hv]
    rw [e]
    clear e
    go_enter Try.func21, Try.ntmps21
    go_wp2_with (go_at_call 52; refine (svalidSamples_any _ _ _ _ _ _ _ _ _ H.out H'.out hl hl').mono ?_; rintro e w1 ⟨rfl, hb1⟩; rw [hv])
    go_ret2
    exact ⟨rfl, by (repeat' (first | (with_reducible exact Below.refl _ _) | (with_reducible assumption) | (with_reducible refine Below.drewN ?_ _) | (with_reducible refine Below.alloc ?_ ?_ _) | (with_reducible refine Below.drew ?_) | (with_reducible refine Below.setCell ?_ ?_ _) | (with_reducible refine Below.trans ?_ (Below.mono (by assumption) ?_)) | go_size | (with_reducible refine Nat.le_trans ?_ (Below.size (by assumption)))))⟩
  | true =>
    have hd := vs_of hv
    have e : smV xs ws = (midI (shf xs ws xs.length), true) := by simp [smV, hv]
    rw [e]
    clear e
    have HV := Lib.hid hd
    have h10 := hd.n10
    have hb := bound_of_mem (shf_bound hd xs.length (Nat.le_refl _))
    have HBD := Lib.hid hb
    have hpl := shf_le hd (Nat.le_refl xs.length)
    have hp1 := shf_pos hd
    clear hd hb
    go_enter Try.func21, Try.ntmps21
    go_wp2_with (go_at_call 52; refine (svalidSamples_any _ _ _ _ _ _ _ _ _ H.out H'.out hl hl').mono ?_; rintro e w1 ⟨rfl, hb1⟩; rw [hv])
    have HW := Lib.hid hb1
    have hzz := hb1.size
    clear hb1
    go_loopw [6, 7] (fun v4 v19 wr => ∃ i : Nat, i ≤ xs.length ∧ v19 = .int .i64 i ∧ OwnI wr w.heap.size v4 (shf xs ws i).length (shf xs ws i) ∧ Below w.heap.size w wr) (fun _ v19 _ => xs.length - (intOf v19).toNat)
    case atStart => exact ⟨0, Nat.zero_le _, rfl, OwnI.empty _ _ hzz _ rfl, HW.out.alloc hzz _⟩
    case round =>
      obtain ⟨i, hi, rfl, hown, hb⟩ := hrel
      have hz := hb.size
      have HO := Lib.hid hown
      clear hown
      by_cases hlt : i < xs.length
      · have c1 := (H.out.below hb).cell i hlt
        have x1 := HV.out.x i hlt
        have HB := Lib.hid hb
        obtain ⟨p, hp⟩ : ∃ p, gi xs i = p := ⟨_, rfl⟩
        have HP := Lib.hid hp
        rw [hp] at c1 x1
        clear hb hp
        go_wp2_with fail
        clear c1
        go_loopw [6, 8] (fun v4 v29 wr => ∃ k : Nat, k ≤ ws.length ∧ v29 = .int .i64 k ∧ OwnI wr w.heap.size v4 ((shf xs ws i).length + k) (shf xs ws i ++ tabI (fun k => gi ws k - gi xs i) k) ∧ Below w.heap.size w wr) (fun _ v29 _ => ws.length - (intOf v29).toNat)
        case atStart => exact ⟨0, Nat.zero_le _, rfl, by simpa [tabI] using HO.out, HB.out⟩
        case round =>
          obtain ⟨k, hk, rfl, hown, hb⟩ := hrel
          have HO := Lib.hid hown
          have hz := hb.size
          clear hown
          by_cases hkl : k < ws.length
          · have c1 := H.out.cell i hlt
            rw [HP.out] at c1
            have c2 := H'.out.cell k hkl
            have x2 := HV.out.y k hkl
            obtain ⟨q, hq⟩ : ∃ q, gi ws k = q := ⟨_, rfl⟩
            have hpq : gi ws k - gi xs i = q - p := by rw [HP.out, hq]
            have HPQ := Lib.hid hpq
            rw [hq] at c2 x2
            have q6 : IntKind.i64.wrap (q - p) = q - p := IntWalk.i64_in _ (by omega)
            have hle := shf_le HV.out (i := i) (by omega)
            clear hq hpq
            go_wp2_with fail
            go_region_held3 (fun w' => w'.cell? ⟨b', o' + k, none⟩ = some (.int .i64 q) ∧ w'.cell? ⟨b, o + i, none⟩ = some (.int .i64 p) ∧ Below w.heap.size w w')
              ((exact keepBX2 c2 c1 (by (repeat' (first | (with_reducible exact Below.refl _ _) | (with_reducible assumption) | (with_reducible refine Below.drewN ?_ _) | (with_reducible refine Below.alloc ?_ ?_ _) | (with_reducible refine Below.drew ?_) | (with_reducible refine Below.setCell ?_ ?_ _) | (with_reducible refine Below.trans ?_ (Below.mono (by assumption) ?_)) | go_size | (with_reducible refine Nat.le_trans ?_ (Below.size (by assumption))))))))
              ((refine step_appS (by rfl) (.tmp 26) (.tmp 36) 22 (by rfl) w.heap.size 3 (.int .i64 0) 8 Try.underlying22 infoI rfl (by decide) _ ((shf xs ws i).length + k) (ic (shf xs ws i ++ tabI (fun k => gi ws k - gi xs i) k)) (by rfl) ⟨_, 0, none⟩ 1 _ [.int .i64 (q - p)] (by rfl) ?_ rfl ?_ (one_one _) (by omega) ?_ ?_; (focus (exact World.ownsRow.alloc HO.out _)); (focus (exact cell_one_new _ _ _)); (focus (simp; omega)); intro v4 w4 o1 o2 o3; have b4 := Below.app (B := w.heap.size) (by exact World.ownsRow.alloc HO.out _) (by simp; omega) o2))
            have HBW : Below w.heap.size w w4 := by (repeat' (first | (with_reducible exact Below.refl _ _) | (with_reducible assumption) | (with_reducible refine Below.drewN ?_ _) | (with_reducible refine Below.alloc ?_ ?_ _) | (with_reducible refine Below.drew ?_) | (with_reducible refine Below.setCell ?_ ?_ _) | (with_reducible refine Below.trans ?_ (Below.mono (by assumption) ?_)) | go_size | (with_reducible refine Nat.le_trans ?_ (Below.size (by assumption)))))
            clear b4 o2
            go_wp2_with fail
            go_roundw
            case rel =>
              exact ⟨k + 1, by omega, by go_num, by rw [tabI_succ, HPQ.out, ← List.append_assoc]; exact OwnI.app o1, HBW⟩
            case measure => simp [intOf]; omega
          · have hke : k = ws.length := by omega
            have HE := Lib.hid hke
            have HB := Lib.hid hb
            clear hb hke
            go_wp2_with fail
            go_roundw
            case rel => exact ⟨i + 1, by omega, by go_num, by rw [shf, List.length_append, tabI_length]; have := HO.out; rw [HE.out] at this; exact this, HB.out⟩
            case measure => simp [intOf]; omega
      · obtain rfl : i = xs.length := by omega
        have HB := Lib.hid hb
        clear hb
        obtain ⟨L, hL⟩ : ∃ L, shf xs ws xs.length = L := ⟨_, rfl⟩
        have ho := HO.out
        rw [hL] at hpl hp1 HBD ho
        have HL := Lib.hid hL
        clear HO hL
        obtain ⟨g, cap, rfl, hg⟩ := ho.shape (by omega)
        have HR := Lib.hid ho.row
        clear ho
        go_wp2_with (go_at_call 49; refine (smiddle_any _ _ _ L 400 _ HR.out (by omega) hp1 HBD.out (by omega)).mono ?_; rintro e w3 ⟨rfl, hb3⟩)
        go_ret2
        exact ⟨by rw [HL.out]; rfl, HB.out.trans (hb3.mono HB.out.size)⟩

set_option maxHeartbeats 4000000 in
theorem shiftMiddle_any (b o c b' o' c' : Nat) (xs ws : List Int) (w : World) (h : RowI w b o xs) (h' : RowI w b' o' ws) (hl : xs.length ≤ 1048576) (hl' : ws.length ≤ 1048576) :
    Calls Try.prog 22 #[.slice (some ⟨b, o, none⟩) xs.length c, .slice (some ⟨b', o', none⟩) ws.length c'] w fun e w' => e = .returned (.tuple #[.int .i64 (smV xs ws).1, .bool (smV xs ws).2]) ∧ Below w.heap.size w w' := by
  have H := Lib.hid h
  have H' := Lib.hid h'
  clear h h'
  cases hv : vsB xs ws with
  | false =>
    have e : smV xs ws = (0, false) := by simp [smV, hv]
    rw [e]
    clear e
    go_enter Try.func22, Try.ntmps22
    go_wp2_with (go_at_call 53; refine (samples_any _ _ _ _ _ _ _ _ _ H.out H'.out hl hl').mono ?_; rintro e w1 ⟨rfl, hb1⟩; rw [hv])
    go_ret2
    exact ⟨rfl, by (repeat' (first | (with_reducible exact Below.refl _ _) | (with_reducible assumption) | (with_reducible refine Below.drewN ?_ _) | (with_reducible refine Below.alloc ?_ ?_ _) | (with_reducible refine Below.drew ?_) | (with_reducible refine Below.setCell ?_ ?_ _) | (with_reducible refine Below.trans ?_ (Below.mono (by assumption) ?_)) | go_size | (with_reducible refine Nat.le_trans ?_ (Below.size (by assumption)))))⟩
  | true =>
    have hd := vs_of hv
    have e : smV xs ws = (midI (shf xs ws xs.length), true) := by simp [smV, hv]
    rw [e]
    clear e
    have HV := Lib.hid hd
    have h10 := hd.n10
    have hb := bound_of_mem (shf_bound hd xs.length (Nat.le_refl _))
    have HBD := Lib.hid hb
    have hpl := shf_le hd (Nat.le_refl xs.length)
    have hp1 := shf_pos hd
    clear hd hb
    go_enter Try.func22, Try.ntmps22
    go_wp2_with (go_at_call 53; refine (samples_any _ _ _ _ _ _ _ _ _ H.out H'.out hl hl').mono ?_; rintro e w1 ⟨rfl, hb1⟩; rw [hv])
    have HW := Lib.hid hb1
    have hzz := hb1.size
    clear hb1
    go_loopw [6, 17] (fun v4 v19 wr => ∃ i : Nat, i ≤ xs.length ∧ v19 = .int .i64 i ∧ OwnI wr w.heap.size v4 (shf xs ws i).length (shf xs ws i) ∧ Below w.heap.size w wr) (fun _ v19 _ => xs.length - (intOf v19).toNat)
    case atStart => exact ⟨0, Nat.zero_le _, rfl, OwnI.nil _ _, HW.out⟩
    case round =>
      obtain ⟨i, hi, rfl, hown, hb⟩ := hrel
      have hz := hb.size
      have HO := Lib.hid hown
      clear hown
      by_cases hlt : i < xs.length
      · have c1 := (H.out.below hb).cell i hlt
        have x1 := HV.out.x i hlt
        have HB := Lib.hid hb
        obtain ⟨p, hp⟩ : ∃ p, gi xs i = p := ⟨_, rfl⟩
        have HP := Lib.hid hp
        rw [hp] at c1 x1
        clear hb hp
        go_wp2_with fail
        go_loopw [6, 23] (fun v4 v29 wr => ∃ k : Nat, k ≤ ws.length ∧ v29 = .int .i64 k ∧ OwnI wr w.heap.size v4 ((shf xs ws i).length + k) (shf xs ws i ++ tabI (fun k => gi ws k - gi xs i) k) ∧ Below w.heap.size w wr) (fun _ v29 _ => ws.length - (intOf v29).toNat)
        case atStart => exact ⟨0, Nat.zero_le _, rfl, by simpa [tabI] using HO.out, HB.out⟩
        case round =>
          obtain ⟨k, hk, rfl, hown, hb⟩ := hrel
          have HO := Lib.hid hown
          have hz := hb.size
          clear hown
          by_cases hkl : k < ws.length
          · have c2 := (H'.out.below hb).cell k hkl
            have x2 := HV.out.y k hkl
            obtain ⟨q, hq⟩ : ∃ q, gi ws k = q := ⟨_, rfl⟩
            have hpq : gi ws k - gi xs i = q - p := by rw [HP.out, hq]
            have HPQ := Lib.hid hpq
            rw [hq] at c2 x2
            have q6 : IntKind.i64.wrap (q - p) = q - p := IntWalk.i64_in _ (by omega)
            have hle := shf_le HV.out (i := i) (by omega)
            have HB := Lib.hid hb
            clear hq hpq hb
            go_wp2_with (at_builtin; refine wpList_app1 rfl (.tmp 27) (.tmp 31) 22 rfl w.heap.size 3 (.int .i64 0) 1 8 Try.underlying22 infoI rfl (by decide) (by decide) _ _ _ rfl (World.ownsRow.alloc HO.out _) ⟨_, 0, none⟩ 1 [.int .i64 (q - p)] rfl rfl (cell_one_new _ _ _) (by simp [Value.oneCell']) (by omega) (by simp; omega) ?_; intro g2 cap2 w4 o1 o2 o3)
            go_roundw
            case rel =>
              exact ⟨k + 1, by omega, by go_num, by rw [tabI_succ, HPQ.out, ← List.append_assoc]; exact OwnI.app o1, (HB.out.alloc (by omega) _).trans (Below.app (World.ownsRow.alloc HO.out _) (by simp; omega) o2)⟩
            case measure => simp [intOf]; omega
          · have hke : k = ws.length := by omega
            have HE := Lib.hid hke
            have HB := Lib.hid hb
            clear hb hke
            go_wp2_with fail
            go_roundw
            case rel => exact ⟨i + 1, by omega, by go_num, by rw [shf, List.length_append, tabI_length]; have := HO.out; rw [HE.out] at this; exact this, HB.out⟩
            case measure => simp [intOf]; omega
      · obtain rfl : i = xs.length := by omega
        have HB := Lib.hid hb
        clear hb
        obtain ⟨L, hL⟩ : ∃ L, shf xs ws xs.length = L := ⟨_, rfl⟩
        have ho := HO.out
        rw [hL] at hpl hp1 HBD ho
        have HL := Lib.hid hL
        clear HO hL
        obtain ⟨g, cap, rfl, hg⟩ := ho.shape (by omega)
        have HR := Lib.hid ho.row
        clear ho
        go_wp2_with (go_at_call 50; refine (middle_any _ _ _ L 400 _ HR.out (by omega) hp1 HBD.out (by omega)).mono ?_; rintro e w3 ⟨rfl, hb3⟩)
        go_ret2
        exact ⟨by rw [HL.out]; rfl, HB.out.trans (hb3.mono HB.out.size)⟩

end Go.Proofs.Ythemnkcgpcgilaa
