/- The middle of numbers: impl.middle, spec.middle, impl.MiddleOf, spec.MiddleOf. -/
import Derived.Test.YthemnkcgpcgilaaData
import Derived.Test.YthemnkcgpcgilaaSorted
import Derived.Test.YthemnkcgpcgilaaSSort
namespace Go.Proofs.Ythemnkcgpcgilaa
open Go.RowKit

/-- The sum of the two numbers in the middle. -/
def midI (xs : List Int) : Int := gi (srt xs) ((xs.length - 1) / 2) + gi (srt xs) (xs.length / 2)
theorem srt_bound {xs : List Int} {B : Int} (h : ∀ k, k < xs.length → -B ≤ gi xs k ∧ gi xs k ≤ B) (k : Nat) (hk : k < xs.length) : -B ≤ gi (srt xs) k ∧ gi (srt xs) k ≤ B := by
  have hk' : k < (srt xs).length := by rw [srt_length]; exact hk
  have hm : gi (srt xs) k ∈ xs := by
    rw [gi_eq hk']
    exact (srt_perm xs).mem_iff.1 (List.getElem_mem hk')
  obtain ⟨j, hj, hjx⟩ := List.getElem_of_mem hm
  have := h j hj
  rw [gi_eq hj, hjx] at this
  exact this

set_option maxHeartbeats 1000000 in
theorem middle_any (b o c : Nat) (xs : List Int) (B : Int) (w : World) (h : RowI w b o xs) (hl : xs.length ≤ 1000) (hn0 : 1 ≤ xs.length) (hx : ∀ k, k < xs.length → -B ≤ gi xs k ∧ gi xs k ≤ B) (hB : B ≤ 1000000) :
    Calls Try.prog 50 #[.slice (some ⟨b, o, none⟩) xs.length c] w fun e w' => e = .returned (.int .i64 (midI xs)) ∧ Below w.heap.size w w' := by
  have HS := Lib.hid (sorted_any b o c xs w h (by omega) hn0)
  have q1 : ((xs.length : Int) - 1).tdiv 2 = (((xs.length - 1) / 2 : Nat) : Int) := by rw [Int.tdiv_eq_ediv_of_nonneg (by omega)]; omega
  have q2 : (xs.length : Int).tdiv 2 = ((xs.length / 2 : Nat) : Int) := by rw [Int.tdiv_eq_ediv_of_nonneg (by omega)]; omega
  have hm : midI xs = gi (srt xs) ((xs.length - 1) / 2) + gi (srt xs) (xs.length / 2) := rfl
  have x1 := srt_bound hx ((xs.length - 1) / 2) (by omega)
  have x2 := srt_bound hx (xs.length / 2) (by omega)
  obtain ⟨i, hi⟩ : ∃ i, (xs.length - 1) / 2 = i := ⟨_, rfl⟩
  obtain ⟨j, hj⟩ : ∃ j, xs.length / 2 = j := ⟨_, rfl⟩
  have hi2 : i < xs.length := by omega
  have hj2 : j < xs.length := by omega
  rw [hi] at q1 hm x1
  rw [hj] at q2 hm x2
  have q3 : IntKind.i64.wrap ((xs.length : Int) - 1) = (xs.length : Int) - 1 := IntWalk.i64_in _ (by omega)
  have q4 : IntKind.i64.wrap (i : Int) = (i : Int) := IntWalk.i64_in _ (by omega)
  have q5 : IntKind.i64.wrap (j : Int) = (j : Int) := IntWalk.i64_in _ (by omega)
  have q6 : (i : Int) < (xs.length : Int) := by omega
  have q7 : (j : Int) < (xs.length : Int) := by omega
  obtain ⟨y, hy⟩ : ∃ y, gi (srt xs) i = y := ⟨_, rfl⟩
  obtain ⟨z, hz⟩ : ∃ z, gi (srt xs) j = z := ⟨_, rfl⟩
  rw [hy] at hm x1
  rw [hz] at hm x2
  have q8 : IntKind.i64.wrap (y + z) = y + z := IntWalk.i64_in _ (by omega)
  have HM := Lib.hid hm
  have HY := Lib.hid hy
  have HZ := Lib.hid hz
  clear h hm hy hz hi hj hx
  go_enter Try.func50, Try.ntmps50
  go_wp2_with (go_at_call 54; refine HS.out.mono ?_; rintro e w1 ⟨g, cap, rfl, ho, hb⟩; have hr := (Blk.of_own ho).1.row; clear ho; have HR := Lib.hid hr; have HB := Lib.hid hb; clear hr hb)
  have c1 := HR.out.cell i (by rw [srt_length]; exact hi2)
  have c2 := HR.out.cell j (by rw [srt_length]; exact hj2)
  rw [Nat.zero_add, HY.out] at c1
  rw [Nat.zero_add, HZ.out] at c2
  go_wp2_with fail
  go_quiet (fail)
  go_wp2_with fail
  go_ret
  exact ⟨by rw [HM.out]; rfl, Below.drewN HB.out _⟩

set_option maxHeartbeats 1000000 in
theorem smiddle_any (b o c : Nat) (xs : List Int) (B : Int) (w : World) (h : RowI w b o xs) (hl : xs.length ≤ 1000) (hn0 : 1 ≤ xs.length) (hx : ∀ k, k < xs.length → -B ≤ gi xs k ∧ gi xs k ≤ B) (hB : B ≤ 1000000) :
    Calls Try.prog 49 #[.slice (some ⟨b, o, none⟩) xs.length c] w fun e w' => e = .returned (.int .i64 (midI xs)) ∧ Below w.heap.size w w' := by
  have HS := Lib.hid (ssorted_any b o c xs w h (by omega))
  have q1 : ((xs.length : Int) - 1).tdiv 2 = (((xs.length - 1) / 2 : Nat) : Int) := by rw [Int.tdiv_eq_ediv_of_nonneg (by omega)]; omega
  have q2 : (xs.length : Int).tdiv 2 = ((xs.length / 2 : Nat) : Int) := by rw [Int.tdiv_eq_ediv_of_nonneg (by omega)]; omega
  have hm : midI xs = gi (srt xs) ((xs.length - 1) / 2) + gi (srt xs) (xs.length / 2) := rfl
  have x1 := srt_bound hx ((xs.length - 1) / 2) (by omega)
  have x2 := srt_bound hx (xs.length / 2) (by omega)
  obtain ⟨i, hi⟩ : ∃ i, (xs.length - 1) / 2 = i := ⟨_, rfl⟩
  obtain ⟨j, hj⟩ : ∃ j, xs.length / 2 = j := ⟨_, rfl⟩
  have hi2 : i < xs.length := by omega
  have hj2 : j < xs.length := by omega
  rw [hi] at q1 hm x1
  rw [hj] at q2 hm x2
  have q3 : IntKind.i64.wrap ((xs.length : Int) - 1) = (xs.length : Int) - 1 := IntWalk.i64_in _ (by omega)
  have q4 : IntKind.i64.wrap (i : Int) = (i : Int) := IntWalk.i64_in _ (by omega)
  have q5 : IntKind.i64.wrap (j : Int) = (j : Int) := IntWalk.i64_in _ (by omega)
  have q6 : (i : Int) < (xs.length : Int) := by omega
  have q7 : (j : Int) < (xs.length : Int) := by omega
  obtain ⟨y, hy⟩ : ∃ y, gi (srt xs) i = y := ⟨_, rfl⟩
  obtain ⟨z, hz⟩ : ∃ z, gi (srt xs) j = z := ⟨_, rfl⟩
  rw [hy] at hm x1
  rw [hz] at hm x2
  have q8 : IntKind.i64.wrap (y + z) = y + z := IntWalk.i64_in _ (by omega)
  have HM := Lib.hid hm
  have HY := Lib.hid hy
  have HZ := Lib.hid hz
  clear h hm hy hz hi hj hx
  go_enter Try.func49, Try.ntmps49
  go_wp2_with (go_at_call 62; refine HS.out.mono ?_; rintro e w1 ⟨g, cap, rfl, _, hr, hb⟩;  have HR := Lib.hid hr; have HB := Lib.hid hb; clear hr hb)
  have c1 := HR.out.cell i (by rw [srt_length]; exact hi2)
  have c2 := HR.out.cell j (by rw [srt_length]; exact hj2)
  rw [Nat.zero_add, HY.out] at c1
  rw [Nat.zero_add, HZ.out] at c2
  go_wp2_with fail
  go_quiet (fail)
  go_wp2_with fail
  go_ret
  exact ⟨by rw [HM.out]; rfl, Below.drewN HB.out _⟩


def midV (xs : List Int) : Int × Bool := if vdB xs && decide (xs.length ≠ 0) then (midI xs, true) else (0, false)

set_option maxHeartbeats 1000000 in
theorem middleOf_any (b o c : Nat) (xs : List Int) (w : World) (h : RowI w b o xs) (hl : xs.length ≤ 1099511627776) :
    Calls Try.prog 17 #[.slice (some ⟨b, o, none⟩) xs.length c] w fun e w' => e = .returned (.tuple #[.int .i64 (midV xs).1, .bool (midV xs).2]) ∧ Below w.heap.size w w' := by
  have H := Lib.hid h
  clear h
  cases hv : vdB xs with
  | false =>
    have e : midV xs = (0, false) := by simp [midV, hv]
    rw [e]
    clear e
    go_enter Try.func17, Try.ntmps17
    go_wp2_with (go_at_call 34; refine (validData_any _ _ _ _ _ H.out hl).mono ?_; rintro e w1 ⟨rfl, hb1⟩; rw [hv])
    go_ret2
    exact ⟨rfl, by (repeat' (first | (with_reducible exact Below.refl _ _) | (with_reducible assumption) | (with_reducible refine Below.drewN ?_ _) | (with_reducible refine Below.alloc ?_ ?_ _) | (with_reducible refine Below.drew ?_) | (with_reducible refine Below.setCell ?_ ?_ _) | (with_reducible refine Below.trans ?_ (Below.mono (by assumption) ?_)) | go_size | (with_reducible refine Nat.le_trans ?_ (Below.size (by assumption)))))⟩
  | true =>
    have hd := vd_of hv
    have h10 := hd.n10
    by_cases hn : xs.length = 0
    · have e : midV xs = (0, false) := by simp [midV, hn]
      rw [e]
      clear e
      have q1 : ((xs.length : Int) == 0) = true := by simp [hn]
      have q2 : (xs.length == 0) = true := by simp [hn]
      clear hn
      go_enter Try.func17, Try.ntmps17
      go_wp2_with (go_at_call 34; refine (validData_any _ _ _ _ _ H.out hl).mono ?_; rintro e w1 ⟨rfl, hb1⟩; rw [hv])
      go_ret2
      exact ⟨rfl, by (repeat' (first | (with_reducible exact Below.refl _ _) | (with_reducible assumption) | (with_reducible refine Below.drewN ?_ _) | (with_reducible refine Below.alloc ?_ ?_ _) | (with_reducible refine Below.drew ?_) | (with_reducible refine Below.setCell ?_ ?_ _) | (with_reducible refine Below.trans ?_ (Below.mono (by assumption) ?_)) | go_size | (with_reducible refine Nat.le_trans ?_ (Below.size (by assumption)))))⟩
    · have e : midV xs = (midI xs, true) := by simp [midV, hv, hn]
      rw [e]
      clear e
      have q1 : ((xs.length : Int) == 0) = false := by simp [hn]
      have HX := Lib.hid hd.x
      clear hd
      go_enter Try.func17, Try.ntmps17
      go_wp2_with (first
        | (go_at_call 34; refine (validData_any _ _ _ _ _ H.out hl).mono ?_; rintro e w1 ⟨rfl, hb1⟩; rw [hv])
        | (go_at_call 50; refine (middle_any _ _ _ xs 200 _ (H.out.below (by (repeat' (first | (with_reducible exact Below.refl _ _) | (with_reducible assumption) | (with_reducible refine Below.drewN ?_ _) | (with_reducible refine Below.alloc ?_ ?_ _) | (with_reducible refine Below.drew ?_) | (with_reducible refine Below.setCell ?_ ?_ _) | (with_reducible refine Below.trans ?_ (Below.mono (by assumption) ?_)) | go_size | (with_reducible refine Nat.le_trans ?_ (Below.size (by assumption))))))) (by omega) (by omega) HX.out (by omega)).mono ?_; rintro e w2 ⟨rfl, hb2⟩))
      go_ret2
      exact ⟨rfl, by (repeat' (first | (with_reducible exact Below.refl _ _) | (with_reducible assumption) | (with_reducible refine Below.drewN ?_ _) | (with_reducible refine Below.alloc ?_ ?_ _) | (with_reducible refine Below.drew ?_) | (with_reducible refine Below.setCell ?_ ?_ _) | (with_reducible refine Below.trans ?_ (Below.mono (by assumption) ?_)) | go_size | (with_reducible refine Nat.le_trans ?_ (Below.size (by assumption)))))⟩

set_option maxHeartbeats 1000000 in
theorem smiddleOf_any (b o c : Nat) (xs : List Int) (w : World) (h : RowI w b o xs) (hl : xs.length ≤ 1099511627776) :
    Calls Try.prog 15 #[.slice (some ⟨b, o, none⟩) xs.length c] w fun e w' => e = .returned (.tuple #[.int .i64 (midV xs).1, .bool (midV xs).2]) ∧ Below w.heap.size w w' := by
  have H := Lib.hid h
  clear h
  cases hv : vdB xs with
  | false =>
    have e : midV xs = (0, false) := by simp [midV, hv]
    rw [e]
    clear e
    go_enter Try.func15, Try.ntmps15
    go_wp2_with (go_at_call 48; refine (svalidData_any _ _ _ _ _ H.out hl).mono ?_; rintro e w1 ⟨rfl, rfl⟩; rw [hv])
    go_ret2
    exact ⟨rfl, by (repeat' (first | (with_reducible exact Below.refl _ _) | (with_reducible assumption) | (with_reducible refine Below.drewN ?_ _) | (with_reducible refine Below.alloc ?_ ?_ _) | (with_reducible refine Below.drew ?_) | (with_reducible refine Below.setCell ?_ ?_ _) | (with_reducible refine Below.trans ?_ (Below.mono (by assumption) ?_)) | go_size | (with_reducible refine Nat.le_trans ?_ (Below.size (by assumption)))))⟩
  | true =>
    have hd := vd_of hv
    have h10 := hd.n10
    by_cases hn : xs.length = 0
    · have e : midV xs = (0, false) := by simp [midV, hn]
      rw [e]
      clear e
      have q1 : ((xs.length : Int) == 0) = true := by simp [hn]
      have q2 : (xs.length == 0) = true := by simp [hn]
      clear hn
      go_enter Try.func15, Try.ntmps15
      go_wp2_with (go_at_call 48; refine (svalidData_any _ _ _ _ _ H.out hl).mono ?_; rintro e w1 ⟨rfl, rfl⟩; rw [hv])
      go_ret2
      exact ⟨rfl, by (repeat' (first | (with_reducible exact Below.refl _ _) | (with_reducible assumption) | (with_reducible refine Below.drewN ?_ _) | (with_reducible refine Below.alloc ?_ ?_ _) | (with_reducible refine Below.drew ?_) | (with_reducible refine Below.setCell ?_ ?_ _) | (with_reducible refine Below.trans ?_ (Below.mono (by assumption) ?_)) | go_size | (with_reducible refine Nat.le_trans ?_ (Below.size (by assumption)))))⟩
    · have e : midV xs = (midI xs, true) := by simp [midV, hv, hn]
      rw [e]
      clear e
      have q1 : ((xs.length : Int) == 0) = false := by simp [hn]
      have HX := Lib.hid hd.x
      clear hd
      go_enter Try.func15, Try.ntmps15
      go_wp2_with (first
        | (go_at_call 48; refine (svalidData_any _ _ _ _ _ H.out hl).mono ?_; rintro e w1 ⟨rfl, rfl⟩; rw [hv])
        | (go_at_call 49; refine (smiddle_any _ _ _ xs 200 _ (H.out.below (by (repeat' (first | (with_reducible exact Below.refl _ _) | (with_reducible assumption) | (with_reducible refine Below.drewN ?_ _) | (with_reducible refine Below.alloc ?_ ?_ _) | (with_reducible refine Below.drew ?_) | (with_reducible refine Below.setCell ?_ ?_ _) | (with_reducible refine Below.trans ?_ (Below.mono (by assumption) ?_)) | go_size | (with_reducible refine Nat.le_trans ?_ (Below.size (by assumption))))))) (by omega) (by omega) HX.out (by omega)).mono ?_; rintro e w2 ⟨rfl, hb2⟩))
      go_ret2
      exact ⟨rfl, by (repeat' (first | (with_reducible exact Below.refl _ _) | (with_reducible assumption) | (with_reducible refine Below.drewN ?_ _) | (with_reducible refine Below.alloc ?_ ?_ _) | (with_reducible refine Below.drew ?_) | (with_reducible refine Below.setCell ?_ ?_ _) | (with_reducible refine Below.trans ?_ (Below.mono (by assumption) ?_)) | go_size | (with_reducible refine Nat.le_trans ?_ (Below.size (by assumption)))))⟩


end Go.Proofs.Ythemnkcgpcgilaa
