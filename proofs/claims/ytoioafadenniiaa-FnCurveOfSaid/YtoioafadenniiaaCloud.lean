/- Places of points: their tests, of the program and of the reference. -/
import Derived.Test.YtoioafadenniiaaList
import Derived.Test.YtoioafadenniiaaTail
namespace Go.Proofs.Ytoioafadenniiaa
open Go.RowKit

def plB (xs ys : List Int) (m : Int) : Bool := ((xs.length : Int) == (ys.length : Int)) && inB xs.length 1 m && allB xs (-12) 12 && allB ys (-12) 12
structure Pl (xs ys : List Int) (m : Nat) : Prop where
  n0 : 1 ≤ xs.length
  nm : xs.length ≤ m
  ne : ys.length = xs.length
  x : ∀ k, k < xs.length → -12 ≤ gi xs k ∧ gi xs k ≤ 12
  y : ∀ k, k < xs.length → -12 ≤ gi ys k ∧ gi ys k ≤ 12
theorem pl_of {xs ys : List Int} {m : Nat} (h : plB xs ys m = true) : Pl xs ys m := by
  simp only [plB, Bool.and_eq_true] at h
  obtain ⟨⟨⟨h1, h2⟩, h3⟩, h4⟩ := h
  have h1 : (xs.length : Int) = ys.length := by simpa using h1
  have h2 := inB_iff.1 h2
  exact ⟨by omega, by omega, by omega, fun k hk => inB_iff.1 (allB_iff.1 h3 k hk), fun k hk => inB_iff.1 (allB_iff.1 h4 k (by omega))⟩
theorem plB_of {xs ys : List Int} {m : Nat} (h : Pl xs ys m) : plB xs ys m = true := by
  have h0 := h.n0
  have h1 := h.nm
  have h2 := h.ne
  simp only [plB, Bool.and_eq_true]
  exact ⟨⟨⟨by simp [h2], inB_iff.2 (by omega)⟩, allB_iff.2 fun k hk => inB_iff.2 (h.x k hk)⟩, allB_iff.2 fun k hk => inB_iff.2 (h.y k (by omega))⟩

set_option maxHeartbeats 2000000 in
theorem placesValid_any (b o c b' o' c' : Nat) (xs ys : List Int) (m : Int) (w : World) (h : RowI w b o xs) (h' : RowI w b' o' ys) (hm : xs.length ≤ 1099511627776) (hm' : ys.length ≤ 1099511627776) :
    Calls Try.prog 78 #[.slice (some ⟨b, o, none⟩) xs.length c, .slice (some ⟨b', o', none⟩) ys.length c', .int .i64 m] w
      fun e w' => e = .returned (.bool (plB xs ys m)) ∧ Below w.heap.size w w' := by
  have H := Lib.hid h
  have H' := Lib.hid h'
  clear h h'
  cases h1 : ((xs.length : Int) == (ys.length : Int)) with
  | false =>
    have e : plB xs ys m = false := by simp only [plB, h1]; rfl
    rw [e]
    clear e
    go_enter Try.func78, Try.ntmps78
    go_wp2_with fail
    go_ret
    exact ⟨rfl, by (repeat' (first | (with_reducible exact Below.refl _ _) | (with_reducible assumption) | (with_reducible refine Below.drewN ?_ _) | (with_reducible refine Below.alloc ?_ ?_ _) | (with_reducible refine Below.drew ?_) | (with_reducible refine Below.setCell ?_ ?_ _) | (with_reducible refine Below.trans ?_ (Below.mono (by assumption) ?_)) | go_size | (with_reducible refine Nat.le_trans ?_ (Below.size (by assumption)))))⟩
  | true =>
    cases h2 : inB xs.length 1 m with
    | false =>
      have e : plB xs ys m = false := by simp only [plB, h1, h2]; rfl
      rw [e]
      clear e
      go_enter Try.func78, Try.ntmps78
      go_wp2_with (go_at_call 54; refine (in_any _ _ _ _).mono ?_; rintro e w1 ⟨rfl, rfl⟩)
      go_ret
      exact ⟨rfl, by (repeat' (first | (with_reducible exact Below.refl _ _) | (with_reducible assumption) | (with_reducible refine Below.drewN ?_ _) | (with_reducible refine Below.alloc ?_ ?_ _) | (with_reducible refine Below.drew ?_) | (with_reducible refine Below.setCell ?_ ?_ _) | (with_reducible refine Below.trans ?_ (Below.mono (by assumption) ?_)) | go_size | (with_reducible refine Nat.le_trans ?_ (Below.size (by assumption)))))⟩
    | true =>
      cases h3 : allB xs (-12) 12 with
      | false =>
        have e : plB xs ys m = false := by simp only [plB, h1, h2, h3]; rfl
        rw [e]
        clear e
        go_enter Try.func78, Try.ntmps78
        go_wp2_with (first | (go_at_call 54; refine (in_any _ _ _ _).mono ?_; rintro e w1 ⟨rfl, rfl⟩) | (go_at_call 89; refine (allIn_any _ _ _ _ _ _ _ H.out hm).mono ?_; rintro e w1 ⟨rfl, hb1⟩))
        go_ret
        exact ⟨rfl, by (repeat' (first | (with_reducible exact Below.refl _ _) | (with_reducible assumption) | (with_reducible refine Below.drewN ?_ _) | (with_reducible refine Below.alloc ?_ ?_ _) | (with_reducible refine Below.drew ?_) | (with_reducible refine Below.setCell ?_ ?_ _) | (with_reducible refine Below.trans ?_ (Below.mono (by assumption) ?_)) | go_size | (with_reducible refine Nat.le_trans ?_ (Below.size (by assumption)))))⟩
      | true =>
        have e : plB xs ys m = allB ys (-12) 12 := by simp only [plB, h1, h2, h3]; rfl
        rw [e]
        clear e
        have hb0 := H.out.blk
        obtain ⟨n, hn⟩ : ∃ n, xs.length = n := ⟨_, rfl⟩
        obtain ⟨n', hn'⟩ : ∃ n, ys.length = n := ⟨_, rfl⟩
        have C1 := Lib.hid (fun w (h : RowI w b o xs) => (hn ▸ h3 ▸ allIn_any (-12) 12 b o c xs w h hm : Calls Try.prog 89 #[.slice (some ⟨b, o, none⟩) n c, .int .i64 (-12), .int .i64 12] w fun e w' => e = .returned (.bool true) ∧ Below w.heap.size w w'))
        have C2 := Lib.hid (fun w (h : RowI w b' o' ys) => (hn' ▸ allIn_any (-12) 12 b' o' c' ys w h hm' : Calls Try.prog 89 #[.slice (some ⟨b', o', none⟩) n' c', .int .i64 (-12), .int .i64 12] w fun e w' => e = .returned (.bool (allB ys (-12) 12)) ∧ Below w.heap.size w w'))
        rw [hn] at h1 h2 ⊢
        rw [hn'] at h1 ⊢
        have hnn : n = n' := by simp at h1; omega
        subst hnn
        clear hn hn' h3 hm hm' h1
        go_enter Try.func78, Try.ntmps78
        go_wp2_with (first | (go_at_call 54; refine (in_any _ _ _ _).mono ?_; rintro e w1 ⟨rfl, rfl⟩) | (go_at_call 89; with_reducible refine (C1.out _ H.out).mono ?_; rintro e w1 ⟨rfl, hb1⟩) | (go_at_call 89; with_reducible refine (C2.out _ (H'.out.below hb1)).mono ?_; rintro e w2 ⟨rfl, hb2⟩))
        go_ret
        exact ⟨rfl, hb1.trans (hb2.mono hb1.size)⟩

def wdB (xs : List Int) : Bool := xs.any fun x => x != gi xs 0
theorem wdB_iff {xs : List Int} : wdB xs = true ↔ ∃ k, k < xs.length ∧ gi xs k ≠ gi xs 0 := by
  unfold wdB
  rw [List.any_eq_true]
  constructor
  · rintro ⟨x, hx, h⟩
    obtain ⟨k, hk, rfl⟩ := List.getElem_of_mem hx
    exact ⟨k, hk, by rw [gi_eq hk]; simpa using h⟩
  · rintro ⟨k, hk, h⟩
    exact ⟨xs[k], List.getElem_mem hk, by rw [← gi_eq hk]; simpa using h⟩
def mnI (xs : List Int) : Nat → Int
  | 0 => gi xs 0
  | k + 1 => min (mnI xs k) (gi xs (k + 1))
def mxI (xs : List Int) : Nat → Int
  | 0 => gi xs 0
  | k + 1 => max (mxI xs k) (gi xs (k + 1))
theorem mnI_le (xs : List Int) : ∀ k j, j ≤ k → mnI xs k ≤ gi xs j
  | 0, j, h => by obtain rfl : j = 0 := by omega
                  exact Int.le_refl _
  | k + 1, j, h => by
    rw [mnI]
    by_cases e : j = k + 1
    · subst e; omega
    · have := mnI_le xs k j (by omega); omega
theorem mxI_ge (xs : List Int) : ∀ k j, j ≤ k → gi xs j ≤ mxI xs k
  | 0, j, h => by obtain rfl : j = 0 := by omega
                  exact Int.le_refl _
  | k + 1, j, h => by
    rw [mxI]
    by_cases e : j = k + 1
    · subst e; omega
    · have := mxI_ge xs k j (by omega); omega
theorem mn_same {xs : List Int} : ∀ k, (∀ j, j ≤ k → gi xs j = gi xs 0) → mnI xs k = gi xs 0 ∧ mxI xs k = gi xs 0
  | 0, _ => ⟨rfl, rfl⟩
  | k + 1, h => by
    have ih := mn_same k fun j hj => h j (by omega)
    have := h (k + 1) (Nat.le_refl _)
    rw [mnI, mxI]
    omega
theorem wd_min {xs : List Int} (h : 1 ≤ xs.length) : decide (mnI xs (xs.length - 1) < mxI xs (xs.length - 1)) = wdB xs := by
  cases hw : wdB xs with
  | true =>
    obtain ⟨k, hk, hne⟩ := wdB_iff.1 hw
    have h1 := mnI_le xs (xs.length - 1) k (by omega)
    have h2 := mnI_le xs (xs.length - 1) 0 (by omega)
    have h3 := mxI_ge xs (xs.length - 1) k (by omega)
    have h4 := mxI_ge xs (xs.length - 1) 0 (by omega)
    simp
    omega
  | false =>
    have : ∀ j, j ≤ xs.length - 1 → gi xs j = gi xs 0 := fun j hj => by
      rcases Int.lt_trichotomy (gi xs j) (gi xs 0) with e | e | e
      · have := (wdB_iff (xs := xs)).2 ⟨j, by omega, by omega⟩; rw [hw] at this; cases this
      · exact e
      · have := (wdB_iff (xs := xs)).2 ⟨j, by omega, by omega⟩; rw [hw] at this; cases this
    have := mn_same _ this
    simp
    omega

set_option maxHeartbeats 1000000 in
theorem min_any (b o c n : Nat) (xs : List Int) (w : World) (h : RowI w b o xs) (hn : xs.length = n) (h1 : 1 ≤ n) (hm : n ≤ 1099511627776) :
    Calls Try.prog 83 #[.slice (some ⟨b, o, none⟩) n c] w fun e w' => e = .returned (.int .i64 (mnI xs (n - 1))) ∧ w = w' := by
  have H := Lib.hid h
  have HN := Lib.hid hn
  have c0 := h.cell 0 (by omega)
  rw [Nat.add_zero] at c0
  have n0 : 0 < n := by omega
  have n1 : ¬ (n : Int) < 1 := by omega
  clear h hn
  go_enter Try.func83, Try.ntmps83
  go_wp2_with fail
  go_loop [3, 4] (fun v3 v4 => ∃ k : Nat, v4 = .int .i64 ((k + 1 : Nat) : Int) ∧ k + 1 ≤ n ∧ v3 = .int .i64 (mnI xs k)) (fun _ v4 => n - (intOf v4).toNat)
  case atStart => exact ⟨0, rfl, h1, rfl⟩
  case round =>
    obtain ⟨k, rfl, hk, rfl⟩ := hrel
    have hs : mnI xs (k + 1) = min (mnI xs k) (gi xs (k + 1)) := rfl
    obtain ⟨m, hm'⟩ : ∃ m, mnI xs k = m := ⟨_, rfl⟩
    rw [hm'] at hs ⊢
    have HM := Lib.hid hm'
    clear hm'
    by_cases hlt : k + 1 < n
    · have c1 := H.out.cell (k + 1) (by rw [HN.out]; exact hlt)
      obtain ⟨x, hx⟩ : ∃ x, gi xs (k + 1) = x := ⟨_, rfl⟩
      rw [hx] at c1 hs
      obtain ⟨r, hr⟩ : ∃ r, (if x < m then x else m) = r := ⟨_, rfl⟩
      have HR2 := Lib.hid (show min m x = r by rw [← hr]; split <;> omega)
      rw [HR2.out] at hs
      have HS := Lib.hid hs
      clear hs hx
      go_wp2_with fail
      go_round
      case rel => exact ⟨k + 1, by go_num, by omega, by first | rw [HS.out] | rw [HS.out, HR2.out]⟩
      case measure => simp [intOf]; omega
    · have e : k = n - 1 := by omega
      have HE := Lib.hid (show mnI xs (n - 1) = m by rw [← e, HM.out])
      clear hs e
      go_wp2_with fail
      go_ret
      exact ⟨by rw [HE.out]; rfl, rfl⟩
set_option maxHeartbeats 1000000 in
theorem max_any (b o c n : Nat) (xs : List Int) (w : World) (h : RowI w b o xs) (hn : xs.length = n) (h1 : 1 ≤ n) (hm : n ≤ 1099511627776) :
    Calls Try.prog 84 #[.slice (some ⟨b, o, none⟩) n c] w fun e w' => e = .returned (.int .i64 (mxI xs (n - 1))) ∧ w = w' := by
  have H := Lib.hid h
  have HN := Lib.hid hn
  have c0 := h.cell 0 (by omega)
  rw [Nat.add_zero] at c0
  have n0 : 0 < n := by omega
  have n1 : ¬ (n : Int) < 1 := by omega
  clear h hn
  go_enter Try.func84, Try.ntmps84
  go_wp2_with fail
  go_loop [3, 4] (fun v3 v4 => ∃ k : Nat, v4 = .int .i64 ((k + 1 : Nat) : Int) ∧ k + 1 ≤ n ∧ v3 = .int .i64 (mxI xs k)) (fun _ v4 => n - (intOf v4).toNat)
  case atStart => exact ⟨0, rfl, h1, rfl⟩
  case round =>
    obtain ⟨k, rfl, hk, rfl⟩ := hrel
    have hs : mxI xs (k + 1) = max (mxI xs k) (gi xs (k + 1)) := rfl
    obtain ⟨m, hm'⟩ : ∃ m, mxI xs k = m := ⟨_, rfl⟩
    rw [hm'] at hs ⊢
    have HM := Lib.hid hm'
    clear hm'
    by_cases hlt : k + 1 < n
    · have c1 := H.out.cell (k + 1) (by rw [HN.out]; exact hlt)
      obtain ⟨x, hx⟩ : ∃ x, gi xs (k + 1) = x := ⟨_, rfl⟩
      rw [hx] at c1 hs
      obtain ⟨r, hr⟩ : ∃ r, (if m < x then x else m) = r := ⟨_, rfl⟩
      have HR2 := Lib.hid (show max m x = r by rw [← hr]; split <;> omega)
      rw [HR2.out] at hs
      have HS := Lib.hid hs
      clear hs hx
      go_wp2_with fail
      go_round
      case rel => exact ⟨k + 1, by go_num, by omega, by first | rw [HS.out] | rw [HS.out, HR2.out]⟩
      case measure => simp [intOf]; omega
    · have e : k = n - 1 := by omega
      have HE := Lib.hid (show mxI xs (n - 1) = m by rw [← e, HM.out])
      clear hs e
      go_wp2_with fail
      go_ret
      exact ⟨by rw [HE.out]; rfl, rfl⟩

end Go.Proofs.Ytoioafadenniiaa
