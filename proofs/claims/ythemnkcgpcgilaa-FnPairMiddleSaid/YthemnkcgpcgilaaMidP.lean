/- The middles of pairs' sums and of differences: the other sign, the greatest, the two samples exchanged. No walk but that of laws.greatest. -/
import Derived.Test.YthemnkcgpcgilaaNeg
import Derived.Test.YthemnkcgpcgilaaShift
namespace Go.Proofs.Ythemnkcgpcgilaa
open Go.RowKit

theorem midI_perm {xs ys : List Int} (h : xs.Perm ys) : midI xs = midI ys := by
  have hs : srt xs = srt ys := srt_eq ((srt_perm xs).trans h) (srt_up xs)
  unfold midI
  rw [hs, h.length_eq]
theorem ngI_append (A B : List Int) : ngI (A ++ B) = ngI A ++ ngI B := by simp [ngI]
theorem ngI_tab (f : Nat → Int) (n : Nat) : ngI (tabI f n) = tabI (fun k => -f k) n := by simp [ngI, tabI]
theorem tabI_congr {f g : Nat → Int} {n : Nat} (h : ∀ k, k < n → f k = g k) : tabI f n = tabI g n := by
  refine eq_of_gi (by rw [tabI_length, tabI_length]) fun k hk => ?_
  rw [tabI_length] at hk
  rw [gi_tabI hk, gi_tabI hk, h k hk]
theorem prs_ng (xs : List Int) : ∀ i, i ≤ xs.length → prs (ngI xs) i = ngI (prs xs i)
  | 0, _ => rfl
  | i + 1, h => by
    rw [prs, prs, prs_ng xs i (by omega), ngI_append, ngI_tab]
    refine congrArg (ngI (prs xs i) ++ ·) (tabI_congr fun k hk => ?_)
    rw [gi_ngI (by omega), gi_ngI (by omega)]
    omega

/-- The greatest of the numbers up to the k-th. -/
def mxI (xs : List Int) : Nat → Int
  | 0 => gi xs 0
  | k + 1 => if mxI xs k < gi xs (k + 1) then gi xs (k + 1) else mxI xs k
theorem mxI_ge (xs : List Int) : ∀ k j, j ≤ k → gi xs j ≤ mxI xs k
  | 0, j, h => by have : j = 0 := by omega
                  subst this; exact Int.le_refl _
  | k + 1, j, h => by
    rw [mxI]
    by_cases e : j = k + 1
    · subst e; split <;> omega
    · have := mxI_ge xs k j (by omega)
      split <;> omega
theorem mxI_in (xs : List Int) {B : Int} (h : ∀ k, k < xs.length → -B ≤ gi xs k ∧ gi xs k ≤ B) : ∀ k, k < xs.length → -B ≤ mxI xs k ∧ mxI xs k ≤ B
  | 0, h0 => h 0 h0
  | k + 1, hk => by
    have h1 := mxI_in xs h k (by omega)
    have h2 := h (k + 1) hk
    rw [mxI]
    split <;> omega
theorem prs_max {xs : List Int} {M : Int} (h : ∀ k, k < xs.length → gi xs k ≤ M) : ∀ i, i ≤ xs.length → ∀ x ∈ prs xs i, x ≤ 2 * M
  | 0, _, x, hx => by cases hx
  | i + 1, hi, x, hx => by
    rw [prs] at hx
    rcases List.mem_append.1 hx with hx | hx
    · exact prs_max h i (by omega) x hx
    · unfold tabI at hx
      obtain ⟨k, hk, rfl⟩ := List.mem_map.1 hx
      have hk := List.mem_range.1 hk
      have h1 := h i (by omega)
      have h2 := h k (by omega)
      omega
theorem midI_max {xs : List Int} {M : Int} (h : ∀ x ∈ xs, x ≤ M) (h1 : 1 ≤ xs.length) : midI xs ≤ 2 * M := by
  have hs : ∀ k, k < xs.length → gi (srt xs) k ≤ M := fun k hk => by
    have hk' : k < (srt xs).length := by rw [srt_length]; exact hk
    rw [gi_eq hk']
    exact h _ ((srt_perm xs).mem_iff.1 (List.getElem_mem hk'))
  have a1 := hs ((xs.length - 1) / 2) (by omega)
  have a2 := hs (xs.length / 2) (by omega)
  unfold midI
  omega
theorem prs_pos {xs : List Int} (h : 1 ≤ xs.length) : 1 ≤ (prs xs xs.length).length := by
  obtain ⟨j, hj⟩ : ∃ j, xs.length = j + 1 := ⟨xs.length - 1, by omega⟩
  rw [hj, prs, List.length_append, tabI_length]
  omega
theorem pm_max {xs : List Int} (h : 1 ≤ xs.length) : midI (prs xs xs.length) ≤ 4 * mxI xs (xs.length - 1) := by
  have := midI_max (prs_max (M := mxI xs (xs.length - 1)) (fun k hk => mxI_ge xs _ k (by omega)) xs.length (Nat.le_refl _)) (prs_pos h)
  omega
theorem pmV_ng {xs : List Int} (hv : vdB xs = true) (h : 1 ≤ xs.length) : pmV (ngI xs) = (-midI (prs xs xs.length), true) := by
  have h1 : (ngI xs).length ≠ 0 := by rw [ngI_length]; omega
  have h2 : prs (ngI xs) (ngI xs).length = ngI (prs xs xs.length) := by rw [ngI_length]; exact prs_ng xs _ (Nat.le_refl _)
  simp [pmV, vdB_of (vd_ng (vd_of hv)), h2, midI_ng (prs_pos h), h1]
theorem pm_min {xs : List Int} (h : 1 ≤ xs.length) : -midI (prs xs xs.length) ≤ 4 * mxI (ngI xs) (xs.length - 1) := by
  have := pm_max (xs := ngI xs) (by rw [ngI_length]; exact h)
  rwa [ngI_length, prs_ng xs _ (Nat.le_refl _), midI_ng (prs_pos h)] at this

/-- All values of f, row after row. -/
def gridI (f : Nat → Nat → Int) (m : Nat) : Nat → List Int
  | 0 => []
  | n + 1 => gridI f m n ++ tabI (f n) m
theorem gridI_succ (f : Nat → Nat → Int) (n : Nat) : ∀ m, (gridI f (n + 1) m).Perm (gridI f n m ++ tabI (fun k => f k n) m)
  | 0 => List.Perm.refl _
  | m + 1 => by
    rw [gridI, gridI, tabI_succ, tabI_succ]
    refine ((gridI_succ f n m).append_right _).trans ?_
    simp only [List.append_assoc]
    refine List.Perm.append_left _ ?_
    rw [← List.append_assoc, ← List.append_assoc]
    exact List.Perm.append_right _ List.perm_append_comm
theorem gridI_swap (f : Nat → Nat → Int) (m : Nat) : ∀ n, (gridI f m n).Perm (gridI (fun i k => f k i) n m)
  | 0 => by
    have : ∀ m, gridI (fun i k => f k i) 0 m = [] := fun m => by
      induction m with
      | zero => rfl
      | succ m ih => rw [gridI, ih]; rfl
    rw [this]
    exact List.Perm.refl _
  | n + 1 => by
    rw [gridI]
    exact ((gridI_swap f m n).append_right _).trans (gridI_succ (fun i k => f k i) n m).symm
theorem shf_grid (xs ws : List Int) : ∀ i, shf xs ws i = gridI (fun i k => gi ws k - gi xs i) ws.length i
  | 0 => rfl
  | i + 1 => by rw [shf, gridI, shf_grid xs ws i]
theorem gridI_ng (f : Nat → Nat → Int) (m : Nat) : ∀ n, ngI (gridI f m n) = gridI (fun i k => -f i k) m n
  | 0 => rfl
  | n + 1 => by rw [gridI, gridI, ngI_append, gridI_ng f m n, ngI_tab]
theorem shf_swap (xs ws : List Int) : (shf ws xs ws.length).Perm (ngI (shf xs ws xs.length)) := by
  rw [shf_grid, shf_grid, gridI_ng]
  refine (gridI_swap _ _ _).trans ?_
  have e : (fun (i k : Nat) => (fun i k => gi xs k - gi ws i) k i) = fun i k => -(gi ws k - gi xs i) := by
    funext i k
    show gi xs i - gi ws k = -(gi ws k - gi xs i)
    omega
  rw [e]
theorem vs_swap {xs ws : List Int} (h : vsB xs ws = true) : vsB ws xs = true := by
  simp only [vsB, Bool.and_eq_true, decide_eq_true_eq] at h ⊢
  obtain ⟨⟨⟨⟨h1, h2⟩, h3⟩, h4⟩, h5⟩ := h
  exact ⟨⟨⟨⟨h2, h1⟩, by omega⟩, h5⟩, h4⟩
theorem sm_swap {xs ws : List Int} (h : vsB xs ws = true) : smV ws xs = (-midI (shf xs ws xs.length), true) := by
  simp only [smV, vs_swap h, if_true]
  rw [midI_perm (shf_swap xs ws), midI_ng (shf_pos (vs_of h))]
theorem sm_self (xs : List Int) : (smV xs xs).1 = 0 := by
  cases h : vsB xs xs with
  | false => simp [smV, h]
  | true =>
    have h1 := sm_swap h
    have h2 : smV xs xs = (midI (shf xs xs xs.length), true) := by simp only [smV, h, if_true]
    rw [h2] at h1
    have := congrArg Prod.fst h1
    simp only at this
    rw [h2]
    show midI (shf xs xs xs.length) = 0
    omega
theorem midI_in {xs : List Int} {B : Int} (h : ∀ x ∈ xs, -B ≤ x ∧ x ≤ B) (h1 : 1 ≤ xs.length) : -(2 * B) ≤ midI xs ∧ midI xs ≤ 2 * B := by
  have hb := bound_of_mem h
  have a1 := srt_bound hb ((xs.length - 1) / 2) (by omega)
  have a2 := srt_bound hb (xs.length / 2) (by omega)
  unfold midI
  omega

set_option maxHeartbeats 1000000 in
theorem greatest_any (b o c : Nat) (xs : List Int) (w : World) (h : RowI w b o xs) (hl : xs.length ≤ 1048576) (h1 : 1 ≤ xs.length) :
    Calls Try.prog 31 #[.slice (some ⟨b, o, none⟩) xs.length c] w fun e w' => e = .returned (.int .i64 (mxI xs (xs.length - 1))) ∧ w = w' := by
  have H := Lib.hid h
  have y0 := h.cell 0 (by omega)
  have q0 : (0 : Int) < (xs.length : Int) := by omega
  rw [Nat.add_zero] at y0
  clear h
  go_enter Try.func31, Try.ntmps31
  go_wp2_with fail
  go_loop [3, 4] (fun v3 v4 => ∃ k : Nat, v4 = .int .i64 ((k + 1 : Nat) : Int) ∧ k + 1 ≤ xs.length ∧ v3 = .int .i64 (mxI xs k)) (fun _ v4 => xs.length + 1 - (intOf v4).toNat)
  case atStart => exact ⟨0, rfl, by omega, rfl⟩
  case round =>
    obtain ⟨k, rfl, hk, rfl⟩ := hrel
    by_cases hlt : k + 1 < xs.length
    · have y1 := H.out.cell (k + 1) hlt
      have q1 : IntKind.i64.wrap (((k + 1 : Nat) : Int) + 1) = ((k + 1 + 1 : Nat) : Int) := by rw [IntWalk.i64_in _ (by omega)]; omega
      have q2 : ((k + 1 : Nat) : Int) < (xs.length : Int) := by omega
      have s1 : mxI xs (k + 1) = if mxI xs k < gi xs (k + 1) then gi xs (k + 1) else mxI xs k := rfl
      obtain ⟨x, hx⟩ : ∃ x, gi xs (k + 1) = x := ⟨_, rfl⟩
      obtain ⟨m, hm⟩ : ∃ m, mxI xs k = m := ⟨_, rfl⟩
      rw [hx] at y1 s1
      rw [hm] at s1 ⊢
      obtain ⟨r, hr⟩ : ∃ r, (if m < x then x else m) = r := ⟨_, rfl⟩
      rw [hr] at s1
      have hmx : max m x = r := by rw [← hr]; split <;> omega
      have HMX := Lib.hid hmx
      have S1 := Lib.hid s1
      clear s1 hx hm hr hmx
      go_wp2_with fail
      go_round
      case rel => exact ⟨k + 1, by go_num, by omega, by rw [S1.out, HMX.out]⟩
      case measure => simp [intOf]; omega
    · have e : k = xs.length - 1 := by omega
      subst e
      have q2 : ¬ ((xs.length - 1 + 1 : Nat) : Int) < (xs.length : Int) := by omega
      go_wp2_with fail
      go_ret
      exact ⟨rfl, rfl⟩

end Go.Proofs.Ythemnkcgpcgilaa
