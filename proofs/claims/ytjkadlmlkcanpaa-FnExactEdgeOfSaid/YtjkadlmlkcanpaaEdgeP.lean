/- Edges: what is wrong at an edge, the search for the best one; the plain reckoning; and slices.Compact, slices.Max on numbers. -/
import Derived.Test.YtjkadlmlkcanpaaMarkP
import Derived.Test.YtjkadlmlkcanpaaSorted
namespace Go.Proofs.Ytjkadlmlkcanpaa
open Go.RowKit Go.Sort

def wrB (x m e u : Int) : Bool := decide (e ≤ x) != (m == u)
/-- How many of the first k are wrong at the edge e. -/
def wrI (xs ws : List Int) (e u : Int) : Nat → Nat
  | 0 => 0
  | k + 1 => wrI xs ws e u k + (wrB (gi xs k) (gi ws k) e u).toNat
theorem wrI_le (xs ws : List Int) (e u : Int) : ∀ k, wrI xs ws e u k ≤ k
  | 0 => Nat.le_refl _
  | k + 1 => by
    have ih := wrI_le xs ws e u k
    rw [wrI]
    cases wrB (gi xs k) (gi ws k) e u <;> simp <;> omega
/-- One more edge, one side. -/
def stE (W : Int → Int → Int) (s : Int × Int × Int) (e u : Int) : Int × Int × Int := if W e u < s.2.2 then (e, u, W e u) else s
def stE2 (W : Int → Int → Int) (s : Int × Int × Int) (e : Int) : Int × Int × Int := stE W (stE W s e 0) e 1
theorem stE_le (W : Int → Int → Int) (s : Int × Int × Int) (e u : Int) : (stE W s e u).2.2 ≤ s.2.2 ∧ (stE W s e u).2.2 ≤ W e u := by
  unfold stE
  split
  · exact ⟨by show W e u ≤ _; omega, Int.le_refl _⟩
  · exact ⟨Int.le_refl _, by omega⟩
theorem stE_id {W : Int → Int → Int} {s : Int × Int × Int} {e u : Int} (h : s.2.2 ≤ W e u) : stE W s e u = s := by
  unfold stE
  rw [if_neg (by omega)]
theorem stE2_id (W : Int → Int → Int) (s : Int × Int × Int) (e : Int) : stE2 W (stE2 W s e) e = stE2 W s e := by
  have h1 := stE_le W s e 0
  have h2 := stE_le W (stE W s e 0) e 1
  have a0 : (stE2 W s e).2.2 ≤ W e 0 := by unfold stE2; omega
  have a1 : (stE2 W s e).2.2 ≤ W e 1 := by unfold stE2; omega
  show stE W (stE W (stE2 W s e) e 0) e 1 = _
  rw [stE_id a0, stE_id a1]
def foE (W : Int → Int → Int) (s : Int × Int × Int) (L : List Int) : Int × Int × Int := L.foldl (stE2 W) s
theorem foE_snoc (W : Int → Int → Int) (s : Int × Int × Int) (L : List Int) (e : Int) : foE W s (L ++ [e]) = stE2 W (foE W s L) e := by simp [foE]
theorem foE_compactUpTo (W : Int → Int → Int) (s : Int × Int × Int) (zs : List Int) : ∀ m, m ≤ zs.length → foE W s (Lib.compactUpTo zs.toArray m) = foE W s (zs.take m)
  | 0, _ => by simp [Lib.compactUpTo]
  | m + 1, h => by
    have ih := foE_compactUpTo W s zs m (by omega)
    have e1 : zs.toArray[m]! = zs[m]'(by omega) := by simp [show m < zs.length by omega]
    rw [Lib.compactUpTo_succ, List.take_succ_eq_append_getElem (by omega), foE_snoc]
    cases hk : Lib.keeps zs.toArray m with
    | true => simp only [if_true]; rw [foE_snoc, ih, e1]
    | false =>
      have hm : 0 < m := by
        rcases Nat.eq_zero_or_pos m with rfl | hm
        · rw [Lib.keeps_lt_one _ 0 (by omega)] at hk; cases hk
        · exact hm
      have e2 : zs.toArray[m - 1]! = zs[m - 1]'(by omega) := by simp [show m - 1 < zs.length by omega]
      have e3 : zs[m]'(by omega) = zs[m - 1]'(by omega) := by
        rw [← e1, ← e2]
        refine Classical.byContradiction fun hne => ?_
        rw [Lib.keeps_pos hne] at hk
        cases hk
      simp only [Bool.false_eq_true, if_false, List.append_nil]
      rw [ih, e3]
      have e4 : zs.take m = zs.take (m - 1) ++ [zs[m - 1]'(by omega)] := by
        have := List.take_succ_eq_append_getElem (l := zs) (i := m - 1) (by omega)
        rwa [show m - 1 + 1 = m by omega] at this
      rw [e4, foE_snoc, stE2_id]
theorem foE_compact (W : Int → Int → Int) (s : Int × Int × Int) (zs : List Int) : foE W s (Lib.compact zs) = foE W s zs := by
  unfold Lib.compact
  rw [foE_compactUpTo W s zs _ (Nat.le_refl _), List.take_length]
theorem foE_head {W : Int → Int → Int} {n : Int} (L : List Int) (e : Int) (h : W e 0 < n) : foE W (e, 0, W e 0) (e :: L) = foE W (0, 0, n) (e :: L) := by
  show L.foldl (stE2 W) (stE2 W (e, 0, W e 0) e) = L.foldl (stE2 W) (stE2 W (0, 0, n) e)
  have h1 : stE W (e, 0, W e 0) e 0 = (e, 0, W e 0) := stE_id (Int.le_refl _)
  have h2 : stE W (0, 0, n) e 0 = (e, 0, W e 0) := by unfold stE; rw [if_pos h]
  unfold stE2
  rw [h1, h2]

theorem foE_first {W : Int → Int → Int} {n : Int} (L : List Int) (h0 : 1 ≤ L.length) (h : W (gi L 0) 0 < n) : foE W (gi L 0, 0, W (gi L 0) 0) L = foE W (0, 0, n) L := by
  cases L with
  | nil => cases h0
  | cons e L => exact foE_head L e h

/-- All edges: the numbers by size, and one above all. -/
def edL (xs : List Int) : List Int := srt xs ++ [gi (srt xs) (xs.length - 1) + 1]
def edW (xs ws : List Int) (e u : Int) : Int := (wrI xs ws e u xs.length : Nat)
def edV (xs ws : List Int) : Int × Int × Int := if vcB xs ws then foE (edW xs ws) (0, 0, (xs.length : Int) + 1) (edL xs) else (0, 0, -1)
theorem ed_in {xs : List Int} (hx : ∀ k, k < xs.length → -200 ≤ gi xs k ∧ gi xs k ≤ 200) (h0 : 1 ≤ xs.length) : ∀ k, k < (edL xs).length → -200 ≤ gi (edL xs) k ∧ gi (edL xs) k ≤ 201 := fun k hk => by
  have hs : ∀ j, j < xs.length → -200 ≤ gi (srt xs) j ∧ gi (srt xs) j ≤ 200 := fun j hj => by
    have hj' : j < (srt xs).length := by rw [srt_length]; exact hj
    have hm : gi (srt xs) j ∈ xs := by rw [gi_eq hj']; exact (srt_perm xs).mem_iff.1 (List.getElem_mem hj')
    obtain ⟨i, hi, e⟩ := List.getElem_of_mem hm
    have := hx i hi
    rwa [gi_eq hi, e] at this
  have h1 := hs (xs.length - 1) (by omega)
  unfold edL at hk ⊢
  rw [List.length_append, srt_length, List.length_singleton] at hk
  by_cases hkx : k < xs.length
  · have h2 := hs k hkx
    rw [gi_eq (by rw [List.length_append, srt_length]; omega), List.getElem_append_left (by rw [srt_length]; exact hkx), ← gi_eq]
    omega
  · rw [gi_eq (by rw [List.length_append, srt_length, List.length_singleton]; omega), List.getElem_append_right (by rw [srt_length]; omega)]
    simp only [List.getElem_singleton]
    omega

theorem max_spec (zs : List Int) : ∀ k, 1 ≤ k → k ≤ zs.length → (∀ j, j < k → gi zs j ≤ Lib.maxOf (zs.take k)) ∧ ∃ j, j < k ∧ Lib.maxOf (zs.take k) = gi zs j
  | 0, h, _ => absurd h (by omega)
  | k + 1, _, hk => by
    by_cases h0 : k = 0
    · subst h0
      have e : Lib.maxOf (zs.take (0 + 1)) = gi zs 0 := Lib.maxOf_one zs
      exact ⟨fun j hj => by have : j = 0 := by omega
                            subst this; omega, 0, by omega, e⟩
    · obtain ⟨h1, j, hj, h2⟩ := max_spec zs k (by omega) (by omega)
      have e : Lib.maxOf (zs.take (k + 1)) = max (Lib.maxOf (zs.take k)) (gi zs k) := Lib.maxOf_step zs k (by omega) (by omega)
      refine ⟨fun i hi => ?_, ?_⟩
      · by_cases hik : i = k
        · subst hik; omega
        · have := h1 i (by omega); omega
      · by_cases hm : gi zs k ≤ Lib.maxOf (zs.take k)
        · exact ⟨j, by omega, by omega⟩
        · exact ⟨k, by omega, by omega⟩
theorem max_last {xs : List Int} (h0 : 1 ≤ xs.length) : Lib.maxOf xs = gi (srt xs) (xs.length - 1) := by
  obtain ⟨h1, j, hj, h2⟩ := max_spec xs xs.length h0 (Nat.le_refl _)
  rw [List.take_length] at h1 h2
  have hl : xs.length - 1 < (srt xs).length := by rw [srt_length]; omega
  apply Int.le_antisymm
  · rw [h2]
    have hm : gi xs j ∈ srt xs := (srt_perm xs).mem_iff.2 (by rw [gi_eq hj]; exact List.getElem_mem hj)
    obtain ⟨i, hi, e⟩ := List.getElem_of_mem hm
    rw [← e, gi_eq hl]
    rw [srt_length] at hi
    rcases Nat.lt_or_eq_of_le (show i ≤ xs.length - 1 by omega) with h | h
    · exact List.pairwise_iff_getElem.1 (srt_up xs) i (xs.length - 1) (by rw [srt_length]; omega) hl h
    · simp only [h]; exact Int.le_refl _
  · have hm : gi (srt xs) (xs.length - 1) ∈ xs := by rw [gi_eq hl]; exact (srt_perm xs).mem_iff.1 (List.getElem_mem hl)
    obtain ⟨i, hi, e⟩ := List.getElem_of_mem hm
    rw [← e, ← gi_eq hi]
    exact h1 i hi
theorem max_any (b o c : Nat) (xs : List Int) (w : World) (h : RowI w b o xs) (h0 : 1 ≤ xs.length) (hl : xs.length ≤ 1000000) :
    Calls Try.prog 67 #[.slice (some ⟨b, o, none⟩) xs.length c] w fun e w' => e = .returned (.int .i64 (gi (srt xs) (xs.length - 1))) ∧ w = w' := by
  refine (sh_slices_Max_int b o xs.length c xs w (by omega) (Nat.le_refl _) (by omega) h.cell).mono ?_
  rintro e w' ⟨rfl, rfl⟩
  rw [List.take_length, max_last h0]
  exact ⟨rfl, rfl⟩

theorem compact_len (zs : List Int) : (Lib.compact zs).length ≤ zs.length := by
  unfold Lib.compact Lib.compactUpTo
  rw [List.length_map]
  exact Nat.le_trans (List.length_filter_le _ _) (by rw [List.length_range]; exact Nat.le_refl _)
theorem compact_own (base g cap : Nat) (xs : List Int) (w : World) (h : OwnI w base (.slice (some ⟨g, 0, none⟩) xs.length cap) xs.length xs) (hl : xs.length ≤ 1000000) :
    Calls Try.prog 84 #[.slice (some ⟨g, 0, none⟩) xs.length cap] w
      fun e w' => e = .returned (.slice (some ⟨g, 0, none⟩) (Lib.compact xs).length cap) ∧ OwnI w' base (.slice (some ⟨g, 0, none⟩) (Lib.compact xs).length cap) (Lib.compact xs).length (Lib.compact xs) ∧ w.grownBy w' (some g) := by
  have hcl := compact_len xs
  rcases h.2 with ⟨h1, _⟩ | ⟨g', cap', cur, hv, hb, hg, hnc, hcm, hcs, htake⟩
  · cases h1
  · cases hv
    rw [Nat.mul_one] at htake
    refine (sh_slices_Compact_int g 0 cap xs w (holds_of_blockI hg htake) (by omega) hnc).mono ?_
    rintro e w' ⟨rfl, q, rfl⟩
    have hg2 := grownBy_sortedI (w := w) (g := g) (n := q) (os := #[]) (Lib.compact xs ++ List.replicate (xs.length - (Lib.compact xs).length) 0).toArray
    rw [grow_empty] at hg2
    have ho := ownsRow_sortedI (os := #[]) (n := q) (base := base) (ss := xs) (ts := Lib.compact xs ++ List.replicate (xs.length - (Lib.compact xs).length) 0) (by rw [List.length_append, List.length_replicate]; omega) hb hg hnc hcm (by omega)
    rw [grow_empty] at ho
    refine ⟨rfl, ?_, hg2⟩
    rcases ho.2 with ⟨h1, _⟩ | ⟨g', cap', cur', hv', hb', hg', hnc', hcm', hcs', htake'⟩
    · cases h1
    · cases hv'
      refine ⟨by simp [ic], .inr ⟨g, cap, cur', rfl, hb', hg', by omega, hcm', hcs', ?_⟩⟩
      rw [Nat.mul_one] at htake' ⊢
      have : cur'.toList.take (Lib.compact xs).length = (cur'.toList.take xs.length).take (Lib.compact xs).length := by rw [List.take_take, Nat.min_eq_left hcl]
      rw [this, htake', List.map_append, List.take_append_of_le_length (by simp), List.take_of_length_le (by simp)]
      rfl

theorem valuesOf_any (b o c : Nat) (xs : List Int) (w : World) (h : RowI w b o xs) (hl : xs.length ≤ 1000000) (hn0 : 1 ≤ xs.length) :
    Calls Try.prog 66 #[.slice (some ⟨b, o, none⟩) xs.length c] w
      fun e w' => ∃ g cap, e = .returned (.slice (some ⟨g, 0, none⟩) (Lib.compact (srt xs)).length cap) ∧ OwnI w' w.heap.size (.slice (some ⟨g, 0, none⟩) (Lib.compact (srt xs)).length cap) (Lib.compact (srt xs)).length (Lib.compact (srt xs)) ∧ Below w.heap.size w w' := by
  have HS := Lib.hid (sorted_any b o c xs w h hl hn0)
  have hlen := srt_length xs
  clear h
  go_enter Try.func66, Try.ntmps66
  go_wp2_with fail
  refine HS.out.mono ?_
  rintro e w1 ⟨g, cap, rfl, ho, hb⟩
  have C := compact_own w.heap.size g cap (srt xs) w1 (by rw [hlen]; exact ho) (by omega)
  rw [hlen] at C
  have hgb := (Blk.of_own ho).2
  have HB := Lib.hid hb
  clear ho hb hlen
  go_wp2_with fail
  refine C.mono ?_
  rintro e w2 ⟨rfl, ho2, hg2⟩
  have HO := Lib.hid ho2
  clear ho2 C
  go_wp2_with fail
  go_ret
  exact ⟨g, cap, rfl, HO.out, HB.out.grown hg2 HB.out.size (fun k hk => by cases hk; exact hgb)⟩

end Go.Proofs.Ytjkadlmlkcanpaa
