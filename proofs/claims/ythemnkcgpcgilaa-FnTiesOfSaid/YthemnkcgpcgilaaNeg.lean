/- laws.negated, and the middle of numbers turned to the other sign. -/
import Derived.Test.YthemnkcgpcgilaaMid
import Derived.Test.YthemnkcgpcgilaaGrow
import Derived.Deep.DeepCutAuto
namespace Go.Proofs.Ythemnkcgpcgilaa
open Go.RowKit

/-- The numbers of the other sign. -/
def ngI (xs : List Int) : List Int := xs.map fun x => -x
theorem ngI_length (xs : List Int) : (ngI xs).length = xs.length := by simp [ngI]
theorem gi_ngI {xs : List Int} {k : Nat} (h : k < xs.length) : gi (ngI xs) k = -gi xs k := by
  rw [gi_eq (by rw [ngI_length]; exact h), gi_eq h]
  simp [ngI]
theorem gi_rev {L : List Int} {k : Nat} (h : k < L.length) : gi L.reverse k = gi L (L.length - 1 - k) := by
  rw [gi_eq (by rw [List.length_reverse]; exact h), gi_eq (by omega)]
  exact List.getElem_reverse _
theorem srt_ngI (xs : List Int) : srt (ngI xs) = (ngI (srt xs)).reverse := by
  refine (srt_eq ?_ ?_).symm
  · exact (List.reverse_perm _).trans ((srt_perm xs).map _)
  · rw [List.pairwise_reverse]
    unfold ngI
    rw [List.pairwise_map]
    exact (srt_up xs).imp fun h => by omega
theorem midI_ng {xs : List Int} (h : 1 ≤ xs.length) : midI (ngI xs) = -midI xs := by
  have e1 : (ngI xs).length = xs.length := ngI_length xs
  have e2 : (ngI (srt xs)).length = xs.length := by rw [ngI_length, srt_length]
  unfold midI
  rw [srt_ngI, e1, gi_rev (by omega), gi_rev (by omega), e2, gi_ngI (by rw [srt_length]; omega), gi_ngI (by rw [srt_length]; omega)]
  rw [show xs.length - 1 - (xs.length - 1) / 2 = xs.length / 2 by omega, show xs.length - 1 - xs.length / 2 = (xs.length - 1) / 2 by omega]
  omega
theorem srt_le' {xs : List Int} {i j : Nat} (h : i ≤ j) (hj : j < xs.length) : gi (srt xs) i ≤ gi (srt xs) j := by
  rcases Nat.lt_or_eq_of_le h with h | rfl
  · have hj' : j < (srt xs).length := by rw [srt_length]; exact hj
    rw [gi_eq (by omega), gi_eq hj']
    exact List.pairwise_iff_getElem.1 (srt_up xs) i j (by omega) hj' h
  · exact Int.le_refl _

/-- How many of the first k numbers pass a test. -/
def cpI (p : Int → Bool) (xs : List Int) (k : Nat) : Nat := (xs.take k).countP p
theorem cpI_step (p : Int → Bool) {xs : List Int} {k : Nat} (h : k < xs.length) : cpI p xs (k + 1) = cpI p xs k + (p (gi xs k)).toNat := by
  unfold cpI
  rw [List.take_succ_eq_append_getElem h, List.countP_append, List.countP_singleton, gi_eq h]
  cases p xs[k] <;> rfl
theorem cpI_le (p : Int → Bool) (xs : List Int) (k : Nat) : cpI p xs k ≤ k :=
  Nat.le_trans List.countP_le_length (by rw [List.length_take]; omega)
theorem cpI_all (p : Int → Bool) (xs : List Int) : cpI p xs xs.length = (srt xs).countP p := by
  unfold cpI
  rw [List.take_length]
  exact ((srt_perm xs).countP_eq p).symm
theorem lower_le {xs : List Int} (h : 1 ≤ xs.length) : 2 * cpI (fun x => decide (2 * x < midI xs)) xs xs.length ≤ xs.length := by
  rw [cpI_all, ← List.take_append_drop (xs.length / 2) (srt xs), List.countP_append]
  have h1 : List.countP (fun x => decide (2 * x < midI xs)) ((srt xs).take (xs.length / 2)) ≤ xs.length / 2 := Nat.le_trans List.countP_le_length (by rw [List.length_take]; omega)
  have h2 : List.countP (fun x => decide (2 * x < midI xs)) ((srt xs).drop (xs.length / 2)) = 0 := by
    rw [List.countP_eq_zero]
    intro x hx
    obtain ⟨j, hj, rfl⟩ := List.getElem_of_mem hx
    rw [List.length_drop, srt_length] at hj
    rw [List.getElem_drop, ← gi_eq]
    have a1 := srt_le' (xs := xs) (i := xs.length / 2) (j := xs.length / 2 + j) (by omega) (by omega)
    have a2 := srt_le' (xs := xs) (i := (xs.length - 1) / 2) (j := xs.length / 2) (by omega) (by omega)
    intro hc
    have hc' := of_decide_eq_true hc
    have hm : midI xs = gi (srt xs) ((xs.length - 1) / 2) + gi (srt xs) (xs.length / 2) := rfl
    omega
  omega
theorem upper_le {xs : List Int} (h : 1 ≤ xs.length) : 2 * cpI (fun x => decide (midI xs < 2 * x)) xs xs.length ≤ xs.length := by
  rw [cpI_all, ← List.take_append_drop ((xs.length - 1) / 2 + 1) (srt xs), List.countP_append]
  have h1 : List.countP (fun x => decide (midI xs < 2 * x)) ((srt xs).drop ((xs.length - 1) / 2 + 1)) ≤ xs.length / 2 := Nat.le_trans List.countP_le_length (by rw [List.length_drop, srt_length]; omega)
  have h2 : List.countP (fun x => decide (midI xs < 2 * x)) ((srt xs).take ((xs.length - 1) / 2 + 1)) = 0 := by
    rw [List.countP_eq_zero]
    intro x hx
    obtain ⟨j, hj, rfl⟩ := List.getElem_of_mem hx
    rw [List.length_take, srt_length] at hj
    rw [List.getElem_take, ← gi_eq]
    have a1 := srt_le' (xs := xs) (i := j) (j := (xs.length - 1) / 2) (by omega) (by omega)
    have a2 := srt_le' (xs := xs) (i := (xs.length - 1) / 2) (j := xs.length / 2) (by omega) (by omega)
    intro hc
    have hc' := of_decide_eq_true hc
    have hm : midI xs = gi (srt xs) ((xs.length - 1) / 2) + gi (srt xs) (xs.length / 2) := rfl
    omega
  omega
theorem vd_ng {xs : List Int} (h : Vd xs) : Vd (ngI xs) :=
  ⟨by rw [ngI_length]; exact h.n10, fun k hk => by rw [ngI_length] at hk; rw [gi_ngI hk]; have := h.x k hk; omega⟩
theorem midV_ng {xs : List Int} (hv : vdB xs = true) (h : 1 ≤ xs.length) : midV (ngI xs) = (-midI xs, true) := by
  have h1 : (ngI xs).length ≠ 0 := by rw [ngI_length]; omega
  simp [midV, vdB_of (vd_ng (vd_of hv)), midI_ng h, h1]

set_option maxHeartbeats 1000000 in
theorem negated_any (b o c : Nat) (xs : List Int) (w : World) (h : RowI w b o xs) (hl : xs.length ≤ 1048576) (hx : ∀ k, k < xs.length → -1000000 ≤ gi xs k ∧ gi xs k ≤ 1000000) :
    Calls Try.prog 28 #[.slice (some ⟨b, o, none⟩) xs.length c] w fun e w' => ∃ g1 c1,
      e = .returned (.slice (some ⟨g1, 0, none⟩) xs.length c1) ∧ OwnI w' w.heap.size (.slice (some ⟨g1, 0, none⟩) xs.length c1) xs.length (ngI xs) ∧ Below w.heap.size w w' := by
  have H := Lib.hid h
  have HX := Lib.hid hx
  clear h hx
  go_enter Try.func28, Try.ntmps28
  go_wp2_with fail
  go_loopw [3, 4] (fun v3 v4 wr => ∃ k g cap : Nat, v4 = .int .i64 k ∧ k ≤ xs.length ∧ v3 = .slice (some ⟨g, 0, none⟩) k cap ∧ OwnI wr w.heap.size (.slice (some ⟨g, 0, none⟩) k cap) k (ngI (xs.take k)) ∧ Below w.heap.size w wr)
    (fun _ v4 _ => xs.length - (intOf v4).toNat)
  case atStart => exact ⟨0, w.heap.size, 0, rfl, by omega, rfl, World.ownsRow_made w #[] 0 (Nat.le_refl _) (by unfold maxLen; omega) rfl, by (repeat' (first | (with_reducible exact Below.refl _ _) | (with_reducible assumption) | (with_reducible refine Below.drewN ?_ _) | (with_reducible refine Below.alloc ?_ ?_ _) | (with_reducible refine Below.drew ?_) | (with_reducible refine Below.setCell ?_ ?_ _) | (with_reducible refine Below.trans ?_ (Below.mono (by assumption) ?_)) | go_size | (with_reducible refine Nat.le_trans ?_ (Below.size (by assumption)))))⟩
  case round =>
    obtain ⟨k, g, cap, rfl, hk, rfl, ht, hb⟩ := hrel
    have HT := Lib.hid ht
    have HB := Lib.hid hb
    have hz := hb.size
    by_cases hlt : k < xs.length
    · have c1 := (H.out.below hb).cell k hlt
      have hxk := HX.out k hlt
      have e1 := gi_ngI hlt
      have e2 : ngI (xs.take k) ++ [-gi xs k] = ngI (xs.take (k + 1)) := by unfold ngI; rw [List.take_succ_eq_append_getElem hlt, List.map_append, gi_eq hlt]; rfl
      obtain ⟨x, hxe⟩ : ∃ x, gi xs k = x := ⟨_, rfl⟩
      rw [hxe] at c1 hxk e2
      have q1 : IntKind.i64.wrap (-x) = -x := IntWalk.i64_in _ (by omega)
      have E2 := Lib.hid e2
      clear e1 e2 hxe ht hb
      go_wp2_with (at_builtin; refine wpList_app1 rfl (.tmp 12) (.tmp 18) 22 rfl w.heap.size 3 (.int .i64 0) 1 8 Try.underlying22 infoI rfl (by decide) (by decide) _ _ _ rfl (World.ownsRow.alloc HT.out _) ⟨_, 0, none⟩ 1 [.int .i64 _] rfl rfl (cell_one_new _ _ _) (by simp [Value.oneCell']) (by omega) (by simp; omega) ?_; intro g6 cap6 w6 o1 o2 o3)
      go_roundw
      case rel => exact ⟨k + 1, g6, cap6, by go_num, by omega, rfl, by have := OwnI.app o1; rw [E2.out] at this; exact this, (HB.out.alloc hz _).trans (Below.app (World.ownsRow.alloc HT.out _) (by simp; omega) o2)⟩
      case measure => simp [intOf]; omega
    · have e : k = xs.length := by omega
      subst e
      go_wp2_with fail
      go_ret
      rw [List.take_length] at HT
      exact ⟨g, cap, rfl, HT.out, HB.out⟩

end Go.Proofs.Ythemnkcgpcgilaa
