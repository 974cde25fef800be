/- Copies of rows, and rows turned round in place. -/
import Derived.Test.YtcmbfkdhfdiamaaSmall3
import Derived.Lib.SliceRun
namespace Go.Proofs.Ytcmbfkdhfdiamaa
open Go.RowKit

set_option maxHeartbeats 1000000 in
theorem clone_row (b o c : Nat) (xs : List Int) (w : World) (h : RowI w b o xs) (hl : xs.length ≤ 1048576) (hn : 1 ≤ xs.length) :
    Calls Try.prog 80 #[.slice (some ⟨b, o, none⟩) xs.length c] w fun e w' => ∃ g cap, e = .returned (.slice (some ⟨g, 0, none⟩) xs.length cap) ∧ OwnI w' w.heap.size (.slice (some ⟨g, 0, none⟩) xs.length cap) xs.length xs ∧ Below w.heap.size w w' := by
  have H := Lib.hid h
  clear h
  obtain ⟨i0, hi, hz0, hz1, hz2⟩ := info_parts infoI
  have q22 : ∀ (w : World) (a : Option Addr) (n c n' c' : Nat), (binOp .eql 23 (.slice a n c) (.slice none n' c')).run Try.prog w = .ok (.bool a.isNone) w := fun w a n c n' c' => Lib.run_eql_slice_nil w _ _ a n c n' c' Try.underlying23
  go_enter Try.func80, Try.ntmps80
  have own0 : (w.alloc (.cells #[] 3)).ownsRow w.heap.size 3 1 (.slice (some ⟨w.heap.size, 0, none⟩) 0 0) 0 [] := World.ownsRow_made w #[] 0 (Nat.le_refl _) (by unfold maxLen; omega) rfl
  have r5 := H.out.below (below_alloc (W := w) (o := .cells #[] 3))
  have hcs : ∀ j v, (ic xs)[j]? = some v → (w.alloc (.cells #[] 3)).cell? ((⟨b, o, none⟩ : Addr).add j) = some v := by
    intro j v hj
    by_cases hk : j < xs.length
    · have := r5.cell j hk
      rw [get_ic hk] at hj
      cases hj
      rw [← this]
      by_cases h0 : j = 0
      · subst h0; rfl
      · simp [Addr.add, h0]
    · rw [List.getElem?_eq_none (by rw [ic_length]; omega)] at hj
      cases hj
  go_wp2_with (at_builtin; refine wpList_append_own _ rfl (.tmp 5) (.tmp 6) 23 rfl w.heap.size 3 i0 (.int .i64 0) 1 8 Try.underlying23 hi hz0 hz1 hz2 rfl (by decide) _ 0 [] rfl own0 ⟨b, o, none⟩ xs.length c (ic xs) rfl (by rw [ic_length, Nat.mul_one]) hcs (by simp [ic, Value.oneCell']) (by unfold maxLen; omega) (by omega) (by simp) ?_; intro v6 w6 o1 o2 o3)
  rw [List.nil_append, Nat.zero_add] at o1
  obtain ⟨g, cap, rfl, hg⟩ := OwnI.shape (xs := xs) o1 (by omega)
  go_wp2_with fail
  go_ret
  exact ⟨g, cap, rfl, o1, (below_alloc (W := w) (o := .cells #[] 3)).trans (Below.app own0 (by simp) o2)⟩

set_option maxHeartbeats 1000000 in
theorem clone_nil (a : Option Addr) (c : Nat) (w : World) :
    Calls Try.prog 80 #[.slice a 0 c] w fun e w' => ∃ a' c', e = .returned (.slice a' 0 c') ∧ Below w.heap.size w w' := by
  obtain ⟨i0, hi, hz0, hz1, hz2⟩ := info_parts infoI
  have q22 : ∀ (w : World) (a : Option Addr) (n c n' c' : Nat), (binOp .eql 23 (.slice a n c) (.slice none n' c')).run Try.prog w = .ok (.bool a.isNone) w := fun w a n c n' c' => Lib.run_eql_slice_nil w _ _ a n c n' c' Try.underlying23
  go_enter Try.func80, Try.ntmps80
  cases a with
  | none =>
    go_wp2_with fail
    go_ret
    exact ⟨_, _, rfl, Below.refl _ _⟩
  | some a =>
    have own0 : (w.alloc (.cells #[] 3)).ownsRow w.heap.size 3 1 (.slice (some ⟨w.heap.size, 0, none⟩) 0 0) 0 [] := World.ownsRow_made w #[] 0 (Nat.le_refl _) (by unfold maxLen; omega) rfl
    go_wp2_with (at_builtin; refine wpList_append_own _ rfl (.tmp 5) (.tmp 6) 23 rfl w.heap.size 3 i0 (.int .i64 0) 1 8 Try.underlying23 hi hz0 hz1 hz2 rfl (by decide) _ 0 [] rfl own0 a 0 c [] rfl rfl (by simp) (by simp) (by unfold maxLen; omega) (by omega) (by simp) ?_; intro v6 w6 o1 o2 o3)
    have hv : ∃ a' c', v6 = .slice a' 0 c' := by
      rcases o1.2 with ⟨h1, _⟩ | ⟨g', cap', cur, hv, _⟩
      · exact ⟨none, 0, h1⟩
      · exact ⟨_, _, hv⟩
    obtain ⟨a', c', rfl⟩ := hv
    go_wp2_with fail
    go_ret
    first
      | exact ⟨_, _, rfl, (below_alloc (W := w) (o := .cells #[] 3)).trans (Below.app own0 (by simp) o2)⟩
      | exact ⟨⟨_, _, rfl⟩, (below_alloc (W := w) (o := .cells #[] 3)).trans (Below.app own0 (by simp) o2)⟩

theorem gi_reverse' {xs : List Int} {k : Nat} (h : k < xs.length) : gi xs.reverse k = gi xs (xs.length - 1 - k) := by
  unfold gi
  simp only [List.getD_eq_getElem?_getD]
  rw [List.getElem?_reverse h]
theorem ic_set (xs : List Int) (k : Nat) (v : Int) : (ic xs).set k (.int .i64 v) = ic (xs.set k v) := by simp [ic, List.map_set]
theorem gi_set {xs : List Int} {k : Nat} {v : Int} (hk : k < xs.length) (j : Nat) : gi (xs.set k v) j = if j = k then v else gi xs j := by
  unfold gi
  simp only [List.getD_eq_getElem?_getD, List.getElem?_set]
  by_cases h : k = j
  · subst h; simp [hk]
  · rw [if_neg h, if_neg (fun e => h e.symm)]
theorem Blk.drews' {w : World} {g : Nat} {e : TypeId} {cs : List Value} (h : Blk w g e cs) : Blk w.drew g e cs := h.below below_drew
/-- The first k and the last k changed places. -/
def swp (xs : List Int) (k j : Nat) : Int := if j < k ∨ xs.length - 1 - j < k then gi xs (xs.length - 1 - j) else gi xs j

set_option maxHeartbeats 1000000 in
theorem reverse_row (g c n : Nat) (xs : List Int) (w : World) (h : Blk w g 3 (ic xs)) (hn : n = xs.length) (hl : xs.length ≤ 1048576) :
    Calls Try.prog 81 #[.slice (some ⟨g, 0, none⟩) n c] w fun e w' => e = .returned (.tuple #[]) ∧ Blk w' g 3 (ic xs.reverse) ∧ w.grownBy w' (some g) := by
  subst hn
  have H := Lib.hid h
  clear h
  go_enter Try.func81, Try.ntmps81
  go_wp2_with fail
  go_loopw [2, 3] (fun v2 v3 wr => ∃ k : Nat, 2 * k ≤ xs.length + 1 ∧ v2 = .int .i64 k ∧ v3 = .int .i64 ((xs.length : Int) - 1 - k) ∧ Blk wr g 3 (ic (tabI (swp xs k) xs.length)) ∧ w.grownBy wr (some g)) (fun v2 _ _ => xs.length - (intOf v2).toNat)
  case atStart => 
    refine ⟨0, by omega, rfl, by go_num, ?_, by first | exact grownBy_refl _ _ | exact ⟨rfl, rfl, rfl, Nat.le_refl _, fun _ _ _ => rfl⟩⟩
    have e : tabI (swp xs 0) xs.length = xs := by
      refine eq_of_gi (tabI_length _ _) fun k hk => ?_
      rw [tabI_length] at hk
      rw [gi_tabI hk]
      simp [swp]
    rw [e]
    exact H.out
  case round =>
    obtain ⟨k, hk, rfl, rfl, hb, hg⟩ := hrel
    by_cases hlt : (k : Int) < (xs.length : Int) - 1 - k
    · obtain ⟨m, hm⟩ : ∃ m, xs.length - 1 - k = m := ⟨_, rfl⟩
      have hmi : (xs.length : Int) - 1 - k = (m : Int) := by omega
      rw [hmi]
      have c1 := hb.row.cell k (by rw [tabI_length]; omega)
      have c2 := hb.row.cell m (by rw [tabI_length]; omega)
      rw [gi_tabI (by omega), Nat.zero_add] at c1 c2
      have f1 := hb.frozen k
      have f2 := hb.frozen m
      have l1 := hb.lt
      obtain ⟨x, hx⟩ : ∃ x, swp xs k k = x := ⟨_, rfl⟩
      obtain ⟨y, hy⟩ : ∃ y, swp xs k m = y := ⟨_, rfl⟩
      rw [hx] at c1
      rw [hy] at c2
      have hkm : k ≠ m := by omega
      have q1 : (0 : Int) ≤ (k : Int) := by omega
      have q2 : (k : Int) < (xs.length : Int) := by omega
      have q3 : (0 : Int) ≤ (m : Int) := by omega
      have q4 : (m : Int) < (xs.length : Int) := by omega
      have hkm2 : decide ((k : Int) < (m : Int)) = true := by simp; omega
      go_wp2_with fail
      go_region
      all_goals go_wp2_with fail
      go_roundw
      case rel =>
        have hs : ((ic (tabI (swp xs k) xs.length)).set k (.int .i64 y)).set m (.int .i64 x) = ic (tabI (swp xs (k + 1)) xs.length) := by
          rw [ic_set, ic_set, ← hx, ← hy]
          congr 1
          refine eq_of_gi (by simp [tabI_length]) fun j hj => ?_
          simp only [List.length_set, tabI_length] at hj
          rw [gi_set (by simp [tabI_length]; omega), gi_set (by rw [tabI_length]; omega), gi_tabI hj, gi_tabI hj]
          unfold swp
          by_cases h1 : j = m
          · subst h1
            rw [if_pos rfl, if_neg (by omega), if_pos (by omega)]
            congr 1
            omega
          · rw [if_neg h1]
            by_cases h2 : j = k
            · subst h2
              rw [if_pos rfl, if_neg (by omega), if_pos (by omega)]
              congr 1
              omega
            · rw [if_neg h2]
              by_cases h3 : j < k ∨ xs.length - 1 - j < k
              · rw [if_pos h3, if_pos (by omega)]
              · rw [if_neg h3, if_neg (by omega)]
        refine ⟨k + 1, by omega, by go_num, by go_num, ?_, ?_⟩
        · rw [← hs]
          exact ((hb.set _ _).set _ _).drews'
        · have h1 := grownBy_set (grownBy_set hg (j := k) (.int .i64 y)) (j := m) (.int .i64 x)
          exact ⟨h1.os, h1.tape, h1.output, h1.size, h1.block⟩
      case measure => simp [intOf]; omega
    · go_wp2_with fail
      have hrv : tabI (swp xs k) xs.length = xs.reverse := by
        refine eq_of_gi (by rw [tabI_length, List.length_reverse]) fun j hj => ?_
        rw [tabI_length] at hj
        rw [gi_tabI hj, gi_reverse' hj]
        unfold swp
        by_cases h1 : j < k ∨ xs.length - 1 - j < k
        · rw [if_pos h1]
        · rw [if_neg h1]
          congr 1
          omega
      rw [hrv] at hb
      go_end0
      exact ⟨rfl, hb, hg⟩

set_option maxHeartbeats 400000 in
theorem reverse_nil (a : Option Addr) (c : Nat) (w : World) :
    Calls Try.prog 81 #[.slice a 0 c] w fun e w' => e = .returned (.tuple #[]) ∧ Below w.heap.size w w' := by
  go_enter Try.func81, Try.ntmps81
  go_wp2_with fail
  go_rounds 1
  go_end0
  exact ⟨rfl, by (repeat' (first | (with_reducible exact Below.refl _ _) | (with_reducible assumption) | (with_reducible refine Below.drewN ?_ _) | (with_reducible refine Below.alloc ?_ ?_ _) | (with_reducible refine Below.drew ?_) | (with_reducible refine Below.setCell ?_ ?_ _) | (with_reducible refine Below.trans ?_ (Below.mono (by assumption) ?_)) | go_size | (with_reducible refine Nat.le_trans ?_ (Below.size (by assumption)))))⟩

end Go.Proofs.Ytcmbfkdhfdiamaa
