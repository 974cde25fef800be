/- A copy of a row. -/
import Derived.Test.YtpcnjkgoehepaaaTabG
import Derived.Lib.SliceRun
namespace Go.Proofs.Ytpcnjkgoehepaaa
open Go.RowKit

set_option maxHeartbeats 1000000 in
theorem clone_row (b o c : Nat) (xs : List Int) (w : World) (h : RowI w b o xs) (hl : xs.length ≤ 1048576) (hn : 1 ≤ xs.length) :
    Calls Try.prog 42 #[.slice (some ⟨b, o, none⟩) xs.length c] w fun e w' => ∃ g cap, e = .returned (.slice (some ⟨g, 0, none⟩) xs.length cap) ∧ OwnI w' w.heap.size (.slice (some ⟨g, 0, none⟩) xs.length cap) xs.length xs ∧ Below w.heap.size w w' := by
  have H := Lib.hid h
  clear h
  obtain ⟨i0, hi, hz0, hz1, hz2⟩ := info_parts infoI
  have q22 : ∀ (w : World) (a : Option Addr) (n c n' c' : Nat), (binOp .eql 23 (.slice a n c) (.slice none n' c')).run Try.prog w = .ok (.bool a.isNone) w := fun w a n c n' c' => Lib.run_eql_slice_nil w _ _ a n c n' c' Try.underlying23
  go_enter Try.func42, Try.ntmps42
  have own0 : (w.alloc (.cells #[] 3)).ownsRow w.heap.size 3 1 (.slice (some ⟨w.heap.size, 0, none⟩) 0 0) 0 [] := World.ownsRow_made w #[] 0 (Nat.le_refl _) (by unfold maxLen; omega) rfl
  have r5 := H.out.below (below_alloc (W := w) (o := .cells #[] 3))
  have hcs : ∀ j v, (ic xs)[j]? = some v → (w.alloc (.cells #[] 3)).cell? ((⟨b, o, none⟩ : Addr).add j) = some v := by
    intro j v hj
    by_cases hk : j < xs.length
    · have := r5.cell j hk
      rw [get_ic hk] at hj
      cases hj
      rw [← this]
      by_cases h0 : j = 0
      · subst h0; rfl
      · simp [Addr.add, h0]
    · rw [List.getElem?_eq_none (by rw [ic_length]; omega)] at hj
      cases hj
  go_wp2_with (at_builtin; refine wpList_append_own _ rfl (.tmp 5) (.tmp 6) 23 rfl w.heap.size 3 i0 (.int .i64 0) 1 8 Try.underlying23 hi hz0 hz1 hz2 rfl (by decide) _ 0 [] rfl own0 ⟨b, o, none⟩ xs.length c (ic xs) rfl (by rw [ic_length, Nat.mul_one]) hcs (by simp [ic, Value.oneCell']) (by unfold maxLen; omega) (by omega) (by simp) ?_; intro v6 w6 o1 o2 o3)
  rw [List.nil_append, Nat.zero_add] at o1
  obtain ⟨g, cap, rfl, hg⟩ := OwnI.shape (xs := xs) o1 (by omega)
  go_wp2_with fail
  go_ret
  exact ⟨g, cap, rfl, o1, (below_alloc (W := w) (o := .cells #[] 3)).trans (Below.app own0 (by simp) o2)⟩

end Go.Proofs.Ytpcnjkgoehepaaa
