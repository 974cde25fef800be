/- The laws' own small functions: rows that they make, and sums. -/
import Derived.Test.YtoioafadenniiaaSmall2
import Derived.Test.YtoioafadenniiaaTab
import Derived.Test.YtoioafadenniiaaMinMax
import Derived.Test.YtoioafadenniiaaTail
import Derived.Deep.DeepCutAuto
namespace Go.Proofs.Ytoioafadenniiaa
open Go.RowKit

set_option maxHeartbeats 1000000 in
theorem turned_any (b o c : Nat) (xs : List Int) (w : World) (h : RowI w b o xs) (hl : xs.length ≤ 1048576) :
    Calls Try.prog 24 #[.slice (some ⟨b, o, none⟩) xs.length c] w fun e w' => ∃ v, e = .returned v ∧ OwnI w' w.heap.size v xs.length (tabI (fun j => gi xs (xs.length - 1 - j)) xs.length) ∧ Below w.heap.size w w' := by
  have H := Lib.hid h
  clear h
  obtain ⟨f, hf⟩ : ∃ f, (fun j => gi xs (xs.length - 1 - j)) = f := ⟨_, rfl⟩
  have hfj : ∀ j, j < xs.length → f j = gi xs (xs.length - 1 - j) := fun j _ => by rw [← hf]
  rw [hf]
  have HF := Lib.hid hfj
  clear hf hfj
  go_enter Try.func24, Try.ntmps24
  go_wp2_with fail
  go_loopw [3, 4] (fun v3 v4 wr => ∃ k : Nat, k ≤ xs.length ∧ v4 = .int .i64 ((xs.length : Int) - 1 - k) ∧ OwnI wr w.heap.size v3 k (tabI f k) ∧ Below w.heap.size w wr) (fun _ v4 _ => (intOf v4 + 1).toNat)
  case atStart => exact ⟨0, Nat.zero_le _, by go_num, OwnI.empty _ _ (Nat.le_refl _) _ rfl, by (repeat' (first | (with_reducible exact Below.refl _ _) | (with_reducible assumption) | (with_reducible refine Below.drewN ?_ _) | (with_reducible refine Below.alloc ?_ ?_ _) | (with_reducible refine Below.drew ?_) | (with_reducible refine Below.setCell ?_ ?_ _) | (with_reducible refine Below.trans ?_ (Below.mono (by assumption) ?_)) | go_size | (with_reducible refine Nat.le_trans ?_ (Below.size (by assumption)))))⟩
  case round =>
    obtain ⟨k, hk, rfl, hown, hb⟩ := hrel
    have HO := Lib.hid hown
    clear hown
    have hz := hb.size
    by_cases hlt : k < xs.length
    · obtain ⟨x, hx⟩ : ∃ x, xs.length - 1 - k = x := ⟨_, rfl⟩
      have hxi : ((xs.length : Int) - 1 - k) = (x : Int) := by omega
      rw [hxi]
      have c1 := (H.out.below hb).cell x (by omega)
      have hfk : f k = gi xs x := by rw [HF.out k hlt, hx]
      have HFK := Lib.hid hfk
      have hxl : x < xs.length := by omega
      have HX := Lib.hid hx
      clear hfk hxi hx
      go_wp2_with (at_builtin; refine wpList_app1 rfl (.tmp 13) (.tmp 18) 22 rfl w.heap.size 3 (.int .i64 0) 1 8 Try.underlying22 infoI rfl (by decide) (by decide) _ _ _ rfl (World.ownsRow.alloc HO.out _) ⟨wr.heap.size, 0, none⟩ 1 [.int .i64 (gi xs x)] rfl rfl (cell_one_new _ _ _) (by simp [Value.oneCell']) (by omega) (by simp; omega) ?_; intro g2 cap2 w4 o1 o2 o3)
      go_roundw
      case rel =>
        exact ⟨k + 1, by omega, by have := HX.out; go_num, by rw [tabI_succ, HFK.out]; exact OwnI.app o1, (hb.alloc hz _).trans (Below.app (World.ownsRow.alloc HO.out _) (by simp; omega) o2)⟩
      case measure => simp [intOf]
    · have hkn : k = xs.length := by omega
      have HK := Lib.hid hkn
      clear hkn
      go_wp2_with fail
      go_ret
      exact ⟨_, rfl, by have := HO.out; rw [HK.out] at this; exact this, hb⟩

set_option maxHeartbeats 1000000 in
theorem negated_any (b o c : Nat) (xs : List Int) (w : World) (h : RowI w b o xs) (hl : xs.length ≤ 1048576) (hx : ∀ k, k < xs.length → -1000000 ≤ gi xs k ∧ gi xs k ≤ 1000000) :
    Calls Try.prog 35 #[.slice (some ⟨b, o, none⟩) xs.length c] w fun e w' => ∃ v, e = .returned v ∧ OwnI w' w.heap.size v xs.length (tabI (fun j => - gi xs j) xs.length) ∧ Below w.heap.size w w' := by
  have H := Lib.hid h
  have HX := Lib.hid hx
  clear h hx
  obtain ⟨f, hf⟩ : ∃ f, (fun j => - gi xs j) = f := ⟨_, rfl⟩
  have hfj : ∀ j, f j = - gi xs j := fun j => by rw [← hf]
  rw [hf]
  have HF := Lib.hid hfj
  clear hf hfj
  go_enter Try.func35, Try.ntmps35
  go_wp2_with fail
  go_loopw [3, 4] (fun v3 v4 wr => ∃ k : Nat, k ≤ xs.length ∧ v4 = .int .i64 k ∧ OwnI wr w.heap.size v3 k (tabI f k) ∧ Below w.heap.size w wr) (fun _ v4 _ => xs.length - (intOf v4).toNat)
  case atStart => exact ⟨0, Nat.zero_le _, rfl, OwnI.empty _ _ (Nat.le_refl _) _ rfl, by (repeat' (first | (with_reducible exact Below.refl _ _) | (with_reducible assumption) | (with_reducible refine Below.drewN ?_ _) | (with_reducible refine Below.alloc ?_ ?_ _) | (with_reducible refine Below.drew ?_) | (with_reducible refine Below.setCell ?_ ?_ _) | (with_reducible refine Below.trans ?_ (Below.mono (by assumption) ?_)) | go_size | (with_reducible refine Nat.le_trans ?_ (Below.size (by assumption)))))⟩
  case round =>
    obtain ⟨k, hk, rfl, hown, hb⟩ := hrel
    have HO := Lib.hid hown
    clear hown
    have hz := hb.size
    by_cases hlt : k < xs.length
    · have c1 := (H.out.below hb).cell k hlt
      have hfk := HF.out k
      have bx := HX.out k hlt
      obtain ⟨x, hx⟩ : ∃ x, gi xs k = x := ⟨_, rfl⟩
      rw [hx] at c1 hfk bx
      have HFK := Lib.hid hfk
      have q1 : IntKind.i64.wrap (-x) = -x := IntWalk.i64_in _ (by omega)
      clear hfk hx
      go_wp2_with (at_builtin; refine wpList_app1 rfl (.tmp 12) (.tmp 18) 22 rfl w.heap.size 3 (.int .i64 0) 1 8 Try.underlying22 infoI rfl (by decide) (by decide) _ _ _ rfl (World.ownsRow.alloc HO.out _) ⟨wr.heap.size, 0, none⟩ 1 [.int .i64 (-x)] rfl rfl (cell_one_new _ _ _) (by simp [Value.oneCell']) (by omega) (by simp; omega) ?_; intro g2 cap2 w4 o1 o2 o3)
      go_roundw
      case rel =>
        exact ⟨k + 1, by omega, by go_num, by rw [tabI_succ, HFK.out]; exact OwnI.app o1, (hb.alloc hz _).trans (Below.app (World.ownsRow.alloc HO.out _) (by simp; omega) o2)⟩
      case measure => simp [intOf]; omega
    · have hkn : k = xs.length := by omega
      have HK := Lib.hid hkn
      clear hkn
      go_wp2_with fail
      go_ret
      exact ⟨_, rfl, by have := HO.out; rw [HK.out] at this; exact this, hb⟩




end Go.Proofs.Ytoioafadenniiaa
