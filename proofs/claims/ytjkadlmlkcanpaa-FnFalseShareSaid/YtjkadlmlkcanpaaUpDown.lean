/- impl.StepUp and impl.FalseShare. -/
import Derived.Test.YtjkadlmlkcanpaaUpP
import Derived.Test.YtjkadlmlkcanpaaBackUp
import Derived.Test.YtjkadlmlkcanpaaBackShare
namespace Go.Proofs.Ytjkadlmlkcanpaa
open Go.RowKit

set_option maxHeartbeats 1000000 in
theorem upLit_any (b o c bl r : Nat) (xs : List Int) (p : Int) (w : World) (hbl : w.cell? ⟨bl, 0, none⟩ = some (.slice (some ⟨b, o, none⟩) xs.length c)) (hn : xs.length ≤ 6) (h1 : 0 ≤ p) (h2 : p ≤ 1000) (hr : r < xs.length) :
    Calls Try.prog 47 #[.int .i64 p, .int .i64 r, .pointer (some ⟨bl, 0, none⟩)] w fun e w' => e = .returned (.int .i64 (upVal xs.length p r)) ∧ w = w' := by
  have bv := upVal_in ⟨h1, h2⟩ hn hr
  obtain ⟨v, hv⟩ : ∃ v, upVal xs.length p r = v := ⟨_, rfl⟩
  rw [hv] at bv ⊢
  have q1 : IntKind.i64.wrap ((xs.length : Int) - (r : Int)) = (xs.length : Int) - (r : Int) := IntWalk.i64_in _ (by omega)
  have q2 : IntKind.i64.wrap (p * ((xs.length : Int) - (r : Int))) = v := by
    show IntKind.i64.wrap (upVal xs.length p r) = v
    rw [hv, IntWalk.i64_in _ (by omega)]
  clear hv
  go_enter Try.func47, Try.ntmps47
  go_wp2
  go_ret
  exact ⟨rfl, rfl⟩

set_option maxHeartbeats 1000000 in
theorem shareLit_any (b o c bl r : Nat) (xs : List Int) (p : Int) (w : World) (hbl : w.cell? ⟨bl, 0, none⟩ = some (.slice (some ⟨b, o, none⟩) xs.length c)) (hn : xs.length ≤ 6) (h1 : 0 ≤ p) (h2 : p ≤ 1000) (hr : r < xs.length) :
    Calls Try.prog 49 #[.int .i64 p, .int .i64 r, .pointer (some ⟨bl, 0, none⟩)] w fun e w' => e = .returned (.int .i64 (shVal xs.length p r)) ∧ w = w' := by
  have bv := shVal_in ⟨h1, h2⟩ hn hr
  have bp := prod6 ⟨h1, h2⟩ (y := (xs.length : Int)) (by omega)
  obtain ⟨v, hv⟩ : ∃ v, shVal xs.length p r = v := ⟨_, rfl⟩
  rw [hv] at bv ⊢
  have q1 : IntKind.i64.wrap (p * (xs.length : Int)) = p * (xs.length : Int) := IntWalk.i64_in _ (by omega)
  have q2 : IntKind.i64.wrap (p * (xs.length : Int) + (r : Int)) = p * (xs.length : Int) + (r : Int) := IntWalk.i64_in _ (by omega)
  have q3 : IntKind.i64.wrap ((r : Int) + 1) = (r : Int) + 1 := IntWalk.i64_in _ (by omega)
  have q4 : (r : Int) + 1 ≠ 0 := by omega
  have q5 : IntKind.i64.wrap ((p * (xs.length : Int) + (r : Int)).tdiv ((r : Int) + 1)) = v := by
    show IntKind.i64.wrap (shVal xs.length p r) = v
    rw [hv, IntWalk.i64_in _ (by omega)]
  clear hv
  go_enter Try.func49, Try.ntmps49
  go_wp2
  go_ret
  exact ⟨rfl, rfl⟩

set_option maxHeartbeats 1000000 in
theorem stepUp_all (b o c : Nat) (xs : List Int) (w : World) (h : RowI w b o xs) (hm : xs.length ≤ 1099511627776) :
    Calls Try.prog 20 #[.slice (some ⟨b, o, none⟩) xs.length c] w
      fun e w' => ∃ v, e = .returned v ∧ Mut 3 w' w.heap.size v (suV upVal xs).length (ic (suV upVal xs)) ∧ Below w.heap.size w w' := by
  have H := Lib.hid h
  have hb0 : Below w.heap.size w (w.alloc (.cells #[.slice (some ⟨b, o, none⟩) xs.length c] 22)) := below_alloc
  have hz : (w.alloc (.cells #[.slice (some ⟨b, o, none⟩) xs.length c] 22)).heap.size = w.heap.size + 1 := by simp
  have hc := (Blk.made w #[.slice (some ⟨b, o, none⟩) xs.length c] 22).cell (j := 0) rfl
  clear h
  cases hv : ovB xs with
  | true =>
    have hn6 := (ov_of hv).n6
    have e : suV upVal xs = tabI (fun i => suM (upVal xs.length) xs i xs.length) xs.length := by simp [suV, hv]
    have e2 : tabI (fun i => bkM (upVal xs.length) xs (xs.length - plc xs i xs.length)) xs.length = tabI (fun i => suM (upVal xs.length) xs i xs.length) xs.length := by
      refine eq_of_gi (by rw [tabI_length, tabI_length]) fun k hk => ?_
      rw [tabI_length] at hk
      rw [gi_tabI hk, gi_tabI hk, su_eq _ hk]
    have C := backwardUp b o c w.heap.size xs (upVal xs.length) _ (H.out.below hb0) hv hm hc (by rw [hz]; omega) (fun p r w' h1 h2 h3 h4 => upLit_any b o c w.heap.size r xs p w' h1 hn6 h2 h3 h4)
    rw [e, tabI_length]
    rw [e2] at C
    clear e e2
    go_enter Try.func20, Try.ntmps20
    go_wp2_with (go_at_call 46; refine C.mono ?_; rintro e w2 ⟨g, cap, rfl, hg, hk, hb2⟩)
    go_ret
    rw [hz] at hg
    exact ⟨_, rfl, .inr ⟨g, cap, rfl, by omega, hk⟩, hb0.trans (hb2.mono (by rw [hz]; omega))⟩
  | false =>
    have e : suV upVal xs = [] := by simp [suV, hv]
    have C : Calls Try.prog 46 #[.slice (some ⟨b, o, none⟩) xs.length c, .func (.func 47) #[] #[.pointer (some ⟨w.heap.size, 0, none⟩)]] (w.alloc (.cells #[.slice (some ⟨b, o, none⟩) xs.length c] 22)) fun e w' => e = .returned (.slice none 0 0) ∧ Below w.heap.size w w' := by
      have HR := Lib.hid (H.out.below hb0)
      have HB0 := Lib.hid hb0
      clear hb0 hc e H
      go_enter Try.func46, Try.ntmps46
      go_wp2_with (go_at_call 43; refine (validOdds_any b o c xs _ (HR.out.below (by (repeat' (first | (with_reducible exact Below.refl _ _) | (with_reducible assumption) | (with_reducible refine Below.drewN ?_ _) | (with_reducible refine Below.alloc ?_ ?_ _) | (with_reducible refine Below.drew ?_) | (with_reducible refine Below.setCell ?_ ?_ _) | (with_reducible refine Below.trans ?_ (Below.mono (by assumption) ?_)) | go_size | (with_reducible refine Nat.le_trans ?_ (Below.size (by assumption))))))) hm).mono ?_; rintro e w1 ⟨rfl, hb1⟩)
      go_ret
      exact ⟨rfl, HB0.out.trans (((((Below.refl _ _).alloc (Nat.le_refl _) _).alloc (by simp) _).trans (hb1.mono (by simp))).mono (by rw [hz]; omega))⟩
    rw [e]
    clear e
    go_enter Try.func20, Try.ntmps20
    go_wp2_with (go_at_call 46; refine C.mono ?_; rintro e w2 ⟨rfl, hb2⟩)
    go_ret
    exact ⟨_, rfl, .inl ⟨rfl, rfl, rfl⟩, hb2⟩

set_option maxHeartbeats 1000000 in
theorem falseShare_all (b o c : Nat) (xs : List Int) (w : World) (h : RowI w b o xs) (hm : xs.length ≤ 1099511627776) :
    Calls Try.prog 22 #[.slice (some ⟨b, o, none⟩) xs.length c] w
      fun e w' => ∃ v, e = .returned v ∧ Mut 3 w' w.heap.size v (suV shVal xs).length (ic (suV shVal xs)) ∧ Below w.heap.size w w' := by
  have H := Lib.hid h
  have hb0 : Below w.heap.size w (w.alloc (.cells #[.slice (some ⟨b, o, none⟩) xs.length c] 22)) := below_alloc
  have hz : (w.alloc (.cells #[.slice (some ⟨b, o, none⟩) xs.length c] 22)).heap.size = w.heap.size + 1 := by simp
  have hc := (Blk.made w #[.slice (some ⟨b, o, none⟩) xs.length c] 22).cell (j := 0) rfl
  clear h
  cases hv : ovB xs with
  | true =>
    have hn6 := (ov_of hv).n6
    have e : suV shVal xs = tabI (fun i => suM (shVal xs.length) xs i xs.length) xs.length := by simp [suV, hv]
    have e2 : tabI (fun i => bkM (shVal xs.length) xs (xs.length - plc xs i xs.length)) xs.length = tabI (fun i => suM (shVal xs.length) xs i xs.length) xs.length := by
      refine eq_of_gi (by rw [tabI_length, tabI_length]) fun k hk => ?_
      rw [tabI_length] at hk
      rw [gi_tabI hk, gi_tabI hk, su_eq _ hk]
    have C := backwardShare b o c w.heap.size xs (shVal xs.length) _ (H.out.below hb0) hv hm hc (by rw [hz]; omega) (fun p r w' h1 h2 h3 h4 => shareLit_any b o c w.heap.size r xs p w' h1 hn6 h2 h3 h4)
    rw [e, tabI_length]
    rw [e2] at C
    clear e e2
    go_enter Try.func22, Try.ntmps22
    go_wp2_with (go_at_call 46; refine C.mono ?_; rintro e w2 ⟨g, cap, rfl, hg, hk, hb2⟩)
    go_ret
    rw [hz] at hg
    exact ⟨_, rfl, .inr ⟨g, cap, rfl, by omega, hk⟩, hb0.trans (hb2.mono (by rw [hz]; omega))⟩
  | false =>
    have e : suV shVal xs = [] := by simp [suV, hv]
    have C : Calls Try.prog 46 #[.slice (some ⟨b, o, none⟩) xs.length c, .func (.func 49) #[] #[.pointer (some ⟨w.heap.size, 0, none⟩)]] (w.alloc (.cells #[.slice (some ⟨b, o, none⟩) xs.length c] 22)) fun e w' => e = .returned (.slice none 0 0) ∧ Below w.heap.size w w' := by
      have HR := Lib.hid (H.out.below hb0)
      have HB0 := Lib.hid hb0
      clear hb0 hc e H
      go_enter Try.func46, Try.ntmps46
      go_wp2_with (go_at_call 43; refine (validOdds_any b o c xs _ (HR.out.below (by (repeat' (first | (with_reducible exact Below.refl _ _) | (with_reducible assumption) | (with_reducible refine Below.drewN ?_ _) | (with_reducible refine Below.alloc ?_ ?_ _) | (with_reducible refine Below.drew ?_) | (with_reducible refine Below.setCell ?_ ?_ _) | (with_reducible refine Below.trans ?_ (Below.mono (by assumption) ?_)) | go_size | (with_reducible refine Nat.le_trans ?_ (Below.size (by assumption))))))) hm).mono ?_; rintro e w1 ⟨rfl, hb1⟩)
      go_ret
      exact ⟨rfl, HB0.out.trans (((((Below.refl _ _).alloc (Nat.le_refl _) _).alloc (by simp) _).trans (hb1.mono (by simp))).mono (by rw [hz]; omega))⟩
    rw [e]
    clear e
    go_enter Try.func22, Try.ntmps22
    go_wp2_with (go_at_call 46; refine C.mono ?_; rintro e w2 ⟨rfl, hb2⟩)
    go_ret
    exact ⟨_, rfl, .inl ⟨rfl, rfl, rfl⟩, hb2⟩

end Go.Proofs.Ytjkadlmlkcanpaa
