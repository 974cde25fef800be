/- Tests on numbers and lists of numbers: what the program's and the reference's functions return. -/
import Derived.Test.YtpcnjkgoehepaaaProg
import Derived.Test.YtpcnjkgoehepaaaBase
import Derived.WalkKit
import Derived.WalkSpells
import Derived.WalkLawsBesides
import Derived.Handy
import Derived.BigQuiet
namespace Go.Proofs.Ytpcnjkgoehepaaa
open Go.RowKit

def inB (n lo hi : Int) : Bool := decide (lo ≤ n) && decide (n ≤ hi)
theorem inB_iff {n lo hi : Int} : inB n lo hi = true ↔ lo ≤ n ∧ n ≤ hi := by simp [inB]

set_option maxHeartbeats 400000 in
theorem in_any (n lo hi : Int) (w : World) :
    Calls Try.prog 25 #[.int .i64 n, .int .i64 lo, .int .i64 hi] w fun e w' => e = .returned (.bool (inB n lo hi)) ∧ w = w' := by
  by_cases h1 : lo ≤ n
  · have e : inB n lo hi = decide (n ≤ hi) := by simp [inB, h1]
    rw [e]
    clear e
    go_enter Try.func25, Try.ntmps25
    go_wp2
    go_ret
    exact ⟨rfl, rfl⟩
  · have e : inB n lo hi = false := by simp [inB, h1]
    rw [e]
    clear e
    go_enter Try.func25, Try.ntmps25
    go_wp2
    go_ret
    exact ⟨rfl, rfl⟩

set_option maxHeartbeats 400000 in
theorem inRange_any (n lo hi : Int) (w : World) :
    Calls Try.prog 32 #[.int .i64 n, .int .i64 lo, .int .i64 hi] w fun e w' => e = .returned (.bool (inB n lo hi)) ∧ w = w' := by
  by_cases h1 : lo ≤ n
  · have e : inB n lo hi = decide (n ≤ hi) := by simp [inB, h1]
    rw [e]
    clear e
    go_enter Try.func32, Try.ntmps32
    go_wp2
    go_ret
    exact ⟨rfl, rfl⟩
  · have e : inB n lo hi = false := by simp [inB, h1]
    rw [e]
    clear e
    go_enter Try.func32, Try.ntmps32
    go_wp2
    go_ret
    exact ⟨rfl, rfl⟩

/-- All numbers of a list lie in a range. -/
def AllIn (xs : List Int) (lo hi : Int) (n : Nat) : Prop := ∀ k, k < n → inB (gi xs k) lo hi = true
def allB (xs : List Int) (lo hi : Int) : Bool := xs.all fun x => inB x lo hi
theorem allB_iff {xs : List Int} {lo hi : Int} : allB xs lo hi = true ↔ AllIn xs lo hi xs.length := by
  unfold allB AllIn
  rw [List.all_eq_true]
  constructor
  · intro h k hk
    rw [gi_eq hk]
    exact h _ (List.getElem_mem hk)
  · intro h x hx
    obtain ⟨k, hk, rfl⟩ := List.getElem_of_mem hx
    have := h k hk
    rwa [gi_eq hk] at this
theorem allB_false {xs : List Int} {lo hi : Int} {k : Nat} (hk : k < xs.length) (h : inB (gi xs k) lo hi = false) : allB xs lo hi = false := by
  cases hb : allB xs lo hi with
  | false => rfl
  | true => have := allB_iff.1 hb k hk; rw [h] at this; cases this

def Found (P : Int → Prop) (w : World) (e : Ending) (w' : World) : Prop := ∃ r : Int, P r ∧ e = .returned (.int .i64 r) ∧ w = w'

set_option maxHeartbeats 400000 in
theorem allInLit_any (n lo hi : Int) (p q : Nat) (w : World) (h1 : w.cell? ⟨p, 0, none⟩ = some (.int .i64 lo)) (h2 : w.cell? ⟨q, 0, none⟩ = some (.int .i64 hi)) :
    Calls Try.prog 39 #[.int .i64 n, .pointer (some ⟨p, 0, none⟩), .pointer (some ⟨q, 0, none⟩)] w fun e w' => e = .returned (.bool (!inB n lo hi)) ∧ w = w' := by
  go_enter Try.func39, Try.ntmps39
  go_wp2_with (go_at_call 25; refine (in_any _ _ _ _).mono ?_; rintro e w1 ⟨rfl, rfl⟩)
  go_ret
  exact ⟨rfl, rfl⟩

set_option maxHeartbeats 400000 in
theorem indexBad_any (lo hi : Int) (p q b o c : Nat) (xs : List Int) (w : World) (h1 : w.cell? ⟨p, 0, none⟩ = some (.int .i64 lo)) (h2 : w.cell? ⟨q, 0, none⟩ = some (.int .i64 hi))
    (h : RowI w b o xs) (hm : xs.length ≤ 1099511627776) :
    Calls Try.prog 48 #[.slice (some ⟨b, o, none⟩) xs.length c, .func (.func 39) #[] #[.pointer (some ⟨p, 0, none⟩), .pointer (some ⟨q, 0, none⟩)]] w
      (Found (fun r => decide (0 ≤ r) = !allB xs lo hi) w) := by
  have H := Lib.hid h
  clear h
  go_enter Try.func48, Try.ntmps48
  go_wp2
  go_loop [8] (fun v8 => ∃ k : Nat, k ≤ xs.length ∧ v8 = .int .i64 k ∧ AllIn xs lo hi k) (fun v8 => xs.length - (intOf v8).toNat)
  case atStart => exact ⟨0, Nat.zero_le _, rfl, fun k hk => absurd hk (Nat.not_lt_zero _)⟩
  case round =>
    obtain ⟨k, hk, rfl, hok⟩ := hrel
    have HO := Lib.hid hok
    clear hok
    by_cases hlt : k < xs.length
    · have c1 := H.out.cell k hlt
      cases hin : inB (gi xs k) lo hi with
      | true =>
        go_wp2_with (go_at_call 39; refine (allInLit_any _ _ _ _ _ _ h1 h2).mono ?_; rintro e w1 ⟨rfl, rfl⟩)
        go_round
        case rel => exact ⟨k + 1, by omega, by go_num, fun j hj => by by_cases e : j = k; (· subst e; exact hin); exact HO.out j (by omega)⟩
        case measure => simp [intOf]; omega
      | false =>
        have hb := allB_false hlt hin
        have HB := Lib.hid hb
        clear hb
        go_wp2_with (go_at_call 39; refine (allInLit_any _ _ _ _ _ _ h1 h2).mono ?_; rintro e w1 ⟨rfl, rfl⟩)
        go_ret
        exact ⟨(k : Int), by rw [HB.out]; simp, rfl, rfl⟩
    · have hb : allB xs lo hi = true := allB_iff.2 (by have : k = xs.length := by omega
                                                       rw [← this]; exact HO.out)
      have HB := Lib.hid hb
      clear hb
      go_wp2_with fail
      go_ret
      exact ⟨-1, by rw [HB.out]; rfl, rfl, rfl⟩

set_option maxHeartbeats 400000 in
theorem containsBad_any (lo hi : Int) (p q b o c : Nat) (xs : List Int) (w : World) (h1 : w.cell? ⟨p, 0, none⟩ = some (.int .i64 lo)) (h2 : w.cell? ⟨q, 0, none⟩ = some (.int .i64 hi))
    (h : RowI w b o xs) (hm : xs.length ≤ 1099511627776) :
    Calls Try.prog 38 #[.slice (some ⟨b, o, none⟩) xs.length c, .func (.func 39) #[] #[.pointer (some ⟨p, 0, none⟩), .pointer (some ⟨q, 0, none⟩)]] w
      fun e w' => e = .returned (.bool (!allB xs lo hi)) ∧ w = w' := by
  have HP := Lib.hid (indexBad_any lo hi p q b o c xs w h1 h2 h hm)
  clear h1 h2 h hm
  go_enter Try.func38, Try.ntmps38
  go_wp2_with (go_at_call 48; refine HP.out.mono ?_; rintro e w1 ⟨r, hr, rfl, rfl⟩; have HR := Lib.hid hr; clear hr)
  go_ret
  exact ⟨by rw [← HR.out]; rfl, rfl⟩

set_option maxHeartbeats 400000 in
theorem allIn_any (lo hi : Int) (b o c : Nat) (xs : List Int) (w : World) (h : RowI w b o xs) (hm : xs.length ≤ 1099511627776) :
    Calls Try.prog 26 #[.slice (some ⟨b, o, none⟩) xs.length c, .int .i64 lo, .int .i64 hi] w
      fun e w' => e = .returned (.bool (allB xs lo hi)) ∧ Below w.heap.size w w' := by
  have H := Lib.hid h
  clear h
  go_enter Try.func26, Try.ntmps26
  go_wp2_with (go_at_call 38; refine (containsBad_any lo hi _ _ b o c xs _ (by simp [go_sem]) (by simp [go_sem]) (H.out.below (by (repeat' (first | (with_reducible exact Below.refl _ _) | (with_reducible assumption) | (with_reducible refine Below.drewN ?_ _) | (with_reducible refine Below.alloc ?_ ?_ _) | (with_reducible refine Below.drew ?_) | (with_reducible refine Below.setCell ?_ ?_ _) | (with_reducible refine Below.trans ?_ (Below.mono (by assumption) ?_)) | go_size | (with_reducible refine Nat.le_trans ?_ (Below.size (by assumption))))))) hm).mono ?_; rintro e w1 ⟨rfl, rfl⟩)
  go_ret
  exact ⟨by simp, by (repeat' (first | (with_reducible exact Below.refl _ _) | (with_reducible assumption) | (with_reducible refine Below.drewN ?_ _) | (with_reducible refine Below.alloc ?_ ?_ _) | (with_reducible refine Below.drew ?_) | (with_reducible refine Below.setCell ?_ ?_ _) | (with_reducible refine Below.trans ?_ (Below.mono (by assumption) ?_)) | go_size | (with_reducible refine Nat.le_trans ?_ (Below.size (by assumption)))))⟩

end Go.Proofs.Ytpcnjkgoehepaaa
