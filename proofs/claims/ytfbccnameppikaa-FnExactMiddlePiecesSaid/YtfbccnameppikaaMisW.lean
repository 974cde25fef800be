/- What a piece misses: the program's and the reference's functions; the tests of rows to be cut. -/
import Derived.Test.YtfbccnameppikaaMisP
import Derived.Test.YtfbccnameppikaaList
import Derived.Test.YtfbccnameppikaaBlk
import Derived.Test.YtfbccnameppikaaSFrac
import Derived.Test.YtfbccnameppikaaTail
namespace Go.Proofs.Ytfbccnameppikaa
open Go.RowKit

theorem RowI.pc {w : World} {b o : Nat} {xs : List Int} (h : RowI w b o xs) {a e : Nat} (ha : a ≤ e) (he : e ≤ xs.length) : RowI w b (o + a) (pc xs a e) :=
  ⟨h.blk, fun k hk => by
    rw [pc_length he] at hk
    have := h.cell (a + k) (by omega)
    rw [← Nat.add_assoc] at this
    rw [this, gi_pc (by omega)]⟩

def rvB (xs : List Int) : Bool := inB xs.length 1 8 && allB xs (-30) 30
structure Rv (xs : List Int) : Prop where
  n0 : 1 ≤ xs.length
  n8 : xs.length ≤ 8
  x : In30 xs
theorem in30_of {xs : List Int} (h : allB xs (-30) 30 = true) : In30 xs := by
  unfold allB at h
  rw [List.all_eq_true] at h
  exact fun x hx => inB_iff.1 (h x hx)
theorem rv_of {xs : List Int} (h : rvB xs = true) : Rv xs := by
  simp only [rvB, Bool.and_eq_true] at h
  have h1 := inB_iff.1 h.1
  exact ⟨by omega, by omega, in30_of h.2⟩
theorem Rv.ne {xs : List Int} (h : Rv xs) : xs ≠ [] := by
  intro e
  have := h.n0
  rw [e] at this
  simp at this

set_option maxHeartbeats 1000000 in
theorem rowValid_any (b o c : Nat) (xs : List Int) (w : World) (h : RowI w b o xs) (hm : xs.length ≤ 1099511627776) :
    Calls Try.prog 40 #[.slice (some ⟨b, o, none⟩) xs.length c] w fun e w' => e = .returned (.bool (rvB xs)) ∧ Below w.heap.size w w' := by
  have H := Lib.hid h
  clear h
  cases h1 : inB xs.length 1 8 with
  | false =>
    have e : rvB xs = false := by simp [rvB, h1]
    rw [e]
    clear e
    go_enter Try.func40, Try.ntmps40
    go_wp2_with (go_at_call 41; refine (in_any _ _ _ _).mono ?_; rintro e w1 ⟨rfl, rfl⟩)
    go_ret
    exact ⟨rfl, by (repeat' (first | (with_reducible exact Below.refl _ _) | (with_reducible assumption) | (with_reducible refine Below.drewN ?_ _) | (with_reducible refine Below.alloc ?_ ?_ _) | (with_reducible refine Below.drew ?_) | (with_reducible refine Below.setCell ?_ ?_ _) | (with_reducible refine Below.trans ?_ (Below.mono (by assumption) ?_)) | go_size | (with_reducible refine Nat.le_trans ?_ (Below.size (by assumption)))))⟩
  | true =>
    have e : rvB xs = allB xs (-30) 30 := by simp only [rvB, h1]; rfl
    rw [e]
    clear e
    go_enter Try.func40, Try.ntmps40
    go_wp2_with (first | (go_at_call 41; refine (in_any _ _ _ _).mono ?_; rintro e w1 ⟨rfl, rfl⟩) | (go_at_call 57; refine (allIn_any _ _ _ _ _ _ _ H.out hm).mono ?_; rintro e w1 ⟨rfl, hb1⟩))
    go_ret
    exact ⟨rfl, hb1⟩

def cvB (xs : List Int) (p : Int) : Bool := rvB xs && inB p 1 8
set_option maxHeartbeats 1000000 in
theorem cutValid_any (b o c : Nat) (xs : List Int) (p : Int) (w : World) (h : RowI w b o xs) (hm : xs.length ≤ 1099511627776) :
    Calls Try.prog 28 #[.slice (some ⟨b, o, none⟩) xs.length c, .int .i64 p] w fun e w' => e = .returned (.bool (cvB xs p)) ∧ Below w.heap.size w w' := by
  have H := Lib.hid h
  clear h
  cases h1 : rvB xs with
  | false =>
    have e : cvB xs p = false := by simp [cvB, h1]
    rw [e]
    clear e
    have H1 := Lib.hid (fun w (h : RowI w b o xs) => h1 ▸ rowValid_any b o c xs w h hm)
    clear h1
    go_enter Try.func28, Try.ntmps28
    go_wp2_with (go_at_call 40; refine (H1.out _ H.out).mono ?_; rintro e w1 ⟨rfl, hb1⟩)
    go_ret
    exact ⟨rfl, hb1⟩
  | true =>
    have e : cvB xs p = inB p 1 8 := by simp only [cvB, h1]; rfl
    rw [e]
    clear e
    have H1 := Lib.hid (fun w (h : RowI w b o xs) => h1 ▸ rowValid_any b o c xs w h hm)
    clear h1
    go_enter Try.func28, Try.ntmps28
    go_wp2_with (first | (go_at_call 41; refine (in_any _ _ _ _).mono ?_; rintro e w1 ⟨rfl, rfl⟩) | (go_at_call 40; refine (H1.out _ H.out).mono ?_; rintro e w1 ⟨rfl, hb1⟩))
    go_ret
    exact ⟨rfl, hb1⟩

set_option maxHeartbeats 1000000 in
theorem validSteps_any (b o c : Nat) (xs : List Int) (w : World) (h : RowI w b o xs) (hm : xs.length ≤ 1099511627776) :
    Calls Try.prog 35 #[.slice (some ⟨b, o, none⟩) xs.length c] w fun e w' => e = .returned (.bool (rvB xs)) ∧ w = w' := by
  have H := Lib.hid h
  clear h
  go_enter Try.func35, Try.ntmps35
  go_wp2
  go_loop [3] (fun v3 => ∃ k : Nat, k ≤ xs.length ∧ v3 = .int .i64 k ∧ AllIn xs (-30) 30 k) (fun v3 => xs.length - (intOf v3).toNat)
  case atStart => exact ⟨0, Nat.zero_le _, rfl, fun k hk => absurd hk (Nat.not_lt_zero _)⟩
  case round =>
    obtain ⟨k, hk, rfl, hok⟩ := hrel
    have HO := Lib.hid hok
    clear hok
    by_cases hlt : k < xs.length
    · have c1 := H.out.cell k hlt
      cases hin : inB (gi xs k) (-30) 30 with
      | true =>
        go_wp2_with (go_at_call 36; refine (inRange_any _ _ _ _).mono ?_; rintro e w1 ⟨rfl, rfl⟩)
        go_round
        case rel => exact ⟨k + 1, by omega, by go_num, fun j hj => by by_cases e : j = k; (· subst e; exact hin); exact HO.out j (by omega)⟩
        case measure => simp [intOf]; omega
      | false =>
        have hb := allB_false hlt hin
        have e : rvB xs = false := by simp [rvB, hb]
        have HB := Lib.hid e
        clear hb e
        go_wp2_with (go_at_call 36; refine (inRange_any _ _ _ _).mono ?_; rintro e w1 ⟨rfl, rfl⟩)
        go_ret
        exact ⟨by rw [HB.out]; rfl, rfl⟩
    · have hb : allB xs (-30) 30 = true := allB_iff.2 (by have : k = xs.length := by omega
                                                          rw [← this]; exact HO.out)
      have e : rvB xs = inB xs.length 1 8 := by simp [rvB, hb]
      have HB := Lib.hid e
      clear hb e
      go_wp2_with (go_at_call 36; refine (inRange_any _ _ _ _).mono ?_; rintro e w1 ⟨rfl, rfl⟩)
      go_ret
      exact ⟨by rw [HB.out]; rfl, rfl⟩

set_option maxHeartbeats 1000000 in
theorem sum_any (b o c n : Nat) (l : List Int) (w : World) (h : RowI w b o l) (hn : l.length = n) (h8 : n ≤ 8) (h30 : In30 l) :
    Calls Try.prog 51 #[.slice (some ⟨b, o, none⟩) n c] w fun e w' => e = .returned (.int .i64 (suN l 0 n)) ∧ w = w' := by
  have H := Lib.hid h
  have HN := Lib.hid hn
  have H3 := Lib.hid h30
  clear h hn h30
  go_enter Try.func51, Try.ntmps51
  go_wp2
  go_loop [3, 8] (fun v3 v8 => ∃ k : Nat, k ≤ n ∧ v8 = .int .i64 k ∧ v3 = .int .i64 (suN l 0 k)) (fun _ v8 => n - (intOf v8).toNat)
  case atStart => exact ⟨0, Nat.zero_le _, rfl, rfl⟩
  case round =>
    obtain ⟨k, hk, rfl, rfl⟩ := hrel
    have b1 := suN_bd H3.out 0 k (by rw [HN.out]; omega)
    obtain ⟨s, hs⟩ : ∃ s, suN l 0 k = s := ⟨_, rfl⟩
    rw [hs] at b1 ⊢
    have HS := Lib.hid hs
    clear hs
    by_cases hlt : k < n
    · have hkl : k < l.length := by rw [HN.out]; exact hlt
      have c1 := H.out.cell k hkl
      have b2 := H3.out.at hkl
      obtain ⟨x, hx⟩ : ∃ x, gi l k = x := ⟨_, rfl⟩
      rw [hx] at c1 b2
      have HST := Lib.hid (show suN l 0 (k + 1) = s + x by rw [suN, HS.out, Nat.zero_add, hx])
      clear hx hkl
      go_wp2
      go_round
      case rel => exact ⟨k + 1, by omega, by go_num, by rw [HST.out]⟩
      case measure => simp [intOf]; omega
    · have e : k = n := by omega
      have HE := Lib.hid (show suN l 0 n = s by rw [← e, HS.out])
      clear e
      go_wp2
      go_ret
      exact ⟨by rw [HE.out]; rfl, rfl⟩


end Go.Proofs.Ytfbccnameppikaa
