/- spec.ClosedBy. -/
import Derived.Test.YtjkadlmlkcanpaaClosed
namespace Go.Proofs.Ytjkadlmlkcanpaa
open Go.RowKit

/-- A kind, as a truth value. -/
def KindO (k : ByteArray) (o : Option Bool) : Prop := (k.toList = [108, 101, 97, 115, 116] ∧ o = some false) ∨ (k.toList = [101, 97, 99, 104] ∧ o = some true) ∨ (k.toList ≠ [108, 101, 97, 115, 116] ∧ k.toList ≠ [101, 97, 99, 104] ∧ o = none)
theorem kindO_of (k : ByteArray) : ∃ o, KindO k o := by
  by_cases h1 : k.toList = [108, 101, 97, 115, 116]
  · exact ⟨_, .inl ⟨h1, rfl⟩⟩
  · by_cases h2 : k.toList = [101, 97, 99, 104]
    · exact ⟨_, .inr (.inl ⟨h2, rfl⟩)⟩
    · exact ⟨_, .inr (.inr ⟨h1, h2, rfl⟩)⟩

set_option maxHeartbeats 1000000 in
theorem sclosedBy_any (b o c : Nat) (xs : List Int) (level : Int) (k : ByteArray) (ko : Option Bool) (hk : KindO k ko) (w : World) (h : RowI w b o xs) (hm : xs.length ≤ 1099511627776) :
    Calls Try.prog 39 #[.slice (some ⟨b, o, none⟩) xs.length c, .int .i64 level, .string k] w
      fun e w' => ∃ v, e = .returned v ∧ Mut 3 w' w.heap.size v (cbV xs level ko).length (ic (cbV xs level ko)) ∧ Below w.heap.size w w' := by
  have H := Lib.hid h
  clear h
  have hnil : ∀ {w' : World}, cbV xs level ko = [] → Mut 3 w' w.heap.size (.slice none 0 0) (cbV xs level ko).length (ic (cbV xs level ko)) := fun e => by rw [e]; exact .inl ⟨rfl, rfl, rfl⟩
  cases hv : ovB xs with
  | false =>
    have e : cbV xs level ko = [] := by cases ko <;> simp [cbV, hv]
    have HN := Lib.hid (fun w' => hnil (w' := w') e)
    clear e hk hnil
    go_enter Try.func39, Try.ntmps39
    go_wp2_with (go_at_call 41; refine (svalidOdds_any b o c xs _ H.out hm).mono ?_; rintro e w1 ⟨rfl, rfl⟩; rw [hv])
    go_ret
    exact ⟨_, rfl, HN.out _, Below.refl _ _⟩
  | true =>
    cases hi : inB level 0 1000 with
    | false =>
      have e : cbV xs level ko = [] := by cases ko <;> simp [cbV, hv, hi]
      have HN := Lib.hid (fun w' => hnil (w' := w') e)
      clear e hk hnil
      go_enter Try.func39, Try.ntmps39
      go_wp2_with (first
        | (go_at_call 41; refine (svalidOdds_any b o c xs _ H.out hm).mono ?_; rintro e w1 ⟨rfl, rfl⟩; rw [hv])
        | (go_at_call 53; refine (inRange_any _ _ _ _).mono ?_; rintro e w1 ⟨rfl, rfl⟩; rw [hi]))
      go_ret
      exact ⟨_, rfl, HN.out _, Below.refl _ _⟩
    | true =>
      have hl := inB_iff.1 hi
      have HV := Lib.hid (ov_of hv)
      rcases hk with ⟨hk, rfl⟩ | ⟨hk, rfl⟩ | ⟨h1, h2, rfl⟩
      · have t1 : (k.toList == [108, 101, 97, 115, 116]) = true := by rw [hk]; rfl
        have t2 : (k.toList == [101, 97, 99, 104]) = false := by rw [hk]; rfl
        clear hk
        have e : cbV xs level (some false) = clL xs level false (2 ^ xs.length - 1) xs.length := by simp [cbV, hv, hi]
        have C := Lib.hid (closed_any b o c xs level false w H.out HV.out hl)
        rw [e]
        clear e hnil
        obtain ⟨L, hL⟩ : ∃ L, clL xs level false (2 ^ xs.length - 1) xs.length = L := ⟨_, rfl⟩
        rw [hL] at C ⊢
        clear hL
        go_enter Try.func39, Try.ntmps39
        go_wp2_with (first
          | (go_at_call 41; refine (svalidOdds_any b o c xs _ H.out hm).mono ?_; rintro e w1 ⟨rfl, rfl⟩; rw [hv])
          | (go_at_call 53; refine (inRange_any _ _ _ _).mono ?_; rintro e w1 ⟨rfl, rfl⟩; rw [hi])
          | (go_at_call 74; refine C.out.mono ?_; rintro e w1 ⟨g, cap, rfl, ho, hb⟩))
        go_ret
        exact ⟨_, rfl, .inr ⟨g, cap, rfl, (Blk.of_own ho).2, (Blk.of_own ho).1⟩, hb⟩
      · have t1 : (k.toList == [108, 101, 97, 115, 116]) = false := by rw [hk]; rfl
        have t2 : (k.toList == [101, 97, 99, 104]) = true := by rw [hk]; rfl
        clear hk
        have e : cbV xs level (some true) = clL xs level true (2 ^ xs.length - 1) xs.length := by simp [cbV, hv, hi]
        have C := Lib.hid (closed_any b o c xs level true w H.out HV.out hl)
        rw [e]
        clear e hnil
        obtain ⟨L, hL⟩ : ∃ L, clL xs level true (2 ^ xs.length - 1) xs.length = L := ⟨_, rfl⟩
        rw [hL] at C ⊢
        clear hL
        go_enter Try.func39, Try.ntmps39
        go_wp2_with (first
          | (go_at_call 41; refine (svalidOdds_any b o c xs _ H.out hm).mono ?_; rintro e w1 ⟨rfl, rfl⟩; rw [hv])
          | (go_at_call 53; refine (inRange_any _ _ _ _).mono ?_; rintro e w1 ⟨rfl, rfl⟩; rw [hi])
          | (go_at_call 74; refine C.out.mono ?_; rintro e w1 ⟨g, cap, rfl, ho, hb⟩))
        go_ret
        exact ⟨_, rfl, .inr ⟨g, cap, rfl, (Blk.of_own ho).2, (Blk.of_own ho).1⟩, hb⟩
      · have HN := Lib.hid (fun w' => hnil (w' := w') rfl)
        have t1 : (k.toList == [108, 101, 97, 115, 116]) = false := by rw [beq_eq_false_iff_ne]; exact h1
        have t2 : (k.toList == [101, 97, 99, 104]) = false := by rw [beq_eq_false_iff_ne]; exact h2
        clear hnil h1 h2
        go_enter Try.func39, Try.ntmps39
        go_wp2_with (first
          | (go_at_call 41; refine (svalidOdds_any b o c xs _ H.out hm).mono ?_; rintro e w1 ⟨rfl, rfl⟩; rw [hv])
          | (go_at_call 53; refine (inRange_any _ _ _ _).mono ?_; rintro e w1 ⟨rfl, rfl⟩; rw [hi]))
        go_ret
        exact ⟨_, rfl, HN.out _, Below.refl _ _⟩

end Go.Proofs.Ytjkadlmlkcanpaa
