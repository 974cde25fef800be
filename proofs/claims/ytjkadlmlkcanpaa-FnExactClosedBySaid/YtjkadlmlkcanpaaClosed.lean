/- spec.closed and spec.ClosedBy. -/
import Derived.Test.YtjkadlmlkcanpaaFound
namespace Go.Proofs.Ytjkadlmlkcanpaa
open Go.RowKit

/-- Of the sets 1 .. d those with the bit i all hold. -/
def okd (xs : List Int) (level : Int) (simes : Bool) (i : Nat) : Nat → Bool
  | 0 => true
  | d + 1 => okd xs level simes i d && (!(d + 1).testBit i || hdB xs (d + 1) level simes)
/-- All members of sets that do not hold, of the sets 1 .. d. -/
def msd (xs : List Int) (level : Int) (simes : Bool) : Nat → Nat
  | 0 => 0
  | d + 1 => if hdB xs (d + 1) level simes then msd xs level simes d else msd xs level simes d ||| (d + 1)
theorem msd_bit (xs : List Int) (level : Int) (simes : Bool) (i : Nat) : ∀ d, (msd xs level simes d).testBit i = !okd xs level simes i d
  | 0 => by simp [msd, okd]
  | d + 1 => by
    have ih := msd_bit xs level simes i d
    rw [msd, okd]
    cases hdB xs (d + 1) level simes with
    | true => simp [ih]
    | false => simp [ih, Nat.testBit_or, Bool.not_and]
theorem msd_lt (xs : List Int) (level : Int) (simes : Bool) (n : Nat) : ∀ d, d < 2 ^ n → msd xs level simes d < 2 ^ n
  | 0, h => h
  | d + 1, h => by
    have ih := msd_lt xs level simes n d (by omega)
    rw [msd]
    split
    · exact ih
    · exact Nat.or_lt_two_pow ih h
def clL (xs : List Int) (level : Int) (simes : Bool) (D : Nat) : Nat → List Int
  | 0 => []
  | k + 1 => clL xs level simes D k ++ if okd xs level simes k D then [(k : Int)] else []
theorem clL_len (xs : List Int) (level : Int) (simes : Bool) (D : Nat) : ∀ k, (clL xs level simes D k).length ≤ k
  | 0 => Nat.le_refl _
  | k + 1 => by
    have ih := clL_len xs level simes D k
    rw [clL, List.length_append]
    split <;> simp <;> omega
/-- What ClosedBy returns; the kind as a truth value, if it is one of the two. -/
def cbV (xs : List Int) (level : Int) : Option Bool → List Int
  | some simes => if ovB xs && inB level 0 1000 then clL xs level simes (2 ^ xs.length - 1) xs.length else []
  | none => []
theorem cbV_le (xs : List Int) (level : Int) (o : Option Bool) (h : xs.length ≤ 1048576) : (cbV xs level o).length ≤ 1048576 := by
  cases o with
  | none => simp [cbV]
  | some s =>
    simp only [cbV]
    split
    · have := clL_len xs level s (2 ^ xs.length - 1) xs.length; omega
    · simp
theorem subL_pos {xs : List Int} {s n : Nat} (h1 : 1 ≤ s) (h2 : s < 2 ^ n) : 1 ≤ (subL xs s n).length := by
  refine Nat.pos_of_ne_zero fun h => ?_
  have hb : ∀ k, k < n → s.testBit k = false := by
    have key : ∀ n, (subL xs s n).length = 0 → ∀ k, k < n → s.testBit k = false := by
      intro n
      induction n with
      | zero => intro _ k hk; omega
      | succ n ih =>
        intro h k hk
        rw [subL, List.length_append] at h
        by_cases e : k = n
        · subst e
          cases ht : s.testBit k with
          | false => rfl
          | true => rw [ht] at h; simp at h
        · exact ih (by omega) k (by omega)
    exact key n h
  have : s = 0 := by
    apply Nat.eq_of_testBit_eq
    intro k
    rw [Nat.zero_testBit]
    by_cases hk : k < n
    · exact hb k hk
    · exact Nat.testBit_lt_two_pow (Nat.lt_of_lt_of_le h2 (Nat.pow_le_pow_right (by decide) (by omega)))
  omega
theorem pow6 {n : Nat} (h : n ≤ 6) : 1 ≤ 2 ^ n ∧ 2 ^ n ≤ 64 := ⟨Nat.pow_pos (by decide), Nat.le_trans (Nat.pow_le_pow_right (by decide) h) (by decide)⟩

set_option maxHeartbeats 4000000 in
theorem closed_any (b o c : Nat) (xs : List Int) (level : Int) (simes : Bool) (w : World) (h : RowI w b o xs) (hv : Ov xs) (hl : 0 ≤ level ∧ level ≤ 1000) :
    Calls Try.prog 74 #[.slice (some ⟨b, o, none⟩) xs.length c, .int .i64 level, .bool simes] w
      fun e w' => ∃ g cap, e = .returned (.slice (some ⟨g, 0, none⟩) (clL xs level simes (2 ^ xs.length - 1) xs.length).length cap) ∧ OwnI w' w.heap.size (.slice (some ⟨g, 0, none⟩) (clL xs level simes (2 ^ xs.length - 1) xs.length).length cap) (clL xs level simes (2 ^ xs.length - 1) xs.length).length (clL xs level simes (2 ^ xs.length - 1) xs.length) ∧ Below w.heap.size w w' := by
  have H := Lib.hid h
  have n6 := hv.n6
  have HV := Lib.hid hv
  obtain ⟨p1, p2⟩ := pow6 n6
  obtain ⟨P, hP⟩ : ∃ P, 2 ^ xs.length = P := ⟨_, rfl⟩
  rw [hP] at p1 p2 ⊢
  obtain ⟨D, hD⟩ : ∃ D, P - 1 = D := ⟨_, rfl⟩
  rw [hD]
  have hPD : P = D + 1 := by omega
  have CP := Lib.hid (fun w => power_any xs.length P w (by omega) hP)
  rw [hPD] at CP
  clear h hv hP hD p1
  go_enter Try.func74, Try.ntmps74
  go_wp2_with fail
  go_loopw [7, 8] (fun v7 v8 wr => ∃ (k g cap : Nat), v8 = .int .i64 k ∧ k ≤ xs.length ∧ v7 = .slice (some ⟨g, 0, none⟩) (clL xs level simes D k).length cap ∧ OwnI wr w.heap.size (.slice (some ⟨g, 0, none⟩) (clL xs level simes D k).length cap) (clL xs level simes D k).length (clL xs level simes D k) ∧ Below w.heap.size w wr) (fun _ v8 _ => xs.length - (intOf v8).toNat)
  case atStart => exact ⟨0, w.heap.size, 0, rfl, by omega, rfl, World.ownsRow_made w #[] 0 (Nat.le_refl _) (by unfold maxLen; omega) rfl, by (repeat' (first | (with_reducible exact Below.refl _ _) | (with_reducible assumption) | (with_reducible refine Below.drewN ?_ _) | (with_reducible refine Below.alloc ?_ ?_ _) | (with_reducible refine Below.drew ?_) | (with_reducible refine Below.setCell ?_ ?_ _) | (with_reducible refine Below.trans ?_ (Below.mono (by assumption) ?_)) | go_size | (with_reducible refine Nat.le_trans ?_ (Below.size (by assumption)))))⟩
  case round =>
    obtain ⟨k, g, cap, rfl, hk, rfl, ht, hb⟩ := hrel
    have HT := Lib.hid ht
    have HB := Lib.hid hb
    have hz := hb.size
    have s1 : clL xs level simes D (k + 1) = clL xs level simes D k ++ if okd xs level simes k D then [(k : Int)] else [] := rfl
    have sl := clL_len xs level simes D k
    by_cases hlt : k < xs.length
    · obtain ⟨S, hS⟩ : ∃ S, clL xs level simes D k = S := ⟨_, rfl⟩
      rw [hS] at s1 sl HT ⊢
      have S1 := Lib.hid s1
      obtain ⟨wo, rfl⟩ : ∃ wo : World, wo = wr := ⟨_, rfl⟩
      clear hS s1 ht hb
      go_wp2_with fail
      go_loopw [9, 10] (fun v9 v10 wr => ∃ d : Nat, v10 = .int .i64 ((d + 1 : Nat) : Int) ∧ d ≤ D ∧ v9 = .bool (okd xs level simes k d) ∧ Below wo.heap.size wo wr) (fun _ v10 _ => D + 1 - (intOf v10).toNat)
      case atStart => exact ⟨0, rfl, by omega, rfl, Below.refl _ _⟩
      case round =>
        obtain ⟨d, rfl, hd, rfl, hb2⟩ := hrel
        have HB2 := Lib.hid hb2
        have hz2 := hb2.size
        by_cases hdl : d < D
        · have s2 : okd xs level simes k (d + 1) = (okd xs level simes k d && (!(d + 1).testBit k || hdB xs (d + 1) level simes)) := rfl
          rw [bit_of] at s2
          obtain ⟨v, hvv⟩ : ∃ v, (d + 1) / 2 ^ k % 2 = v := ⟨_, rfl⟩
          have CB := Lib.hid (bit_any (d + 1) k wr (by omega) (by omega))
          rw [hvv] at s2 CB
          have CH := Lib.hid (holds_any b o c (d + 1) xs level simes wr ((H.out.below HB.out).below hb2) HV.out hl (by omega))
          obtain ⟨r, hr⟩ : ∃ r, hdB xs (d + 1) level simes = r := ⟨_, rfl⟩
          rw [hr] at s2 CH
          obtain ⟨q, hq⟩ : ∃ q, okd xs level simes k d = q := ⟨_, rfl⟩
          rw [hq] at s2 ⊢
          have q1 : IntKind.i64.wrap (((d + 1 : Nat) : Int) + 1) = ((d + 1 + 1 : Nat) : Int) := by rw [IntWalk.i64_in _ (by omega)]; omega
          have q2 : ((d + 1 : Nat) : Int) < ((D + 1 : Nat) : Int) := by omega
          have hv2 : v < 2 := by rw [← hvv]; exact Nat.mod_lt _ (by decide)
          clear hvv hr hq hb2
          by_cases t : v = 1
          · have t1 : ((v : Int) == 0) = false := by rw [beq_eq_false_iff_ne]; omega
            rw [show decide (v = 1) = true from by simpa using t] at s2
            have S2 := Lib.hid s2
            clear s2 t
            cases q with
            | false =>
              go_wp2_with (go_at_call 94; refine (CP.out _).mono ?_; rintro e w1 ⟨rfl, rfl⟩)
              go_roundw
              case rel => exact ⟨d + 1, rfl, by omega, by rw [S2.out]; rfl, HB2.out⟩
              case measure => simp [intOf]; omega
            | true =>
              go_wp2_with (first
                | (go_at_call 94; refine (CP.out _).mono ?_; rintro e w1 ⟨rfl, rfl⟩)
                | (go_at_call 95; refine CB.out.mono ?_; rintro e w1 ⟨rfl, rfl⟩)
                | (go_at_call 96; refine CH.out.mono ?_; rintro e w1 ⟨rfl, hb3⟩))
              go_roundw
              case rel => exact ⟨d + 1, rfl, by omega, by rw [S2.out]; cases r <;> rfl, HB2.out.trans (hb3.mono hz2)⟩
              case measure => simp [intOf]; omega
          · have t1 : ((v : Int) == 0) = true := by rw [beq_iff_eq]; omega
            rw [show decide (v = 1) = false from by simpa using t] at s2
            have S2 := Lib.hid s2
            clear s2 t
            cases q with
            | false =>
              go_wp2_with (go_at_call 94; refine (CP.out _).mono ?_; rintro e w1 ⟨rfl, rfl⟩)
              go_roundw
              case rel => exact ⟨d + 1, rfl, by omega, by rw [S2.out]; rfl, HB2.out⟩
              case measure => simp [intOf]; omega
            | true =>
              go_wp2_with (first
                | (go_at_call 94; refine (CP.out _).mono ?_; rintro e w1 ⟨rfl, rfl⟩)
                | (go_at_call 95; refine CB.out.mono ?_; rintro e w1 ⟨rfl, rfl⟩))
              go_roundw
              case rel => exact ⟨d + 1, rfl, by omega, by rw [S2.out]; rfl, HB2.out⟩
              case measure => simp [intOf]; omega
        · have e : d = D := by omega
          subst e
          have q2 : ¬ ((d + 1 : Nat) : Int) < ((d + 1 : Nat) : Int) := by omega
          have s1 := S1.out
          have HT2 := Lib.hid (HT.out.below hb2)
          have HB3 := Lib.hid (HB.out.trans (hb2.mono hz))
          have hz3 := HB3.out.size
          obtain ⟨q, hq⟩ : ∃ q, okd xs level simes k d = q := ⟨_, rfl⟩
          rw [hq] at s1 ⊢
          clear hq hb2 HT HB2
          cases q with
          | true =>
            rw [if_pos rfl] at s1
            have S3 := Lib.hid s1
            clear s1
            go_wp2_with (first
              | (go_at_call 94; refine (CP.out _).mono ?_; rintro e w1 ⟨rfl, rfl⟩)
              | (at_builtin; refine wpList_app1 rfl (.tmp 40) (.tmp 42) 22 rfl w.heap.size 3 (.int .i64 0) 1 8 Try.underlying22 infoI rfl (by decide) (by decide) _ _ _ rfl (World.ownsRow.alloc HT2.out _) ⟨_, 0, none⟩ 1 [.int .i64 _] rfl rfl (cell_one_new _ _ _) (by simp [Value.oneCell']) (by omega) (by simp; omega) ?_; intro g6 cap6 w6 o1 o2 o3))
            go_roundw
            case rel =>
              have e : (clL xs level simes d (k + 1)).length = S.length + 1 := by rw [S3.out]; simp
              exact ⟨k + 1, g6, cap6, by go_num, by omega, by rw [e], by rw [e, S3.out]; exact OwnI.app o1, (HB3.out.alloc hz3 _).trans (Below.app (World.ownsRow.alloc HT2.out _) (by simp; omega) o2)⟩
            case measure => simp [intOf]; omega
          | false =>
            rw [if_neg (by simp), List.append_nil] at s1
            have S3 := Lib.hid s1
            clear s1
            go_wp2_with (go_at_call 94; refine (CP.out _).mono ?_; rintro e w1 ⟨rfl, rfl⟩)
            go_roundw
            case rel => exact ⟨k + 1, g, cap, by go_num, by omega, by rw [S3.out], by rw [S3.out]; exact HT2.out, HB3.out⟩
            case measure => simp [intOf]; omega
    · have e : k = xs.length := by omega
      subst e
      clear s1 sl ht hb
      go_wp2_with fail
      go_ret
      exact ⟨g, cap, rfl, HT.out, HB.out⟩

end Go.Proofs.Ytjkadlmlkcanpaa
