/- Gaps: their test, of the program and of the reference. -/
import Derived.Test.YtclfjnoedcimiaaMat
import Derived.Test.YtclfjnoedcimiaaList
namespace Go.Proofs.Ytclfjnoedcimiaa
open Go.RowKit

def gm (xss : List (List Int)) (a b : Nat) : Int := gi (gl xss a) b
def prB (xss : List (List Int)) (a : Nat) : Nat → Bool
  | 0 => true
  | b + 1 => prB xss a b && (inB (gm xss a b) 1 40 && (gm xss b a == gm xss a b))
def rwB (xss : List (List Int)) (a : Nat) : Bool := (((gl xss a).length : Int) == (xss.length : Int)) && (gm xss a a == 0) && prB xss a a
def rsB (xss : List (List Int)) : Nat → Bool
  | 0 => true
  | a + 1 => rsB xss a && rwB xss a
def gpB (xss : List (List Int)) : Bool := inB xss.length 1 6 && rsB xss xss.length
theorem prB_false {xss : List (List Int)} {a b : Nat} (h : (inB (gm xss a b) 1 40 && (gm xss b a == gm xss a b)) = false) : ∀ m, b < m → prB xss a m = false
  | 0, hm => absurd hm (Nat.not_lt_zero _)
  | m + 1, hm => by
    rw [prB]
    by_cases e : b = m
    · subst e; rw [h, Bool.and_false]
    · rw [prB_false h m (by omega), Bool.false_and]
theorem rsB_false {xss : List (List Int)} {a : Nat} (h : rwB xss a = false) : ∀ m, a < m → rsB xss m = false
  | 0, hm => absurd hm (Nat.not_lt_zero _)
  | m + 1, hm => by
    rw [rsB]
    by_cases e : a = m
    · subst e; rw [h, Bool.and_false]
    · rw [rsB_false h m (by omega), Bool.false_and]
theorem rsB_row {xss : List (List Int)} : ∀ m, rsB xss m = true → ∀ a, a < m → rwB xss a = true
  | 0, _, a, ha => absurd ha (Nat.not_lt_zero _)
  | m + 1, h, a, ha => by
    rw [rsB, Bool.and_eq_true] at h
    by_cases e : a = m
    · subst e; exact h.2
    · exact rsB_row m h.1 a (by omega)
theorem prB_at {xss : List (List Int)} {a : Nat} : ∀ m, prB xss a m = true → ∀ b, b < m → (1 ≤ gm xss a b ∧ gm xss a b ≤ 40) ∧ gm xss b a = gm xss a b
  | 0, _, b, hb => absurd hb (Nat.not_lt_zero _)
  | m + 1, h, b, hb => by
    rw [prB, Bool.and_eq_true, Bool.and_eq_true] at h
    by_cases e : b = m
    · subst e; exact ⟨inB_iff.1 h.2.1, by simpa using h.2.2⟩
    · exact prB_at m h.1 b (by omega)
theorem rwB_len {xss : List (List Int)} {a : Nat} (h : rwB xss a = true) : (gl xss a).length = xss.length := by
  simp only [rwB, Bool.and_eq_true, beq_iff_eq] at h
  omega
/-- Gaps that are valid. -/
structure Gp (xss : List (List Int)) : Prop where
  n0 : 1 ≤ xss.length
  n6 : xss.length ≤ 6
  len : ∀ a, a < xss.length → (gl xss a).length = xss.length
  diag : ∀ a, a < xss.length → gm xss a a = 0
  low : ∀ a b, a < xss.length → b < a → (1 ≤ gm xss a b ∧ gm xss a b ≤ 40) ∧ gm xss b a = gm xss a b
theorem gp_of {xss : List (List Int)} (h : gpB xss = true) : Gp xss := by
  simp only [gpB, Bool.and_eq_true] at h
  obtain ⟨h1, h2⟩ := h
  have h1 := inB_iff.1 h1
  have hr := rsB_row _ h2
  refine ⟨by omega, by omega, fun a ha => rwB_len (hr a ha), fun a ha => ?_, fun a b ha hb => ?_⟩
  · have := hr a ha
    simp only [rwB, Bool.and_eq_true, beq_iff_eq] at this
    exact this.1.2
  · have := hr a ha
    simp only [rwB, Bool.and_eq_true] at this
    exact prB_at a this.2 b hb

set_option maxHeartbeats 4000000 in
theorem svalidGaps_anyC (g : Nat) (cg : Nat) (H Cp : Nat → Nat) (xss : List (List Int)) (w : World) (h : MatC w g H Cp xss) (hn : xss.length ≤ 1048576) :
    Calls Try.prog 37 #[.slice (some ⟨g, 0, none⟩) xss.length cg] w fun e w' => e = .returned (.bool (gpB xss)) ∧ Below w.heap.size w w' := by
  have HM := Lib.hid h
  have HG := Lib.hid (show gpB xss = (inB xss.length 1 6 && rsB xss xss.length) from rfl)
  clear h
  go_enter Try.func37, Try.ntmps37
  go_wp2_with fail
  go_loopw [3] (fun v3 wr => ∃ a : Nat, v3 = .int .i64 a ∧ a ≤ xss.length ∧ rsB xss a = true ∧ Below w.heap.size w wr) (fun v3 _ => xss.length - (intOf v3).toNat)
  case atStart => exact ⟨0, rfl, by omega, rfl, Below.refl _ _⟩
  case round =>
    obtain ⟨a, rfl, ha, hrs, hb⟩ := hrel
    have HB := Lib.hid hb
    have HRS := Lib.hid hrs
    have hz := hb.size
    clear hrs
    by_cases hlt : a < xss.length
    · obtain ⟨y1, r1⟩ := (HM.out.below hb).row hlt
      have R1 := Lib.hid r1
      have RF := Lib.hid (fun (h : rwB xss a = false) => show gpB xss = false from by rw [HG.out, rsB_false h _ hlt, Bool.and_false])
      clear r1 hb
      by_cases hl : (gl xss a).length = xss.length
      · have t1 : (((gl xss a).length : Int) != (xss.length : Int)) = false := by simp [hl]
        have z1 := R1.out.cell a (by omega)
        rw [Nat.zero_add] at z1
        have hd : gi (gl xss a) a = gm xss a a := rfl
        rw [hd] at z1
        have q0 : (a : Int) < ((gl xss a).length : Int) := by omega
        by_cases hz0 : gm xss a a = 0
        · have t2 : (gm xss a a != 0) = false := by simp [hz0]
          obtain ⟨dd, hdd⟩ : ∃ d, gm xss a a = d := ⟨_, rfl⟩
          have RW := Lib.hid (show rwB xss a = prB xss a a from by simp [rwB, hl, hz0])
          have HL := Lib.hid hl
          rw [hdd] at z1 t2
          obtain ⟨la, hla⟩ : ∃ n, (gl xss a).length = n := ⟨_, rfl⟩
          rw [hla] at y1 t1 q0
          have qla : xss.length ≤ la := by omega
          clear hd hz0 hl hdd hla
          obtain ⟨wo, rfl⟩ : ∃ wo : World, wo = wr := ⟨_, rfl⟩
          go_wp2_with fail
          go_loopw [4] (fun v4 wr => ∃ b : Nat, v4 = .int .i64 b ∧ b ≤ a ∧ prB xss a b = true ∧ Below wo.heap.size wo wr) (fun v4 _ => a - (intOf v4).toNat)
          case atStart => exact ⟨0, rfl, by omega, rfl, Below.refl _ _⟩
          case round =>
            obtain ⟨b, rfl, hba, hpr, hb2⟩ := hrel
            have HB2 := Lib.hid hb2
            have HPR := Lib.hid hpr
            have hz2 := hb2.size
            clear hpr
            by_cases hbl : b < a
            · have hbn : b < xss.length := by omega
              obtain ⟨y2, r2⟩ := (HM.out.below (HB.out.trans (hb2.mono hz))).row hbn
              have hlb := rwB_len (rsB_row a HRS.out b hbl)
              have x2 := r2.cell a (by omega)
              have y3 := keepC hb2 y1
              have x1 := (R1.out.below hb2).cell b (by rw [HL.out]; exact hbn)
              rw [Nat.zero_add] at x1 x2
              have e1 : gi (gl xss a) b = gm xss a b := rfl
              have e2 : gi (gl xss b) a = gm xss b a := rfl
              rw [e1] at x1
              rw [e2] at x2
              have s1 : prB xss a (b + 1) = (prB xss a b && (inB (gm xss a b) 1 40 && (gm xss b a == gm xss a b))) := rfl
              have pf := fun (h : (inB (gm xss a b) 1 40 && (gm xss b a == gm xss a b)) = false) => RF.out (RW.out.trans (prB_false h a hbl))
              rw [HPR.out, Bool.true_and] at s1
              obtain ⟨x, hx⟩ : ∃ x, gm xss a b = x := ⟨_, rfl⟩
              obtain ⟨y, hy⟩ : ∃ y, gm xss b a = y := ⟨_, rfl⟩
              rw [hx] at x1 s1 pf
              rw [hy] at x2 s1 pf
              obtain ⟨lb, hlbe⟩ : ∃ n, (gl xss b).length = n := ⟨_, rfl⟩
              rw [hlbe] at y2 hlb
              have q1 : (b : Int) < (la : Int) := by omega
              have q2 : (a : Int) < (lb : Int) := by omega
              obtain ⟨t, ht⟩ : ∃ t, inB x 1 40 = t := ⟨_, rfl⟩
              have IR := Lib.hid (show ∀ k, Calls Try.prog 38 #[.int .i64 x, .int .i64 1, .int .i64 40] (wr.drewN k) fun e w'' => e = .returned (.bool t) ∧ ∃ m, w'' = wr.drewN m from
                fun k => (inRange_any x 1 40 (wr.drewN k)).mono fun e w'' h => ⟨by rw [h.1, ht], k, h.2.symm⟩)
              rw [ht] at s1 pf
              have S1 := Lib.hid s1
              have PF := Lib.hid pf
              clear r2 hb2 e1 e2 s1 pf hx hy ht hlbe hlb
              cases t with
              | false =>
                go_wp2_with fail
                go_quiet ((go_at_call 38; exact IR.out _))
                go_wp2_with fail
                go_ret
                have hb3 : Below w.heap.size w wr := HB.out.trans (HB2.out.mono hz)
                exact ⟨by rw [PF.out rfl]; rfl, Below.drewN hb3 _⟩
              | true =>
                by_cases hxy : y = x
                · have t3 : (y != x) = false := by simp [hxy]
                  have S2 := Lib.hid (show prB xss a (b + 1) = true from by rw [S1.out]; simp [hxy])
                  clear hxy
                  go_wp2_with fail
                  go_quiet ((go_at_call 38; exact IR.out _))
                  go_wp2_with fail
                  go_roundw
                  case rel => exact ⟨b + 1, by go_num, by omega, S2.out, Below.drewN HB2.out _⟩
                  case measure => simp [intOf]; omega
                · have t3 : (y != x) = true := by rw [bne_iff_ne]; exact hxy
                  have P2 := Lib.hid (PF.out (by simp [hxy]))
                  clear hxy
                  go_wp2_with fail
                  go_quiet ((go_at_call 38; exact IR.out _))
                  go_wp2_with fail
                  go_ret
                  have hb3 : Below w.heap.size w wr := HB.out.trans (HB2.out.mono hz)
                  exact ⟨by rw [P2.out]; rfl, Below.drewN hb3 _⟩
            · have e : b = a := by omega
              subst e
              have RS := Lib.hid (show rsB xss (b + 1) = true from by rw [rsB, HRS.out, RW.out, HPR.out]; rfl)
              have HB3 := Lib.hid (HB.out.trans (HB2.out.mono hz))
              clear hb2
              go_wp2_with fail
              go_roundw
              case rel => exact ⟨b + 1, by go_num, by omega, RS.out, HB3.out⟩
              case measure => simp [intOf]; omega
        · have t2 : (gm xss a a != 0) = true := by rw [bne_iff_ne]; exact hz0
          have F1 := Lib.hid (RF.out (by simp [rwB, hz0]))
          clear hd hz0
          go_wp2_with fail
          go_ret
          exact ⟨by rw [F1.out]; rfl, HB.out⟩
      · have t1 : (((gl xss a).length : Int) != (xss.length : Int)) = true := by rw [bne_iff_ne]; omega
        have F1 := Lib.hid (RF.out (by simp only [rwB]; rw [show (((gl xss a).length : Int) == (xss.length : Int)) = false from by rw [beq_eq_false_iff_ne]; omega]; rfl))
        clear hl
        go_wp2_with fail
        go_ret
        exact ⟨by rw [F1.out]; rfl, HB.out⟩
    · have e : a = xss.length := by omega
      subst e
      have G2 := Lib.hid (show gpB xss = inB xss.length 1 6 from by rw [HG.out, HRS.out, Bool.and_true])
      clear hb
      go_wp2_with (go_at_call 38; refine (inRange_any _ _ _ _).mono ?_; rintro e w2 ⟨rfl, rfl⟩)
      go_ret
      exact ⟨by rw [G2.out]; rfl, HB.out⟩

theorem svalidGaps_any (g : Nat) (H : Nat → Nat) (xss : List (List Int)) (w : World) (h : Mat w g H xss) (hn : xss.length ≤ 1048576) :
    Calls Try.prog 37 #[.slice (some ⟨g, 0, none⟩) xss.length xss.length] w fun e w' => e = .returned (.bool (gpB xss)) ∧ Below w.heap.size w w' :=
  svalidGaps_anyC g _ H _ xss w h hn

end Go.Proofs.Ytclfjnoedcimiaa
