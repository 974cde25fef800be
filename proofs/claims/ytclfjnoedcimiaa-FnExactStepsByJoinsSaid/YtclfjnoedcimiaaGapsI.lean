/- impl.ValidGaps. -/
import Derived.Test.YtclfjnoedcimiaaGaps
namespace Go.Proofs.Ytclfjnoedcimiaa
open Go.RowKit

set_option maxHeartbeats 4000000 in
theorem validGaps_anyC (g : Nat) (cg : Nat) (H Cp : Nat → Nat) (xss : List (List Int)) (w : World) (h : MatC w g H Cp xss) (hn : xss.length ≤ 1048576) :
    Calls Try.prog 16 #[.slice (some ⟨g, 0, none⟩) xss.length cg] w fun e w' => e = .returned (.bool (gpB xss)) ∧ Below w.heap.size w w' := by
  have HM := Lib.hid h
  have HG := Lib.hid (show gpB xss = (inB xss.length 1 6 && rsB xss xss.length) from rfl)
  clear h
  cases hin : inB xss.length 1 6 with
  | false =>
    have e : gpB xss = false := by rw [HG.out, hin]; rfl
    rw [e]
    clear e
    go_enter Try.func16, Try.ntmps16
    go_wp2_with (go_at_call 35; refine (in_any _ _ _ _).mono ?_; rintro e w2 ⟨rfl, rfl⟩; rw [hin])
    go_ret
    exact ⟨rfl, Below.refl _ _⟩
  | true =>
    have HG2 := Lib.hid (show gpB xss = rsB xss xss.length from by rw [HG.out, hin]; rfl)
    go_enter Try.func16, Try.ntmps16
    go_wp2_with (go_at_call 35; refine (in_any _ _ _ _).mono ?_; rintro e w2 ⟨rfl, rfl⟩; rw [hin])
    clear hin
    go_loopw [12] (fun v12 wr => ∃ a : Nat, v12 = .int .i64 a ∧ a ≤ xss.length ∧ rsB xss a = true ∧ Below w.heap.size w wr) (fun v12 _ => xss.length - (intOf v12).toNat)
    case atStart => exact ⟨0, rfl, by omega, rfl, Below.refl _ _⟩
    case round =>
      obtain ⟨a, rfl, ha, hrs, hb⟩ := hrel
      have HB := Lib.hid hb
      have HRS := Lib.hid hrs
      have hz := hb.size
      clear hrs
      by_cases hlt : a < xss.length
      · obtain ⟨y1, r1⟩ := (HM.out.below hb).row hlt
        have R1 := Lib.hid r1
        have RF := Lib.hid (fun (h : rwB xss a = false) => show gpB xss = false from by rw [HG2.out, rsB_false h _ hlt])
        clear r1 hb
        by_cases hl : (gl xss a).length = xss.length
        · have t1 : (((gl xss a).length : Int) != (xss.length : Int)) = false := by simp [hl]
          have z1 := R1.out.cell a (by omega)
          rw [Nat.zero_add] at z1
          have hd : gi (gl xss a) a = gm xss a a := rfl
          rw [hd] at z1
          have q0 : (a : Int) < ((gl xss a).length : Int) := by omega
          by_cases hz0 : gm xss a a = 0
          · have t2 : (gm xss a a != 0) = false := by simp [hz0]
            obtain ⟨dd, hdd⟩ : ∃ d, gm xss a a = d := ⟨_, rfl⟩
            have RW := Lib.hid (show rwB xss a = prB xss a a from by simp [rwB, hl, hz0])
            have HL := Lib.hid hl
            rw [hdd] at z1 t2
            obtain ⟨la, hla⟩ : ∃ n, (gl xss a).length = n := ⟨_, rfl⟩
            rw [hla] at y1 t1 q0
            have qla : xss.length ≤ la := by omega
            clear hd hz0 hl hdd hla
            obtain ⟨wo, rfl⟩ : ∃ wo : World, wo = wr := ⟨_, rfl⟩
            go_wp2_with fail
            go_loopw [30] (fun v30 wr => ∃ b : Nat, v30 = .int .i64 b ∧ b ≤ a ∧ prB xss a b = true ∧ Below wo.heap.size wo wr) (fun v30 _ => a - (intOf v30).toNat)
            case atStart => exact ⟨0, rfl, by omega, rfl, Below.refl _ _⟩
            case round =>
              obtain ⟨b, rfl, hba, hpr, hb2⟩ := hrel
              have HB2 := Lib.hid hb2
              have HPR := Lib.hid hpr
              have hz2 := hb2.size
              clear hpr
              by_cases hbl : b < a
              · have hbn : b < xss.length := by omega
                obtain ⟨y2, r2⟩ := (HM.out.below (HB.out.trans (hb2.mono hz))).row hbn
                have hlb := rwB_len (rsB_row a HRS.out b hbl)
                have x2 := r2.cell a (by omega)
                have x1 := (R1.out.below hb2).cell b (by rw [HL.out]; exact hbn)
                rw [Nat.zero_add] at x1 x2
                have e1 : gi (gl xss a) b = gm xss a b := rfl
                have e2 : gi (gl xss b) a = gm xss b a := rfl
                rw [e1] at x1
                rw [e2] at x2
                have s1 : prB xss a (b + 1) = (prB xss a b && (inB (gm xss a b) 1 40 && (gm xss b a == gm xss a b))) := rfl
                have pf := fun (h : (inB (gm xss a b) 1 40 && (gm xss b a == gm xss a b)) = false) => RF.out (RW.out.trans (prB_false h a hbl))
                rw [HPR.out, Bool.true_and] at s1
                obtain ⟨x, hx⟩ : ∃ x, gm xss a b = x := ⟨_, rfl⟩
                obtain ⟨y, hy⟩ : ∃ y, gm xss b a = y := ⟨_, rfl⟩
                rw [hx] at x1 s1 pf
                rw [hy] at x2 s1 pf
                obtain ⟨lb, hlbe⟩ : ∃ n, (gl xss b).length = n := ⟨_, rfl⟩
                rw [hlbe] at y2 hlb
                have q1 : (b : Int) < (la : Int) := by omega
                have q2 : (a : Int) < (lb : Int) := by omega
                obtain ⟨t, ht⟩ : ∃ t, inB x 1 40 = t := ⟨_, rfl⟩
                have IR := Lib.hid (show ∀ k, Calls Try.prog 35 #[.int .i64 x, .int .i64 1, .int .i64 40] (wr.drewN k) fun e w'' => e = .returned (.bool t) ∧ ∃ m, w'' = wr.drewN m from
                  fun k => (in_any x 1 40 (wr.drewN k)).mono fun e w'' h => ⟨by rw [h.1, ht], k, h.2.symm⟩)
                rw [ht] at s1 pf
                have S1 := Lib.hid s1
                have PF := Lib.hid pf
                clear r2 hb2 e1 e2 s1 pf hx hy ht hlbe hlb
                cases t with
                | false =>
                  go_wp2_with fail
                  go_quiet ((go_at_call 35; exact IR.out _))
                  go_wp2_with fail
                  go_ret
                  have hb3 : Below w.heap.size w wr := HB.out.trans (HB2.out.mono hz)
                  exact ⟨by rw [PF.out rfl]; rfl, Below.drewN hb3 _⟩
                | true =>
                  by_cases hxy : y = x
                  · have t3 : (y != x) = false := by simp [hxy]
                    have S2 := Lib.hid (show prB xss a (b + 1) = true from by rw [S1.out]; simp [hxy])
                    clear hxy
                    go_wp2_with fail
                    go_quiet ((go_at_call 35; exact IR.out _))
                    go_wp2_with fail
                    go_roundw
                    case rel => exact ⟨b + 1, by go_num, by omega, S2.out, Below.drewN HB2.out _⟩
                    case measure => simp [intOf]; omega
                  · have t3 : (y != x) = true := by rw [bne_iff_ne]; exact hxy
                    have P2 := Lib.hid (PF.out (by simp [hxy]))
                    clear hxy
                    go_wp2_with fail
                    go_quiet ((go_at_call 35; exact IR.out _))
                    go_wp2_with fail
                    go_ret
                    have hb3 : Below w.heap.size w wr := HB.out.trans (HB2.out.mono hz)
                    exact ⟨by rw [P2.out]; rfl, Below.drewN hb3 _⟩
              · have e : b = a := by omega
                subst e
                have RS := Lib.hid (show rsB xss (b + 1) = true from by rw [rsB, HRS.out, RW.out, HPR.out]; rfl)
                have HB3 := Lib.hid (HB.out.trans (HB2.out.mono hz))
                clear hb2
                go_wp2_with fail
                go_roundw
                case rel => exact ⟨b + 1, by go_num, by omega, RS.out, HB3.out⟩
                case measure => simp [intOf]; omega
          · have t2 : (gm xss a a != 0) = true := by rw [bne_iff_ne]; exact hz0
            have F1 := Lib.hid (RF.out (by simp [rwB, hz0]))
            clear hd hz0
            go_wp2_with fail
            go_ret
            exact ⟨by rw [F1.out]; rfl, HB.out⟩
        · have t1 : (((gl xss a).length : Int) != (xss.length : Int)) = true := by rw [bne_iff_ne]; omega
          have F1 := Lib.hid (RF.out (by simp only [rwB]; rw [show (((gl xss a).length : Int) == (xss.length : Int)) = false from by rw [beq_eq_false_iff_ne]; omega]; rfl))
          clear hl
          go_wp2_with fail
          go_ret
          exact ⟨by rw [F1.out]; rfl, HB.out⟩
      · have e : a = xss.length := by omega
        subst e
        have G2 := Lib.hid (show gpB xss = true from by rw [HG2.out, HRS.out])
        clear hb
        go_wp2_with fail
        go_ret
        exact ⟨by rw [G2.out]; rfl, HB.out⟩

theorem validGaps_any (g : Nat) (H : Nat → Nat) (xss : List (List Int)) (w : World) (h : Mat w g H xss) (hn : xss.length ≤ 1048576) :
    Calls Try.prog 16 #[.slice (some ⟨g, 0, none⟩) xss.length xss.length] w fun e w' => e = .returned (.bool (gpB xss)) ∧ Below w.heap.size w w' :=
  validGaps_anyC g _ H _ xss w h hn

end Go.Proofs.Ytclfjnoedcimiaa
