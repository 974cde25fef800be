/- The law laws.FnMarkOf returns true for all codes, and changes no memory that was there. -/
import Derived.Test.YtjkadlmlkcanpaaCasesGen
import Derived.Test.YtjkadlmlkcanpaaMark
import Derived.Test.YtjkadlmlkcanpaaSMark
import Derived.Test.YtjkadlmlkcanpaaTot
namespace Go.Proofs.Ytjkadlmlkcanpaa
open Go.RowKit

/-- The sum of the marks at the indices of a list. -/
def sgI (ws : List Int) : List Int → Int
  | [] => 0
  | a :: L => gi ws a.toNat + sgI ws L
theorem sgI_append (ws : List Int) (B : List Int) : ∀ A : List Int, sgI ws (A ++ B) = sgI ws A + sgI ws B
  | [] => by simp [sgI]
  | a :: A => by rw [List.cons_append, sgI, sgI, sgI_append ws B A]; omega
theorem sgI_insK (ws : List Int) {f : Int → Int} {x : Int} : ∀ L : List Int, sgI ws (insK f x L) = gi ws x.toNat + sgI ws L
  | [] => rfl
  | y :: ys => by
    simp only [insK]
    split
    · rw [sgI, sgI, sgI_insK ws ys]; omega
    · rw [sgI]
theorem sgI_ordK (ws : List Int) (f : Int → Int) : ∀ n, sgI ws (ordK f n) = totS ws n
  | 0 => rfl
  | n + 1 => by rw [ordK, sgI_insK, sgI_ordK ws f n, totS, Int.toNat_natCast]; omega
theorem onesI_take (xs ws : List Int) (x : Int) : ∀ j, j ≤ xs.length → onesI xs ws x j = sgI ws ((nearL xs x).take j)
  | 0, _ => rfl
  | j + 1, h => by
    have hj : j < (nearL xs x).length := by rw [nearL_length]; omega
    rw [onesI, onesI_take xs ws x j (by omega), List.take_succ_eq_append_getElem hj, sgI_append, gi_eq hj]
    simp [sgI]
theorem onesI_all (xs ws : List Int) (x : Int) : onesI xs ws x xs.length = totS ws xs.length := by
  rw [onesI_take xs ws x _ (Nat.le_refl _), List.take_of_length_le (by rw [nearL_length]; omega)]
  exact sgI_ordK ws _ _
theorem onesI_up {xs ws : List Int} {x : Int} (h : Vc xs ws) (j : Nat) : ∀ d, j + d ≤ xs.length → onesI xs ws x j ≤ onesI xs ws x (j + d) ∧ onesI xs ws x (j + d) ≤ onesI xs ws x j + d
  | 0, _ => by simp
  | d + 1, hd => by
    have ih := onesI_up (x := x) h j d (by omega)
    obtain ⟨m, hm, he⟩ := nearL_at (xs := xs) (x := x) (j := j + d) (by omega)
    have := h.m m (by rw [h.len]; exact hm)
    rw [← Nat.add_assoc, onesI, he, Int.toNat_natCast]
    omega
/-- What the law asks of the marks. -/
theorem mark_facts {xs ws : List Int} {x k : Int} (h : mkB xs ws x k = true) : ∃ o a T : Int, markV xs ws x k = o ∧ markV xs ws x xs.length = a ∧ totS ws ws.length = T ∧ Vc xs ws ∧ (o = 0 ∨ o = 1) ∧
    ((a = 1 ∧ (xs.length : Int) ≤ 2 * T) ∨ (a = 0 ∧ ¬ (xs.length : Int) ≤ 2 * T)) ∧ ((0 < T ∧ T < xs.length) ∨ (0 < T ∧ ¬ T < xs.length ∧ o = 1) ∨ (¬ 0 < T ∧ T < xs.length ∧ o = 0)) ∧ 0 ≤ T ∧ T ≤ 100 := by
  have h' := h
  simp only [mkB, Bool.and_eq_true] at h'
  obtain ⟨⟨h1, h2⟩, h3⟩ := h'
  have hv := vc_of h1
  have h3 := inB_iff.1 h3
  have n0 := hv.n0
  have n10 := hv.n10
  have e1 : mkB xs ws x xs.length = true := by
    simp only [mkB, Bool.and_eq_true]
    exact ⟨⟨h1, h2⟩, inB_iff.2 ⟨by omega, Int.le_refl _⟩⟩
  have e2 : totS ws ws.length = onesI xs ws x xs.length := by rw [onesI_all, hv.len]
  obtain ⟨kn, rfl⟩ : ∃ kn : Nat, k = kn := ⟨k.toNat, by omega⟩
  have hb := onesI_bd (x := x) hv kn (by omega)
  have hu := onesI_up (x := x) hv kn (xs.length - kn) (by omega)
  rw [show kn + (xs.length - kn) = xs.length by omega] at hu
  have hn := onesI_bd (x := x) hv xs.length (Nat.le_refl _)
  refine ⟨_, _, _, rfl, rfl, rfl, hv, ?_, ?_, ?_, ?_, ?_⟩
  · simp only [markV, h, if_true]
    split
    · exact .inr rfl
    · exact .inl rfl
  · simp only [markV, e1, if_true, Int.toNat_natCast, e2]
    by_cases t : (xs.length : Int) ≤ 2 * onesI xs ws x xs.length
    · exact .inl ⟨if_pos t, t⟩
    · exact .inr ⟨if_neg t, t⟩
  · simp only [markV, h, if_true, Int.toNat_natCast, e2]
    by_cases t1 : 0 < onesI xs ws x xs.length
    · by_cases t2 : onesI xs ws x xs.length < (xs.length : Int)
      · exact .inl ⟨t1, t2⟩
      · exact .inr (.inl ⟨t1, t2, if_pos (by omega)⟩)
    · exact .inr (.inr ⟨t1, by omega, if_neg (by omega)⟩)
  · rw [e2]; omega
  · rw [e2]; omega

set_option maxHeartbeats 30000000 in
set_option maxRecDepth 100000 in
theorem FnMarkOf_main (ad : Option Addr) (n c : Nat) (w : World) (h : CodeB w w.heap.size ad n) (hn : n ≤ 1048576) (hc : n ≤ c) :
    Calls Try.prog 9 #[.slice ad n c] w fun e w' => e = .returned (.bool true) ∧ Below w.heap.size w w' := by
  have H := Lib.hid h
  clear h
  go_enter Try.func9, Try.ntmps9
  go_wp2_with fail
  refine (drawMarkOf_any ad n c w H.out (by omega) hc).mono ?_
  rintro e w2 ⟨g1, c1, g2, c2, xs, ws, x, k, rfl, r1, r2, ⟨l1, l1c⟩, ⟨l2, l2c⟩, b2⟩
  have R1 := Lib.hid r1
  have R2 := Lib.hid r2
  have z2 := b2.size
  have B2 := Lib.hid b2
  clear r1 r2 b2 H
  have C1 := markOf_any g1 0 c1 g2 0 c2 xs ws x k w2 R1.out R2.out (by omega) (by omega)
  have C2 := Lib.hid (fun w3 hb => smarkOf_any g1 0 c1 g2 0 c2 xs ws x k w3 (R1.out.below hb) (R2.out.below hb) (by omega) (by omega))
  have C3 := Lib.hid (fun w3 hb => markOf_any g1 0 c1 g2 0 c2 xs ws x xs.length w3 (R1.out.below hb) (R2.out.below hb) (by omega) (by omega))
  cases hv : mkB xs ws x k with
  | false =>
    have hm : markV xs ws x k = -1 := by simp [markV, hv]
    rw [hm] at C1 C2
    clear hm hv C3
    go_wp2_with fail
    refine C1.mono ?_
    rintro e w3 ⟨rfl, b3⟩
    have z3 := b3.size
    clear C1
    go_wp2_with fail
    refine (C2.out w3 b3).mono ?_
    rintro e w4 ⟨rfl, b4⟩
    have z4 := b4.size
    have b4' := b3.trans (b4.mono z3)
    clear b3 b4
    go_wp2_with fail
    refine (C2.out w4 b4').mono ?_
    rintro e w5 ⟨rfl, b5⟩
    have B5 := Lib.hid (B2.out.trans (b4'.mono z2) |>.trans (b5.mono (by omega)))
    clear C2 b4' b5 B2
    go_wp2_with fail
    go_ret
    exact ⟨rfl, B5.out⟩
  | true =>
    obtain ⟨o, a, T, ho, ha, hT, hvc, ho1, hA, hO, hT0, hT1⟩ := mark_facts hv
    have hlen := hvc.len
    have n10 := hvc.n10
    have n0 := hvc.n0
    rw [ho] at C1 C2
    rw [ha] at C3
    have CT := Lib.hid (fun w3 (hb : RowI w3 g2 0 ws) => total_row g2 0 c2 ws 1 w3 hb (by omega) (fun y hy => by obtain ⟨j, hj, rfl⟩ := List.getElem_of_mem hy; have := hvc.m j hj; rwa [gi_eq hj] at this) (by omega))
    rw [hT] at CT
    clear ho ha hT hv hvc hlen
    have e0 : (o != o) = false := by simp
    have e1 : decide (o < 0) = false := by rw [decide_eq_false_iff_not]; omega
    have q1 : IntKind.i64.wrap (2 * T) = 2 * T := IntWalk.i64_in _ (by omega)
    go_wp2_with fail
    refine C1.mono ?_
    rintro e w3 ⟨rfl, b3⟩
    have z3 := b3.size
    clear C1
    go_wp2_with fail
    refine (C2.out w3 b3).mono ?_
    rintro e w4 ⟨rfl, b4⟩
    have z4 := b4.size
    have b4' := b3.trans (b4.mono z3)
    clear b3 b4 C2
    go_wp2_with fail
    refine (CT.out w4 (R2.out.below b4')).mono ?_
    rintro e w5 ⟨rfl, rfl⟩
    go_wp2_with fail
    refine (C3.out w4 b4').mono ?_
    rintro e w5 ⟨rfl, b5⟩
    have B5 := Lib.hid (B2.out.trans (b4'.mono z2) |>.trans (b5.mono (by omega)))
    clear C3 b4' b5 B2 CT
    rcases hA with ⟨rfl, t⟩ | ⟨rfl, t⟩
    · have t' : decide ((xs.length : Int) ≤ 2 * T) = true := by simpa using t
      rcases hO with ⟨t1, t2⟩ | ⟨t1, t2, rfl⟩ | ⟨t1, t2, rfl⟩
      · have t1' : decide (0 < T) = true := by simpa using t1
        have t2' : decide (T < (xs.length : Int)) = true := by simpa using t2
        clear t t1 t2
        go_wp2_with fail
        go_ret
        exact ⟨rfl, B5.out⟩
      · have t1' : decide (0 < T) = true := by simpa using t1
        have t2' : decide (T < (xs.length : Int)) = false := by simpa using t2
        clear t t1 t2
        go_wp2_with fail
        go_ret
        exact ⟨rfl, B5.out⟩
      · have t1' : decide (0 < T) = false := by simpa using t1
        have t2' : decide (T < (xs.length : Int)) = true := by simpa using t2
        clear t t1 t2
        go_wp2_with fail
        go_ret
        exact ⟨rfl, B5.out⟩
    · have t' : decide ((xs.length : Int) ≤ 2 * T) = false := by simpa using t
      rcases hO with ⟨t1, t2⟩ | ⟨t1, t2, rfl⟩ | ⟨t1, t2, rfl⟩
      · have t1' : decide (0 < T) = true := by simpa using t1
        have t2' : decide (T < (xs.length : Int)) = true := by simpa using t2
        clear t t1 t2
        go_wp2_with fail
        go_ret
        exact ⟨rfl, B5.out⟩
      · exact absurd t (by omega)
      · have t1' : decide (0 < T) = false := by simpa using t1
        have t2' : decide (T < (xs.length : Int)) = true := by simpa using t2
        clear t t1 t2
        go_wp2_with fail
        go_ret
        exact ⟨rfl, B5.out⟩

set_option maxHeartbeats 1000000 in
theorem FnMarkOf_long (ad : Option Addr) (la ca : Nat) (w : World) (h : 1048576 < la) (h1 : la ≤ 9223372036854775807) :
    Calls Try.prog 9 #[.slice ad la ca] w fun e w' => e = .returned (.bool true) ∧ Below w.heap.size w w' := by
  go_enter Try.func9, Try.ntmps9
  go_wp2_with fail
  go_ret
  exact ⟨rfl, Below.refl _ _⟩

end Go.Proofs.Ytjkadlmlkcanpaa
