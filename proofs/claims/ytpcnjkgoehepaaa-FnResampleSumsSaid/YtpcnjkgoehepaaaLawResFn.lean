/- The law laws.FnResampleSums returns true for all codes, and changes no memory that was there. -/
import Derived.Test.YtpcnjkgoehepaaaResC
import Derived.Test.YtpcnjkgoehepaaaSevF
import Derived.Test.YtpcnjkgoehepaaaDrawRes
import Derived.Test.YtpcnjkgoehepaaaEqI
namespace Go.Proofs.Ytpcnjkgoehepaaa
open Go.RowKit

structure RsF (xs : List Int) (L : List (Int × Int)) : Prop where
  n4 : xs.length ≤ 4
  x : ∀ i, i < xs.length → -200 ≤ gi xs i ∧ gi xs i ≤ 200
  asc : Asc (fS L) L.length
  tot : sX (gi (sS L)) L.length = (xs.length : Int) ^ xs.length
  up : sX (fun i => gi (fS L) i * gi (sS L) i) L.length = (xs.length : Int) ^ xs.length * sX (gi xs) xs.length
  fb : ∀ i, i < L.length → -800 ≤ gi (fS L) i ∧ gi (fS L) i ≤ 800
  sb : ∀ i, i < L.length → 0 ≤ gi (sS L) i ∧ gi (sS L) i ≤ 256
theorem rsF_of {xs : List Int} (h : (rL xs).length ≠ 0) : RsF xs (rL xs) := by
  have ok : vdB xs = true ∧ inB (xs.length : Int) 1 4 = true := Classical.byContradiction fun hc => h (by rw [rL, if_neg hc]; rfl)
  have e : rL xs = dF (gi xs) xs.length xs.length 0 [] := if_pos ok
  have hb := inB_iff.1 ok.2
  have hx := (vd_of ok.1).x
  have D := dr_all (gi xs) (n := xs.length) (by omega) (by omega)
  rw [e]
  refine ⟨by omega, hx, fun k hk => ?_, ?_, ?_, fun i hi => ?_, fun i hi => ?_⟩
  · have hp : (fS (dF (gi xs) xs.length xs.length 0 [])).Pairwise (· < ·) := by rw [fS, List.pairwise_map]; exact D.asc.asc
    have hl := fS_length (dF (gi xs) xs.length xs.length 0 [])
    rw [gi_eq (by omega), gi_eq (by omega)]
    exact List.pairwise_iff_getElem.1 hp k (k + 1) (by omega) (by omega) (by omega)
  · rw [tS_sum, tS_dF]; simp [tS]
  · rw [wS_sum, wS_all (gi xs) (by omega)]
  · have hl := fS_length (dF (gi xs) xs.length xs.length 0 [])
    have hm : gi (fS (dF (gi xs) xs.length xs.length 0 [])) i ∈ fS (dF (gi xs) xs.length xs.length 0 []) := by rw [gi_eq (by omega)]; exact List.getElem_mem _
    have := Ct_far (gi xs) xs.length hx xs.length _ ((D.mem _).1 hm)
    omega
  · rw [D.cnt i hi]
    have h1 := Ct_bd (gi xs) xs.length (by omega) xs.length (gi (fS (dF (gi xs) xs.length xs.length 0 [])) i)
    have h2 : (4 : Int) ^ xs.length ≤ 256 := by
      have : xs.length = 1 ∨ xs.length = 2 ∨ xs.length = 3 ∨ xs.length = 4 := by omega
      rcases this with h | h | h | h <;> rw [h] <;> decide
    omega

set_option maxHeartbeats 8000000 in
set_option maxRecDepth 100000 in
theorem FnResampleSums_main (ad : Option Addr) (n c : Nat) (w : World) (h : CodeB w w.heap.size ad n) (hn : n ≤ 1048576) (hc : n ≤ c) :
    Calls Try.prog 5 #[.slice ad n c] w fun e w' => e = .returned (.bool true) ∧ Below w.heap.size w w' := by
  have H := Lib.hid h
  clear h
  go_enter Try.func5, Try.ntmps5
  go_wp2_with fail
  refine (drawRes_any ad n c w H.out (by omega) hc).mono ?_
  rintro e w2 ⟨g1, c1, xs, rfl, r1, l1, l1c, b2⟩
  have R1 := Lib.hid r1
  have z2 := b2.size
  have B2 := Lib.hid b2
  clear r1 b2 H
  have CI := rs_impl g1 0 c1 xs w2 R1.out (by omega)
  have CS := Lib.hid (fun w3 hb => rs_spec g1 0 c1 xs w3 (R1.out.below hb) (by omega))
  have HF := Lib.hid (fun h => rsF_of (xs := xs) h)
  obtain ⟨L, hL⟩ : ∃ L, rL xs = L := ⟨_, rfl⟩
  rw [hL] at CI CS HF
  have fl := fS_length L
  have sl := sS_length L
  clear hL
  by_cases hK : L.length = 0
  · rw [hK] at CI
    clear HF
    go_wp2_with fail
    refine CI.mono ?_
    rintro e w3 ⟨v1, v2, mid, rfl, _, q1, q2, m1, m2, b3⟩
    obtain ⟨A1, C1, rfl, a1⟩ := mut_arg m1.mut (by omega)
    obtain ⟨A2, C2, rfl, a2⟩ := mut_arg m2.mut (by omega)
    have z3 := b3.size
    have a1 := Lib.hid a1
    have a2 := Lib.hid a2
    have B3 := Lib.hid (B2.out.trans (b3.mono z2))
    clear CI m1 m2
    go_wp2_with fail
    refine (CS.out w3 b3).mono ?_
    rintro e w4 ⟨u, v, rfl, au, av, b4⟩
    have z4 := b4.size
    have a1 := Lib.hid (a1.out.below b4)
    have a2 := Lib.hid (a2.out.below b4)
    have au := Lib.hid au
    have av := Lib.hid av
    have B4 := Lib.hid (B3.out.trans (b4.mono (by omega)))
    clear b3 b4 CS B3 B2
    go_wp2_with fail
    refine (equalInts_any _ _ (fS L) _ a1.out au.out (by omega)).mono ?_
    rintro e w5 ⟨rfl, b5⟩
    have z5 := b5.size
    have a1 := Lib.hid (a1.out.below b5)
    have a2 := Lib.hid (a2.out.below b5)
    have au := Lib.hid (au.out.below b5)
    have av := Lib.hid (av.out.below b5)
    have B5 := Lib.hid (B4.out.trans (b5.mono (by omega)))
    clear b5 B4
    go_wp2_with fail
    refine (equalInts_any _ _ (sS L) _ a2.out av.out (by omega)).mono ?_
    rintro e w6 ⟨rfl, b6⟩
    have z6 := b6.size
    have a1 := Lib.hid (a1.out.below b6)
    have a2 := Lib.hid (a2.out.below b6)
    have au := Lib.hid (au.out.below b6)
    have av := Lib.hid (av.out.below b6)
    have B6 := Lib.hid (B5.out.trans (b6.mono (by omega)))
    clear b6 B5
    go_wp2_with fail
    refine (equalInts_any _ _ (fS L) _ a1.out au.out (by omega)).mono ?_
    rintro e w7 ⟨rfl, b7⟩
    have z7 := b7.size
    have a1 := Lib.hid (a1.out.below b7)
    have a2 := Lib.hid (a2.out.below b7)
    have au := Lib.hid (au.out.below b7)
    have av := Lib.hid (av.out.below b7)
    have B7 := Lib.hid (B6.out.trans (b7.mono (by omega)))
    clear b7 B6
    go_wp2_with fail
    refine (equalInts_any _ _ (sS L) _ a2.out av.out (by omega)).mono ?_
    rintro e w8 ⟨rfl, b8⟩
    have z8 := b8.size
    have a1 := Lib.hid (a1.out.below b8)
    have a2 := Lib.hid (a2.out.below b8)
    have au := Lib.hid (au.out.below b8)
    have av := Lib.hid (av.out.below b8)
    have B8 := Lib.hid (B7.out.trans (b8.mono (by omega)))
    clear b8 B7
    go_wp2_with fail
    go_ret
    exact ⟨rfl, B8.out⟩
  · have F := Lib.hid (HF.out hK)
    clear HF
    go_wp2_with fail
    refine CI.mono ?_
    rintro e w3 ⟨v1, v2, mid, rfl, hl256, q1, q2, m1, m2, b3⟩
    obtain ⟨gA, CA, rfl, k1⟩ := mut_row m1.mut (by omega) (by omega)
    obtain ⟨gB, CB, rfl, k2⟩ := mut_row m2.mut (by omega) (by omega)
    have z3 := b3.size
    have k1 := Lib.hid k1
    have k2 := Lib.hid k2
    have B3 := Lib.hid (B2.out.trans (b3.mono z2))
    clear CI m1 m2 q1 q2 mid
    go_wp2_with fail
    refine (CS.out w3 b3).mono ?_
    rintro e w4 ⟨u, v, rfl, au, av, b4⟩
    have z4 := b4.size
    have k1 := Lib.hid (k1.out.below b4)
    have k2 := Lib.hid (k2.out.below b4)
    have au := Lib.hid au
    have av := Lib.hid av
    have B4 := Lib.hid (B3.out.trans (b4.mono (by omega)))
    have R4 := Lib.hid (show Below w2.heap.size w2 w4 from b3.trans (b4.mono z3))
    clear b3 b4 CS B3 B2
    go_wp2_with fail
    refine (equalInts_any _ _ (fS L) _ (.inr ⟨gA, 0, CA, by rw [fl], k1.out⟩) au.out (by omega)).mono ?_
    rintro e w5 ⟨rfl, b5⟩
    have z5 := b5.size
    have k1 := Lib.hid (k1.out.below b5)
    have k2 := Lib.hid (k2.out.below b5)
    have au := Lib.hid (au.out.below b5)
    have av := Lib.hid (av.out.below b5)
    have B5 := Lib.hid (B4.out.trans (b5.mono (by omega)))
    have R5 := Lib.hid (R4.out.trans (b5.mono (by omega)))
    clear b5 B4 R4
    go_wp2_with fail
    refine (equalInts_any _ _ (sS L) _ (.inr ⟨gB, 0, CB, by rw [sl], k2.out⟩) av.out (by omega)).mono ?_
    rintro e w6 ⟨rfl, b6⟩
    have z6 := b6.size
    have k1 := Lib.hid (k1.out.below b6)
    have k2 := Lib.hid (k2.out.below b6)
    have au := Lib.hid (au.out.below b6)
    have av := Lib.hid (av.out.below b6)
    have B6 := Lib.hid (B5.out.trans (b6.mono (by omega)))
    have R6 := Lib.hid (R5.out.trans (b6.mono (by omega)))
    clear b6 B5 R5
    have hK1 : ((L.length : Int) == 0) = false := by rw [beq_eq_false_iff_ne]; omega
    clear au av hK
    have T1 := total_s gB 0 CB (sS L)
    rw [sl, F.out.tot] at T1
    have T2 := Lib.hid (fun W (hr : RowI W g1 0 xs) => total_s g1 0 c1 xs W hr (by omega) (fun i hi => by have := F.out.x i hi; omega))
    have TH := Lib.hid (fun W (hr : RowI W gB 0 (sS L)) => T1 W hr (by omega) (fun i hi => by have := F.out.sb i hi; omega))
    have RA := Lib.hid (fun W => raised_any xs.length xs.length W F.out.n4 F.out.n4)
    have tb := pow_le4 F.out.n4 F.out.n4
    have ub := sX_abs (g := gi xs) (M := 200) xs.length F.out.x
    have n4 := F.out.n4
    have hup := F.out.up
    obtain ⟨t, ht⟩ : ∃ t, (xs.length : Int) ^ xs.length = t := ⟨_, rfl⟩
    obtain ⟨s, hs⟩ : ∃ s, sX (gi xs) xs.length = s := ⟨_, rfl⟩
    rw [ht] at TH RA tb hup
    rw [hs] at T2 ub hup
    have p1 : t * s ≤ t * 800 := Int.mul_le_mul_of_nonneg_left (by omega) (by omega)
    have p2 : t * (-800) ≤ t * s := Int.mul_le_mul_of_nonneg_left (by omega) (by omega)
    have q1 : IntKind.i64.wrap (t * s) = t * s := IntWalk.i64_in _ (by omega)
    obtain ⟨u2, hu2⟩ : ∃ u2, t * s = u2 := ⟨_, rfl⟩
    rw [hu2] at hup
    have Q1 := Lib.hid (show IntKind.i64.wrap (t * s) = u2 from q1.trans hu2)
    have HUP := Lib.hid hup
    have e1 : (t == t) = true := by simp
    have e2 : (u2 == u2) = true := by simp
    clear ht hs hu2 p1 p2 tb ub q1 hup T1
    go_wp2_with fail
    go_loopw [8, 9] (fun v8 v9 wr => ∃ j : Nat, j ≤ L.length ∧ v9 = .int .i64 j ∧ v8 = .int .i64 (sX (fun i => gi (fS L) i * gi (sS L) i) j) ∧ ∃ nq, wr = w6.drewN nq) (fun _ v9 _ => L.length - (intOf v9).toNat)
    case atStart => exact ⟨0, Nat.zero_le _, rfl, rfl, 0, rfl⟩
    case round =>
      obtain ⟨j, hj, rfl, rfl, nq0, rfl⟩ := hrel
      by_cases hjl : j < L.length
      · have y1 := k1.out.cell j (by omega)
        have y2 := k2.out.cell j (by omega)
        rw [Nat.zero_add] at y1 y2
        have i1 := F.out.fb j hjl
        have i2 := F.out.sb j hjl
        have ib := sX_abs (g := fun i => gi (fS L) i * gi (sS L) i) (M := 204800) j (fun i hi => by
          have h1 := F.out.fb i (by omega)
          have h2 := F.out.sb i (by omega)
          have h3 : gi (fS L) i * gi (sS L) i ≤ 800 * gi (sS L) i := Int.mul_le_mul_of_nonneg_right h1.2 h2.1
          have h4 : -800 * gi (sS L) i ≤ gi (fS L) i * gi (sS L) i := Int.mul_le_mul_of_nonneg_right h1.1 h2.1
          show -204800 ≤ gi (fS L) i * gi (sS L) i ∧ gi (fS L) i * gi (sS L) i ≤ 204800
          omega)
        have s1 : sX (fun i => gi (fS L) i * gi (sS L) i) (j + 1) = sX (fun i => gi (fS L) i * gi (sS L) i) j + gi (fS L) j * gi (sS L) j := rfl
        obtain ⟨m, hm⟩ : ∃ m, sX (fun i => gi (fS L) i * gi (sS L) i) j = m := ⟨_, rfl⟩
        have h3 : gi (fS L) j * gi (sS L) j ≤ 800 * gi (sS L) j := Int.mul_le_mul_of_nonneg_right i1.2 i2.1
        have h4 : -800 * gi (sS L) j ≤ gi (fS L) j * gi (sS L) j := Int.mul_le_mul_of_nonneg_right i1.1 i2.1
        obtain ⟨x, hx⟩ : ∃ x, gi (fS L) j = x := ⟨_, rfl⟩
        obtain ⟨y, hy⟩ : ∃ y, gi (sS L) j = y := ⟨_, rfl⟩
        rw [hm] at s1 ib ⊢
        rw [hx] at y1 i1 s1 h3 h4
        rw [hy] at y2 i2 s1 h3 h4
        have q2 : IntKind.i64.wrap (x * y) = x * y := IntWalk.i64_in _ (by omega)
        have q3 : IntKind.i64.wrap (m + x * y) = m + x * y := IntWalk.i64_in _ (by omega)
        have S1 := Lib.hid s1
        clear s1 hm hx hy h3 h4 ib
        go_wp2
        go_quiet (fail)
        go_wp2
        go_roundw
        case rel => exact ⟨j + 1, by omega, by go_num, by rw [S1.out], nq0 + nq, by simp⟩
        case measure => simp [intOf]; omega
      · obtain rfl : j = L.length := by omega
        rw [HUP.out]
        have hbd : Below w6.heap.size w6 (w6.drewN nq0) := by (repeat' (first | (with_reducible exact Below.refl _ _) | (with_reducible assumption) | (with_reducible refine Below.drewN ?_ _) | (with_reducible refine Below.alloc ?_ ?_ _) | (with_reducible refine Below.drew ?_) | (with_reducible refine Below.setCell ?_ ?_ _) | (with_reducible refine Below.trans ?_ (Below.mono (by assumption) ?_)) | go_size | (with_reducible refine Nat.le_trans ?_ (Below.size (by assumption)))))
        have BB := Lib.hid (B6.out.trans (hbd.mono (by omega)))
        have RR := Lib.hid (R1.out.below (R6.out.trans (hbd.mono (by omega))))
        have KB := Lib.hid (k2.out.below hbd)
        have AS := Lib.hid (ascends_any gA 0 CA (fS L) (w6.drewN nq0) (k1.out.below hbd) (by omega))
        rw [fl] at AS
        have HAS := Lib.hid F.out.asc
        have zz := hbd.size
        have q1 := Q1.out
        clear hbd HUP Q1 F
        go_wp2_with fail
        refine (RA.out _).mono ?_
        rintro e w7 ⟨rfl, rfl⟩
        go_wp2_with fail
        refine (TH.out _ KB.out).mono ?_
        rintro e w8 ⟨rfl, rfl⟩
        clear TH RA KB
        go_wp2_with fail
        refine (T2.out _ RR.out).mono ?_
        rintro e w9 ⟨rfl, rfl⟩
        clear T2 RR
        go_wp2_with fail
        refine AS.out.mono ?_
        rintro e w10 ⟨vv, rfl, hv10, b10⟩
        obtain rfl : vv = true := hv10.2 HAS.out
        clear AS hv10
        go_wp2_with fail
        go_ret
        exact ⟨rfl, BB.out.trans (b10.mono (by omega))⟩

theorem FnResampleSums_long (ad : Option Addr) (la ca : Nat) (w : World) (h : 1048576 < la) (h1 : la ≤ 9223372036854775807) :
    Calls Try.prog 5 #[.slice ad la ca] w fun e w' => e = .returned (.bool true) ∧ Below w.heap.size w w' := by
  go_enter Try.func5, Try.ntmps5
  go_wp2_with fail
  go_ret
  exact ⟨rfl, Below.refl _ _⟩

end Go.Proofs.Ytpcnjkgoehepaaa
