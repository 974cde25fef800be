/- Steps by joins: impl.StepsByJoins. -/
import Derived.Test.YtclfjnoedcimiaaStJP
namespace Go.Proofs.Ytclfjnoedcimiaa
open Go.RowKit

theorem stepsI_bad (g cg : Nat) (H Cp : Nat → Nat) (xss : List (List Int)) (w : World) (h : MatC w g H Cp xss) (hn : xss.length ≤ 1048576) (hv : gpB xss = false) :
    Calls Try.prog 30 #[.slice (some ⟨g, 0, none⟩) xss.length cg] w fun e w' => e = .returned (.slice none 0 0) ∧ Below w.heap.size w w' := by
  have CV := Lib.hid (hv ▸ validGaps_anyC g cg H Cp xss w h hn)
  clear h hv
  obtain ⟨n, hnn⟩ : ∃ n, xss.length = n := ⟨_, rfl⟩
  rw [hnn] at CV ⊢
  clear hnn hn
  go_enter Try.func30, Try.ntmps30
  go_wp2_with (go_at_call 16; refine CV.out.mono ?_; rintro e w1 ⟨rfl, b1⟩)
  go_ret
  exact ⟨rfl, b1⟩

set_option maxHeartbeats 8000000 in
set_option maxRecDepth 100000 in
theorem stepsI_good (g cg : Nat) (H Cp : Nat → Nat) (xss : List (List Int)) (n : Nat) (w : World) (h : MatC w g H Cp xss) (hn : xss.length = n) (hv : gpB xss = true) :
    Calls Try.prog 30 #[.slice (some ⟨g, 0, none⟩) n cg] w fun e w' => ∃ g' H', e = .returned (.slice (some ⟨g', 0, none⟩) n n) ∧ Sq w' w.heap.size w'.heap.size g' H' n (sK xss n (n - 1)) ∧ Below w.heap.size w w' := by
  have hg := gp_of hv
  have n0 := hg.n0
  have n6 := hg.n6
  rw [hn] at n0 n6
  have VG := Lib.hid (fun w (h : MatC w g H Cp xss) => hn ▸ hv ▸ validGaps_anyC g cg H Cp xss w h (by omega))
  have SQ := Lib.hid (fun w => square_any n w n6)
  have NJ := Lib.hid (fun w (h : MatC w g H Cp xss) => nearJoins_any g n cg H Cp xss w h hg hn)
  have NA := Lib.hid (fun k (hk : k < n - 1) => (gj_at (F := fNear xss) (n := n) hk))
  have JN := Lib.hid (fun k (hk : k + 1 < n) => nj_all hg hn hk)
  have XYN := Lib.hid (fun k (hk : k + 1 < n) => show gi (gI n (oF (fNear xss) n k)) (nj xss n k).1 ≠ gi (gI n (oF (fNear xss) n k)) (nj xss n k).2.1 from fun e => by
    have j := nj_all hg hn hk
    have h1 := j.lt
    have h2 := j.ltn
    exact j.ne ((ns_same (ns_all hg hn k (by omega)) (by omega) h2).1 e))
  have LO := Lib.hid (oF_length (fNear xss) n (n - 1))
  have HM := Lib.hid h
  obtain ⟨i0, hi, hz0, hz1, hz2⟩ := info_parts infoI
  have hmk1 := run_make_row' (P := Try.prog) 36 3 (.int .i64 0) 8 Try.underlying36 infoI rfl .i64 .i64 n (by omega) (by omega)
  obtain ⟨p, hp⟩ : ∃ p, n - 1 = p := ⟨_, rfl⟩
  rw [hp] at NJ NA LO ⊢
  have hpn : p + 1 = n := by omega
  have HPN := Lib.hid hpn
  clear h hv hn hp hpn
  go_enter Try.func30, Try.ntmps30
  go_upto_region 3 with (go_at_call 16; refine (VG.out _ HM.out).mono ?_; rintro e w1 ⟨rfl, b1⟩)
  have HM1 := Lib.hid (HM.out.below b1)
  have z1 := b1.size
  have B1 := Lib.hid b1
  clear b1
  go_upto_region 4 with (go_at_call 53; refine (SQ.out _).mono ?_; rintro e w2 ⟨gS, HS, rfl, hD, b2⟩)
  have hD2 := Lib.hid hD
  have B2 := Lib.hid (B1.out.trans (b2.mono z1))
  have z2 := b2.size
  have HM2 := Lib.hid (HM1.out.below b2)
  clear hD b2 B1 HM1
  go_upto_region 5 with fail
  obtain ⟨lo, hlo⟩ : ∃ g, w1.heap.size = g := ⟨_, rfl⟩
  obtain ⟨gG, hgG⟩ : ∃ g, w2.heap.size = g := ⟨_, rfl⟩
  rw [hlo] at hD2 z1 z2
  rw [hgG] at hD2 z2 ⊢
  refine wp_abstract (fun W => Sq W lo gG gS HS n (fun _ _ => 0) ∧ Blk W gG 3 (ic (tabI (fun _ => 0) n)) ∧ MatC W g H Cp xss ∧ Below w.heap.size w W) ⟨hD2.out.below ((Below.refl _ _).alloc (Nat.le_refl _) _), Blk.made' _ hgG.symm ?_, HM2.out.below ((Below.refl _ _).alloc (Nat.le_refl _) _), by have := B2.out; (repeat' (first | (with_reducible exact Below.refl _ _) | (with_reducible assumption) | (with_reducible refine Below.drewN ?_ _) | (with_reducible refine Below.alloc ?_ ?_ _) | (with_reducible refine Below.drew ?_) | (with_reducible refine Below.setCell ?_ ?_ _) | (with_reducible refine Below.trans ?_ (Below.mono (by assumption) ?_)) | go_size | (with_reducible refine Nat.le_trans ?_ (Below.size (by assumption)))))⟩ ?_
  · rw [toList_madeCells_one]
    refine List.ext_getElem? fun j => ?_
    by_cases h : j < n
    · rw [get_ic (by rw [tabI_length]; exact h), gi_tabI h, List.getElem?_replicate, if_pos h]
    · rw [List.getElem?_eq_none (by rw [List.length_replicate]; omega), List.getElem?_eq_none (by rw [ic_length, tabI_length]; omega)]
  rintro w3 ⟨kD, kG, hm3, b3⟩
  have KD := Lib.hid kD
  have KG := Lib.hid kG
  have HM3 := Lib.hid hm3
  have B3 := Lib.hid b3
  have z3 := b3.size
  have lG := kG.lt
  clear kD kG hm3 b3 hD2 B2 HM2 hlo hgG
  go_wp2_with fail
  go_loopw [21] (fun v21 wr => ∃ i : Nat, i ≤ n ∧ v21 = .int .i64 i ∧ Sq wr lo gG gS HS n (fun _ _ => 0) ∧ Blk wr gG 3 (ic (tabI (fun j => if j < i then (j : Int) else 0) n)) ∧ Below w.heap.size w wr) (fun v21 _ => n - (intOf v21).toNat)
  case atStart => exact ⟨0, Nat.zero_le _, rfl, KD.out, by rw [tabI_congr (g := fun _ => 0) fun i _ => by rw [if_neg (by omega)]]; exact KG.out, B3.out⟩
  case round =>
    clear KD KG B3 HM3 lG
    obtain ⟨i, hi', rfl, kD, kG, b3⟩ := hrel
    have KD := Lib.hid kD
    have KG := Lib.hid kG
    have B3 := Lib.hid b3
    have z3' := b3.size
    have lG := kG.lt
    clear kD kG b3
    by_cases hlt : i < n
    · have f1 := KG.out.frozen i
      have c1 := KG.out.cell (get_ic (xs := tabI (fun j => if j < i then (j : Int) else 0) n) (k := i) (by rw [tabI_length]; exact hlt))
      go_wp2_with fail
      go_roundw
      case rel =>
        refine ⟨i + 1, by omega, by go_num, ?_, ?_, B3.out.setCell (by show w.heap.size ≤ gG; omega) _⟩
        · exact KD.out.other _ (.inl (Nat.le_refl _))
        · rw [← tab_set (f := fun j => if j < i then (j : Int) else 0) (x := i) (v := (i : Int)) fun j _ => by by_cases e : j = i <;> simp [e] <;> omega]
          exact KG.out.set i _
      case measure => simp [intOf]; omega
    · obtain rfl : i = n := by omega
      have KI := Lib.hid (show Blk wr gG 3 (ic (gI i (oF (fNear xss) i 0))) by
        have e := tabI_congr (n := i) (f := fun j => if j < i then (j : Int) else 0) (g := fun j => (j : Int)) fun j hj => if_pos hj
        have k := KG.out
        rw [e] at k
        exact k)
      have HMr := Lib.hid (HM.out.below B3.out)
      clear KG
      go_wp2_with (go_at_call 42; fail)
      refine (NJ.out _ HMr.out).mono ?_
      rintro e w4 ⟨v4, rfl, m4, b4⟩
      have M4 := Lib.hid m4
      have z4 := b4.size
      have KD4 := Lib.hid (KD.out.below b4)
      have KI4 := Lib.hid (KI.out.below b4)
      have B4 := Lib.hid (B3.out.trans (b4.mono z3'))
      have lw : gG < wr.heap.size := lG
      obtain ⟨g0, hg0⟩ : ∃ g, wr.heap.size = g := ⟨_, rfl⟩
      rw [hg0] at M4 lw z4
      clear m4 b4 KD KI B3 HMr lG hg0
      by_cases hp0 : p = 0
      · have e1 : ∃ A c3, v4 = .slice A 0 c3 := by
          rw [hp0] at M4
          rcases M4.out with ⟨h, _, _⟩ | ⟨g, c, h, _, _⟩
          · exact ⟨_, _, h⟩
          · exact ⟨_, _, h⟩
        obtain ⟨A, c3, rfl⟩ := e1
        have KE := Lib.hid (show Sq w4 w.heap.size w4.heap.size gS HS i (sK xss i p) from by rw [hp0]; exact KD4.out.mono z1 (by omega))
        clear M4 KI4 KD4 hp0
        obtain ⟨wo, hwo⟩ : ∃ wo : World, w4 = wo := ⟨_, rfl⟩
        rw [hwo] at KE B4 ⊢
        clear hwo
        go_wp2_with fail
        go_loopw [32] (fun v32 wr => v32 = .int .i64 0 ∧ wr = wo) (fun _ _ => 0)
        case atStart => exact ⟨rfl, rfl⟩
        case round =>
          obtain ⟨rfl, rfl⟩ := hrel
          go_wp2_with fail
          go_ret
          exact ⟨_, _, rfl, KE.out, B4.out⟩
      · obtain ⟨g3, c3, rfl, hg3, k3⟩ : ∃ g c, v4 = .slice (some ⟨g, 0, none⟩) p c ∧ g0 ≤ g ∧ Blk w4 g 35 (jc (oF (fNear xss) i p)) := by
          rcases M4.out with ⟨_, h0, _⟩ | ⟨g, c, h1, h2, h3⟩
          · exact absurd h0 hp0
          · exact ⟨g, c, h1, h2, h3⟩
        have K3 := Lib.hid k3
        have l3 := k3.lt
        obtain ⟨Ns, hNs⟩ : ∃ L, oF (fNear xss) i p = L := ⟨_, rfl⟩
        rw [hNs] at K3 NA LO
        clear M4 k3 hNs hp0
        go_wp2_with fail
        go_loopw [32] (fun v32 wr => ∃ k : Nat, k ≤ p ∧ v32 = .int .i64 k ∧ Sq wr lo gG gS HS i (sK xss i k) ∧ Blk wr gG 3 (ic (gI i (oF (fNear xss) i k))) ∧ Blk wr g3 35 (jc Ns) ∧ Below w.heap.size w wr) (fun v32 _ => p - (intOf v32).toNat)
        case atStart => exact ⟨0, Nat.zero_le _, rfl, KD4.out, KI4.out, K3.out, B4.out⟩
        case round =>
          clear KD4 KI4 K3 B4
          obtain ⟨k, hk, rfl, kD, kG, k3, b⟩ := hrel
          have KD := Lib.hid kD
          have KG := Lib.hid kG
          have K3 := Lib.hid k3
          have B := Lib.hid b
          have zl := b.size
          have ll := k3.lt
          clear kD kG k3 b
          by_cases hlk : k < p
          · have f1 := NA.out k hlk
            have j := JN.out k (by have := HPN.out; omega)
            obtain ⟨x1, x2, x3⟩ := K3.out.jn (k := k) (by rw [LO.out]; exact hlk)
            have l1 : (gj Ns k).1 < i := by rw [f1]; have := j.lt; have := j.ltn; unfold nj at *; omega
            have l2 : (gj Ns k).2.1 < i := by rw [f1]; exact j.ltn
            have SN := Lib.hid (show sK xss i (k + 1) = mJ (sK xss i k) (gI i (oF (fNear xss) i k)) (gi (gI i (oF (fNear xss) i k)) (gj Ns k).1) (gi (gI i (oF (fNear xss) i k)) (gj Ns k).2.1) (gj Ns k).2.2 by rw [f1]; rfl)
            have GN := Lib.hid (show gI i (oF (fNear xss) i (k + 1)) = mgI (gI i (oF (fNear xss) i k)) (gj Ns k).1 (gj Ns k).2.1 by rw [f1]; exact gI_snoc _ _ _)
            have GL := Lib.hid (gI_length i (oF (fNear xss) i k))
            have xy := Lib.hid (show gi (gI i (oF (fNear xss) i k)) (gj Ns k).1 ≠ gi (gI i (oF (fNear xss) i k)) (gj Ns k).2.1 by rw [f1]; exact XYN.out k (by have := HPN.out; omega))
            clear f1 j
            obtain ⟨qa, hqa⟩ : ∃ q, (gj Ns k).1 = q := ⟨_, rfl⟩
            obtain ⟨qb, hqb⟩ : ∃ q, (gj Ns k).2.1 = q := ⟨_, rfl⟩
            obtain ⟨q, hq⟩ : ∃ q, (gj Ns k).2.2 = q := ⟨_, rfl⟩
            rw [hqa] at x1 l1 SN GN xy
            rw [hqb] at x2 l2 SN GN xy
            rw [hq] at x3 SN
            obtain ⟨G, hG⟩ : ∃ G, gI i (oF (fNear xss) i k) = G := ⟨_, rfl⟩
            rw [hG] at SN GN GL KG xy
            obtain ⟨M, hM⟩ : ∃ M, sK xss i k = M := ⟨_, rfl⟩
            rw [hM] at SN KD
            clear hqa hqb hq hG hM
            go_upto_region 13 with fail
            obtain ⟨gJ, hgJ⟩ : ∃ g, wr.heap.size = g := ⟨_, rfl⟩
            rw [hgJ] at ll zl ⊢
            refine wp_abstract (fun W => Sq W lo gG gS HS i M ∧ Blk W gG 3 (ic G) ∧ Blk W g3 35 (jc Ns) ∧ Blk W gJ 35 [.int .i64 qa, .int .i64 qb, .int .i64 q] ∧ Below w.heap.size w W)
              ⟨KD.out.below below_alloc, KG.out.allocs _, K3.out.allocs _, Blk.made' _ hgJ.symm rfl, by have := B.out; (repeat' (first | (with_reducible exact Below.refl _ _) | (with_reducible assumption) | (with_reducible refine Below.drewN ?_ _) | (with_reducible refine Below.alloc ?_ ?_ _) | (with_reducible refine Below.drew ?_) | (with_reducible refine Below.setCell ?_ ?_ _) | (with_reducible refine Below.trans ?_ (Below.mono (by assumption) ?_)) | go_size | (with_reducible refine Nat.le_trans ?_ (Below.size (by assumption)))))⟩ ?_
            rintro w7 ⟨kD, kG, k3, kJ, b⟩
            have KD := Lib.hid kD
            have KG := Lib.hid kG
            have K3 := Lib.hid k3
            have KJ := Lib.hid kJ
            have B := Lib.hid b
            have z7 := b.size
            have lJ := kJ.lt
            clear kD kG k3 kJ b x1 x2 x3 hgJ
            obtain ⟨x, hx⟩ : ∃ x, gi G qa = x := ⟨_, rfl⟩
            obtain ⟨y, hy⟩ : ∃ x, gi G qb = x := ⟨_, rfl⟩
            rw [hx, hy] at SN xy
            have HX := Lib.hid hx
            have HY := Lib.hid hy
            clear hx hy
            go_wp2_with fail
            go_loopw [38] (fun v38 wr => ∃ a : Nat, a ≤ i ∧ v38 = .int .i64 a ∧ Sq wr lo gG gS HS i (mI M G x y q a 0) ∧ Blk wr gG 3 (ic G) ∧ Blk wr g3 35 (jc Ns) ∧ Blk wr gJ 35 [.int .i64 qa, .int .i64 qb, .int .i64 q] ∧ Below w.heap.size w wr) (fun v38 _ => i - (intOf v38).toNat)
            case atStart => exact ⟨0, Nat.zero_le _, rfl, by rw [mI_zero]; exact KD.out, KG.out, K3.out, KJ.out, B.out⟩
            case round =>
              clear KD KG K3 KJ B z7 lJ
              obtain ⟨a, ha, rfl, kD, kG, k3, kJ, b⟩ := hrel
              have KD := Lib.hid kD
              have KG := Lib.hid kG
              have K3 := Lib.hid k3
              have KJ := Lib.hid kJ
              have B := Lib.hid b
              have z7 := b.size
              have lJ := kJ.lt
              clear kD kG k3 kJ b
              by_cases hla : a < i
              · go_wp2_with fail
                go_loopw [43] (fun v43 wr => ∃ c : Nat, c ≤ i ∧ v43 = .int .i64 c ∧ Sq wr lo gG gS HS i (mI M G x y q a c) ∧ Blk wr gG 3 (ic G) ∧ Blk wr g3 35 (jc Ns) ∧ Blk wr gJ 35 [.int .i64 qa, .int .i64 qb, .int .i64 q] ∧ Below w.heap.size w wr) (fun v43 _ => i - (intOf v43).toNat)
                case atStart => exact ⟨0, Nat.zero_le _, rfl, KD.out, KG.out, K3.out, KJ.out, B.out⟩
                case round =>
                  clear KD KG K3 KJ B z7 lJ
                  obtain ⟨c, hc, rfl, kD, kG, k3, kJ, b⟩ := hrel
                  have KD := Lib.hid kD
                  have KG := Lib.hid kG
                  have K3 := Lib.hid k3
                  have KJ := Lib.hid kJ
                  have B := Lib.hid b
                  have z7 := b.size
                  have lJ := kJ.lt
                  clear kD kG k3 kJ b
                  by_cases hlc : c < i
                  · have c1 := KG.out.cell (get_ic (xs := G) (k := a) (by have := GL.out; omega))
                    have c2 := KG.out.cell (get_ic (xs := G) (k := c) (by have := GL.out; omega))
                    have c3 := KG.out.cell (get_ic (xs := G) (k := qa) (by have := GL.out; omega))
                    have c4 := KG.out.cell (get_ic (xs := G) (k := qb) (by have := GL.out; omega))
                    rw [HX.out] at c3
                    rw [HY.out] at c4
                    have j0 := KJ.out.cell (show [Value.int .i64 qa, .int .i64 qb, .int .i64 q][0]? = some (.int .i64 qa) from rfl)
                    have j1 := KJ.out.cell (show [Value.int .i64 qa, .int .i64 qb, .int .i64 q][1]? = some (.int .i64 qb) from rfl)
                    have j2 := KJ.out.cell (show [Value.int .i64 qa, .int .i64 qb, .int .i64 q][2]? = some (.int .i64 q) from rfl)
                    have l1' : (qa : Int) < (i : Int) := by omega
                    have l2' : (qb : Int) < (i : Int) := by omega
                    obtain ⟨u, hu⟩ : ∃ u, gi G a = u := ⟨_, rfl⟩
                    obtain ⟨v, hv⟩ : ∃ u, gi G c = u := ⟨_, rfl⟩
                    rw [hu] at c1
                    rw [hv] at c2
                    have HU := Lib.hid hu
                    have HV := Lib.hid hv
                    clear hu hv
                    by_cases e1 : u = x
                    · have t1 : (u == x) = true := by simp [e1]
                      by_cases e2 : v = y
                      · have t2 : (v == y) = true := by simp [e2]
                        have E := Lib.hid (show G2 G x y a c from ⟨HU.out.trans e1, HV.out.trans e2⟩)
                        clear e1 e2
                        go_wp2_with fail
                        go_quiet (fail)
                        have h1 := KD.out.head hla
                        have h2 := KD.out.head hlc
                        have m1 := KD.out.cell hla hlc
                        have m2 := KD.out.cell hlc hla
                        have f1 := (KD.out.rowB hla).frozen c
                        have f2 := (KD.out.rowB hlc).frozen a
                        have ap : HS a ≠ HS c := KD.out.apart hla hlc (fun e => xy.out (by rw [← E.out.1, ← E.out.2, e]))
                        have ap' : HS c ≠ HS a := fun e => ap e.symm
                        have ra := KD.out.rowIn hla
                        have rc := KD.out.rowIn hlc
                        have n1 : HS a ≠ gJ := by omega
                        have n1' : gJ ≠ HS a := by omega
                        have n2 : HS c ≠ gJ := by omega
                        have n2' : gJ ≠ HS c := by omega
                        have n3 : gS ≠ HS a := by omega
                        have n4 : gS ≠ HS c := by omega
                        have ra3 := ra.2.2
                        have rc3 := rc.2.2
                        go_upto_region 20 with fail
                        have n5 : HS a ≠ gG := by omega
                        have n6 : HS c ≠ gG := by omega
                        have n7 : HS a ≠ g3 := by omega
                        have n8 : HS c ≠ g3 := by omega
                        have n9 : w.heap.size ≤ HS a := by omega
                        have n10 : w.heap.size ≤ HS c := by omega
                        go_region
                        go_wp2_with fail
                        go_roundw
                        case rel =>
                          exact ⟨c + 1, by omega, by go_num, (((KD.out.below (Below.drewN (Below.refl _ _) _)).set hla hlc q).set hlc hla q).congr fun u v _ _ => mI_put E.out u v, ((KG.out.below (Below.drewN (Below.refl _ _) _)).other _ n5).other _ n6,
                            ((K3.out.below (Below.drewN (Below.refl _ _) _)).other _ n7).other _ n8, ((KJ.out.below (Below.drewN (Below.refl _ _) _)).other _ n1).other _ n2, ((Below.drewN B.out _).setCell n9 _).setCell n10 _⟩
                        case measure => simp [intOf]; omega
                      · have t2 : (v == y) = false := beq_eq_false_iff_ne.2 e2
                        have E := Lib.hid (show ¬ G2 G x y a c from fun h => e2 (HV.out.symm.trans h.2))
                        clear e1 e2
                        go_wp2_with fail
                        go_quiet (fail)
                        go_wp2_with fail
                        go_roundw
                        case rel => exact ⟨c + 1, by omega, by go_num, (KD.out.congr fun u v _ _ => mI_skip E.out u v).below (Below.drewN (Below.refl _ _) _), KG.out.below (Below.drewN (Below.refl _ _) _), K3.out.below (Below.drewN (Below.refl _ _) _), KJ.out.below (Below.drewN (Below.refl _ _) _), Below.drewN B.out _⟩
                        case measure => simp [intOf]; omega
                    · have t1 : (u == x) = false := beq_eq_false_iff_ne.2 e1
                      have E := Lib.hid (show ¬ G2 G x y a c from fun h => e1 (HU.out.symm.trans h.1))
                      clear e1
                      go_wp2_with fail
                      go_quiet (fail)
                      go_wp2_with fail
                      go_roundw
                      case rel => exact ⟨c + 1, by omega, by go_num, (KD.out.congr fun u v _ _ => mI_skip E.out u v).below (Below.drewN (Below.refl _ _) _), KG.out.below (Below.drewN (Below.refl _ _) _), K3.out.below (Below.drewN (Below.refl _ _) _), KJ.out.below (Below.drewN (Below.refl _ _) _), Below.drewN B.out _⟩
                      case measure => simp [intOf]; omega
                  · obtain rfl : c = i := by omega
                    go_wp2_with fail
                    go_roundw
                    case rel => exact ⟨a + 1, by omega, by go_num, KD.out.congr fun u v hu hv => mI_row hu hv, KG.out, K3.out, KJ.out, B.out⟩
                    case measure => simp [intOf]; omega
              · obtain rfl : a = i := by omega
                have j0 := KJ.out.cell (show [Value.int .i64 qa, .int .i64 qb, .int .i64 q][0]? = some (.int .i64 qa) from rfl)
                have j1 := KJ.out.cell (show [Value.int .i64 qa, .int .i64 qb, .int .i64 q][1]? = some (.int .i64 qb) from rfl)
                have KDE := Lib.hid (KD.out.congr fun u v hu hv => mI_end hu hv)
                rw [SN.out.symm] at KDE
                have CM := Lib.hid (fun w (h : Blk w gG 3 (ic G)) => merge_any gG G a qa qb w h GL.out n6 l1 l2)
                have hk6 : k < 6 := by have := HPN.out; omega
                clear KD
                go_wp2_with (go_at_call 54; refine (CM.out _ KG.out).mono ?_; rintro e w8 ⟨rfl, kG8, b8⟩)
                go_roundw
                case rel => exact ⟨k + 1, by omega, by go_num, KDE.out.grown b8 (.inl (Nat.le_refl _)), by rw [GN.out]; exact kG8, K3.out.grown b8 (by omega), B.out.grown b8 z7 (fun k hk => by have := Option.some.inj hk; omega)⟩
                case measure => simp [intOf]; omega
          · obtain rfl : k = p := by omega
            have KE := Lib.hid (KD.out.mono z1 (Nat.le_of_lt (Nat.lt_of_le_of_lt (show gG ≤ g3 by omega) ll)))
            clear KD KG K3
            go_wp2_with fail
            go_ret
            exact ⟨_, _, rfl, KE.out, B.out⟩

end Go.Proofs.Ytclfjnoedcimiaa
