/- Labels: impl.groupsAt below every distance, impl.merge. -/
import Derived.Test.YtclfjnoedcimiaaJRow
import Derived.Test.YtclfjnoedcimiaaGaps
namespace Go.Proofs.Ytclfjnoedcimiaa
open Go.RowKit

theorem gpm_nonneg {xss : List (List Int)} (h : Gp xss) {a b : Nat} (ha : a < xss.length) (hb : b < xss.length) : 0 ≤ gm xss a b := by
  rcases Nat.lt_trichotomy a b with h1 | h1 | h1
  · have := h.low b a hb h1; omega
  · rw [h1, h.diag b hb]; exact Int.le_refl _
  · have := (h.low a b ha h1).1; omega

set_option maxHeartbeats 4000000 in
theorem groupsAt_neg (g : Nat) (cg : Nat) (H Cp : Nat → Nat) (xss : List (List Int)) (w : World) (h : MatC w g H Cp xss) (hg : Gp xss) :
    Calls Try.prog 61 #[.slice (some ⟨g, 0, none⟩) xss.length cg, .int .i64 (-1)] w
      fun e w' => e = .returned (.slice (some ⟨w.heap.size, 0, none⟩) xss.length xss.length) ∧ Blk w' w.heap.size 3 (ic (ini xss.length)) ∧ Below w.heap.size w w' := by
  have HM := Lib.hid h
  have HG := Lib.hid hg
  have n6 := hg.n6
  have hmk := run_make_row' (P := Try.prog) 36 3 (.int .i64 0) 8 Try.underlying36 infoI rfl .i64 .i64 xss.length (by omega) (by omega)
  clear h hg
  go_enter Try.func61, Try.ntmps61
  go_wp2_with fail
  go_loopw [14] (fun v14 wr => ∃ k : Nat, k ≤ xss.length ∧ v14 = .int .i64 k ∧ (∃ cs : List Value, cs.length = xss.length ∧ (∀ j, j < k → cs[j]? = (ic (ini xss.length))[j]?) ∧ Blk wr w.heap.size 3 cs) ∧ Below w.heap.size w wr)
    (fun v14 _ => xss.length - (intOf v14).toNat)
  case atStart => exact ⟨0, Nat.zero_le _, rfl, ⟨_, by rw [Array.length_toList, size_madeCells], fun j hj => absurd hj (Nat.not_lt_zero _), Blk.made _ _ _⟩, by (repeat' (first | (with_reducible exact Below.refl _ _) | (with_reducible assumption) | (with_reducible refine Below.drewN ?_ _) | (with_reducible refine Below.alloc ?_ ?_ _) | (with_reducible refine Below.drew ?_) | (with_reducible refine Below.setCell ?_ ?_ _) | (with_reducible refine Below.trans ?_ (Below.mono (by assumption) ?_)) | go_size | (with_reducible refine Nat.le_trans ?_ (Below.size (by assumption)))))⟩
  case round =>
    obtain ⟨k, hk, rfl, ⟨cs, hc1, hc2, hc3⟩, hb⟩ := hrel
    by_cases hlt : k < xss.length
    · obtain ⟨u, hu⟩ : ∃ u, cs[k]? = some u := ⟨cs[k], by simp [hc1, hlt]⟩
      have c2 := hc3.cell hu
      have f2 := hc3.frozen k
      have H2 := Lib.hid hc2
      have H3 := Lib.hid hc3
      have H1 := Lib.hid hc1
      clear hc1 hc2 hc3 hu
      go_wp2
      go_roundw
      case rel =>
        refine ⟨k + 1, by omega, by go_num, ⟨cs.set k (.int .i64 k), by rw [List.length_set]; exact H1.out, fun j hj => ?_, H3.out.set k _⟩, hb.setCell (Nat.le_refl _) _⟩
        have hl1 := H1.out
        by_cases e : j = k
        · subst e
          rw [get_ic (by unfold ini; rw [tabI_length]; exact hlt), List.getElem?_set_self (by omega)]
          unfold ini
          rw [gi_tabI hlt]
        · rw [List.getElem?_set_ne (fun h => e h.symm)]; exact H2.out j (by omega)
      case measure => simp [intOf]; omega
    · have hkl : k = xss.length := by omega
      have hil : (ini xss.length).length = xss.length := tabI_length _ _
      have e1 : cs = ic (ini xss.length) := by
        apply List.ext_getElem?
        intro j
        by_cases hj : j < k
        · exact hc2 j hj
        · rw [List.getElem?_eq_none (by omega), List.getElem?_eq_none (by rw [ic_length]; omega)]
      rw [e1] at hc3
      have H3 := Lib.hid hc3
      have HB := Lib.hid hb
      have hz := hb.size
      have hlt3 := hc3.lt
      clear hc1 hc2 hc3 e1 hkl hil
      obtain ⟨w1, hw1⟩ : ∃ w1 : World, w1 = wr := ⟨_, rfl⟩
      rw [← hw1] at H3 HB hz hlt3 hb
      rw [← hw1]
      clear hw1
      go_wp2_with fail
      go_loopw [24] (fun v24 wr => ∃ i : Nat, i ≤ xss.length ∧ v24 = .int .i64 i ∧ Below w1.heap.size w1 wr) (fun v24 _ => xss.length - (intOf v24).toNat)
      case atStart => exact ⟨0, Nat.zero_le _, rfl, Below.refl _ _⟩
      case round =>
        obtain ⟨r, hr, rfl, hbr⟩ := hrel
        have HBR := Lib.hid hbr
        clear hbr
        by_cases hlr : r < xss.length
        · go_wp2_with fail
          go_loopw [28] (fun v28 wr => ∃ i : Nat, i ≤ xss.length ∧ v28 = .int .i64 i ∧ Below w1.heap.size w1 wr) (fun v28 _ => xss.length - (intOf v28).toNat)
          case atStart => exact ⟨0, Nat.zero_le _, rfl, HBR.out⟩
          case round =>
            obtain ⟨i, hi, rfl, hbi⟩ := hrel
            have HBI := Lib.hid hbi
            clear hbi
            by_cases hli : i < xss.length
            · go_wp2_with fail
              go_loopw [33] (fun v33 wr => ∃ j : Nat, j ≤ xss.length ∧ v33 = .int .i64 j ∧ Below w1.heap.size w1 wr) (fun v33 _ => xss.length - (intOf v33).toNat)
              case atStart => exact ⟨0, Nat.zero_le _, rfl, HBI.out⟩
              case round =>
                obtain ⟨j, hj, rfl, hbj⟩ := hrel
                have hbw : Below w.heap.size w wr := HB.out.trans (hbj.mono hz)
                have HBJ := Lib.hid hbj
                clear hbj
                by_cases hlj : j < xss.length
                · obtain ⟨y1, r1⟩ := (HM.out.below hbw).row hli
                  have l1 := HG.out.len i hli
                  have x1 := r1.cell j (by omega)
                  rw [Nat.zero_add] at x1
                  have nn := gpm_nonneg HG.out hli hlj
                  have e1 : gi (gl xss i) j = gm xss i j := rfl
                  rw [e1] at x1
                  obtain ⟨x, hx⟩ : ∃ x, gm xss i j = x := ⟨_, rfl⟩
                  rw [hx] at x1 nn
                  have t1 : decide (x ≤ -1) = false := by simp; omega
                  have q1 : (j : Int) < ((gl xss i).length : Int) := by omega
                  obtain ⟨n1, hn1⟩ : ∃ n, (gl xss i).length = n := ⟨_, rfl⟩
                  rw [hn1] at y1 q1
                  clear e1 hx l1 r1 hbw hn1 hb
                  go_wp2_with fail
                  go_roundw
                  case rel => exact ⟨j + 1, by omega, by go_num, HBJ.out⟩
                  case measure => simp [intOf]; omega
                · have e : j = xss.length := by omega
                  subst e
                  clear hb hbw
                  go_wp2_with fail
                  go_roundw
                  case rel => exact ⟨i + 1, by omega, by go_num, HBJ.out⟩
                  case measure => simp [intOf]; omega
            · have e : i = xss.length := by omega
              subst e
              go_wp2_with fail
              go_roundw
              case rel => exact ⟨r + 1, by omega, by go_num, HBI.out⟩
              case measure => simp [intOf]; omega
        · have e : r = xss.length := by omega
          subst e
          go_wp2_with fail
          go_ret
          exact ⟨rfl, H3.out.below HBR.out, HB.out.trans (HBR.out.mono hz)⟩

theorem grown_draws {w w' : World} {g : Option Nat} (h : w.grownBy w' g) : ∀ n, w.grownBy (w'.drewN n) g
  | 0 => h
  | n + 1 => by
    have ih := grown_draws h n
    exact ⟨ih.os, ih.tape, ih.output, ih.size, ih.block⟩

set_option maxHeartbeats 2000000 in
theorem merge_any (g : Nat) (G : List Int) (n a b : Nat) (w : World) (h : Blk w g 3 (ic G)) (hn : G.length = n) (hs : n ≤ 6) (ha : a < n) (hb : b < n) :
    Calls Try.prog 54 #[.slice (some ⟨g, 0, none⟩) n n, .int .i64 a, .int .i64 b] w
      fun e w' => e = .returned (.tuple #[]) ∧ Blk w' g 3 (ic (mgI G a b)) ∧ w.grownBy w' (some g) := by
  have H := Lib.hid h
  have HN := Lib.hid hn
  have y1 := h.cell (get_ic (xs := G) (k := a) (by omega))
  have y2 := h.cell (get_ic (xs := G) (k := b) (by omega))
  obtain ⟨x, hx⟩ : ∃ x, gi G b = x := ⟨_, rfl⟩
  obtain ⟨y, hy⟩ : ∃ x, gi G a = x := ⟨_, rfl⟩
  rw [hx] at y2
  rw [hy] at y1
  have HR := Lib.hid (show mgI G a b = reL x y G from by unfold mgI; rw [hx, hy])
  clear h hn hx hy
  go_enter Try.func54, Try.ntmps54
  go_wp2_with fail
  go_quiet (fail)
  go_wp2_with fail
  go_loopw [20] (fun v20 wr => ∃ k : Nat, k ≤ n ∧ v20 = .int .i64 k ∧ (∃ L : List Int, L.length = n ∧ (∀ j, j < k → gi L j = gi (reL x y G) j) ∧ (∀ j, k ≤ j → j < n → gi L j = gi G j) ∧ Blk wr g 3 (ic L)) ∧ w.grownBy wr (some g)) (fun v20 _ => n - (intOf v20).toNat)
  case atStart => exact ⟨0, Nat.zero_le _, rfl, ⟨G, HN.out, fun j hj => absurd hj (Nat.not_lt_zero _), fun _ _ _ => rfl, H.out.below (Below.drewN (Below.refl _ _) _)⟩, grown_draws (grownBy_refl w (some g)) _⟩
  case round =>
    obtain ⟨k, hk, rfl, ⟨L, hl1, hl2, hl3, hbk⟩, hgr⟩ := hrel
    have H1 := Lib.hid hl1
    have H2 := Lib.hid hl2
    have H3 := Lib.hid hl3
    have HB := Lib.hid hbk
    have HGR := Lib.hid hgr
    by_cases hlt : k < n
    · have c1 := hbk.cell (get_ic (xs := L) (k := k) (by omega))
      have f1 := hbk.frozen k
      have e1 : gi L k = gi G k := hl3 k (Nat.le_refl _) hlt
      rw [e1] at c1
      have hgk : gi (reL x y G) k = if gi G k = x then y else gi G k := gi_reL (by rw [HN.out]; exact hlt)
      have HGK := Lib.hid hgk
      obtain ⟨z, hz⟩ : ∃ z, gi G k = z := ⟨_, rfl⟩
      rw [hz] at c1
      have HZ := Lib.hid hz
      clear hl1 hl2 hl3 hbk hgr e1 hgk hz
      by_cases t : z = x
      · subst t
        have t1 : (z == z) = true := by simp
        go_wp2_with fail
        go_roundw
        case rel =>
          refine ⟨k + 1, by omega, by go_num, ⟨L.set k y, by rw [List.length_set]; exact H1.out, fun j hj => ?_, fun j hj1 hj2 => ?_, ?_⟩, grownBy_set HGR.out _⟩
          · have hl1 := H1.out
            by_cases e : j = k
            · subst e
              rw [HGK.out, HZ.out, if_pos rfl, gi_eq (by rw [List.length_set]; omega)]
              simp
            · have := H2.out j (by omega)
              rw [← this, gi_eq (by rw [List.length_set]; omega), gi_eq (by omega), List.getElem_set_ne (fun h => e h.symm)]
          · have hl1 := H1.out
            have := H3.out j (by omega) hj2
            rw [← this, gi_eq (by rw [List.length_set]; omega), gi_eq (by omega), List.getElem_set_ne (by omega)]
          · have := HB.out.set k (.int .i64 y)
            rwa [show (ic L).set k (.int .i64 y) = ic (L.set k y) from by unfold ic; rw [List.map_set]] at this
        case measure => simp [intOf]; omega
      · have t1 : (z == x) = false := by simpa using t
        have HT := Lib.hid t
        clear t
        go_wp2_with fail
        go_roundw
        case rel =>
          refine ⟨k + 1, by omega, by go_num, ⟨L, H1.out, fun j hj => ?_, fun j hj1 hj2 => H3.out j (by omega) hj2, HB.out⟩, HGR.out⟩
          by_cases e : j = k
          · subst e
            rw [HGK.out, HZ.out, if_neg HT.out, H3.out j (Nat.le_refl _) hlt, HZ.out]
          · exact H2.out j (by omega)
        case measure => simp [intOf]; omega
    · have e : k = n := by omega
      subst e
      have e2 : L = reL x y G := eq_of_gi (by rw [reL_length, hl1, HN.out]) (fun j hj => hl2 j (by omega))
      have HE := Lib.hid (show Blk wr g 3 (ic (mgI G a b)) from by rw [HR.out, ← e2]; exact hbk)
      clear hl1 hl2 hl3 hbk hgr e2
      go_wp2_with fail
      go_end0
      exact ⟨rfl, HE.out, HGR.out⟩

end Go.Proofs.Ytclfjnoedcimiaa
