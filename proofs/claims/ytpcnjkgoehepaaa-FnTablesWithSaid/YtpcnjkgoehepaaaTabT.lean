/- impl.tables$1, the callback of impl.tables: walked. -/
import Derived.Test.YtpcnjkgoehepaaaTabR
import Derived.Test.YtpcnjkgoehepaaaTabQ
import Derived.Test.YtpcnjkgoehepaaaTabC
namespace Go.Proofs.Ytpcnjkgoehepaaa
open Go.RowKit

/-- What impl.tables does with these rows. -/
def TBL (rows : List Nat) : Prop := ∀ (cols : List Nat) (br o1 cr bc oc cc : Nat) (w : World), TOk rows cols → RowI w br o1 (iN rows) → RowI w bc oc (iN cols) → rows.length ≤ cr → cr ≤ 9223372036854775807 → cols.length ≤ cc → cc ≤ 9223372036854775807 →
  Calls Try.prog 28 #[.slice (some ⟨br, o1, none⟩) rows.length cr, .slice (some ⟨bc, oc, none⟩) cols.length cc] w
    fun e w' => e = .returned (.tuple #[.int .i64 (tN rows cols : Nat), .int .i64 (wN rows cols : Nat)]) ∧ Below w.heap.size w w'
theorem Kp.set {S : Nat → Prop} {w w' : World} (h : Kp S w w') {a : Addr} (hs : S a.block) (v : Value) : Kp S w (w'.setCell a v) :=
  ⟨h.os, h.tape, h.output, by rw [World.size_setCell]; exact h.size, fun k hk hn => (Below.heap_setCell w' a v k (fun e => hn (by rw [e]; exact hs))).trans (h.block k hk hn)⟩
/-- The columns, of which the first k have given their part. -/
def lk (cols row : List Nat) (k j : Nat) : Int := ((cols.getD j 0 - (if j < k then row.getD j 0 else 0) : Nat) : Int)
theorem lk_zero (cols row : List Nat) : tabI (lk cols row 0) cols.length = iN cols := by
  refine eq_of_gi (by rw [tabI_length, iN_length]) fun k hk => ?_
  rw [tabI_length] at hk
  rw [gi_tabI hk, gi_iN]
  simp [lk]
theorem lk_all {cols row : List Nat} (h : row.length = cols.length) : tabI (lk cols row cols.length) cols.length = iN (lf cols row) := by
  refine eq_of_gi (by rw [tabI_length, iN_length, lf_len h]) fun k hk => ?_
  rw [tabI_length] at hk
  rw [gi_tabI hk, gi_iN, lf_at h hk]
  simp [lk, hk]
theorem lk_succ (cols row : List Nat) {k n : Nat} (_ : k < n) : (ic (tabI (lk cols row k) n)).set k (.int .i64 ((cols.getD k 0 - row.getD k 0 : Nat) : Int)) = ic (tabI (lk cols row (k + 1)) n) := by
  have e : (ic (tabI (lk cols row k) n)).set k (.int .i64 ((cols.getD k 0 - row.getD k 0 : Nat) : Int)) = ic ((tabI (lk cols row k) n).set k ((cols.getD k 0 - row.getD k 0 : Nat) : Int)) := by simp [ic, List.map_set]
  rw [e]
  congr 1
  refine eq_of_gi (by simp [tabI_length]) fun j hj => ?_
  simp only [List.length_set, tabI_length] at hj
  rw [gi_tabI hj]
  unfold gi
  simp only [List.getD_eq_getElem?_getD, List.getElem?_set]
  by_cases h : k = j
  · subst h
    simp [tabI_length, hj, lk]
  · rw [if_neg h]
    have : (tabI (lk cols row k) n)[j]?.getD 0 = lk cols row k j := by
      have := gi_tabI (f := lk cols row k) hj
      unfold gi at this
      rwa [List.getD_eq_getElem?_getD] at this
    rw [this]
    unfold lk
    by_cases h2 : j < k
    · rw [if_pos h2, if_pos (by omega)]
    · rw [if_neg h2, if_neg (by omega)]

set_option maxHeartbeats 4000000 in
set_option maxRecDepth 100000 in
theorem tables1_any (r : Nat) (R cols row : List Nat) (HT : TBL R) (hok : TOk (r :: R) cols) (hrow : row ∈ en r cols) (m s : Nat) (hm : m + tN R (lf cols row) ≤ 6402373705728000) (hs : s + here (fct r) row * wN R (lf cols row) ≤ 6402373705728000)
    (gM gW gR gC br o1 cr bc oc cc : Nat) (v : Value) (w : World) (kM : Blk w gM 3 [.int .i64 m]) (kW : Blk w gW 3 [.int .i64 s]) (hne : gM ≠ gW)
    (hR : w.cell? ⟨gR, 0, none⟩ = some (.slice (some ⟨br, o1, none⟩) (r :: R).length cr)) (hC : w.cell? ⟨gC, 0, none⟩ = some (.slice (some ⟨bc, oc, none⟩) cols.length cc))
    (rR : RowI w br o1 (iN (r :: R))) (rC : RowI w bc oc (iN cols)) (hcr : (r :: R).length ≤ cr) (hcr2 : cr ≤ 9223372036854775807) (hv : Rv w v (iN row)) :
    Calls Try.prog 41 #[v, .pointer (some ⟨gC, 0, none⟩), .pointer (some ⟨gR, 0, none⟩), .pointer (some ⟨gM, 0, none⟩), .pointer (some ⟨gW, 0, none⟩)] w
      fun e w' => e = .returned (.tuple #[]) ∧ Blk w' gM 3 [.int .i64 (m + tN R (lf cols row) : Nat)] ∧ Blk w' gW 3 [.int .i64 (s + here (fct r) row * wN R (lf cols row) : Nat)] ∧ Kp (fun k => k = gM ∨ k = gW) w w' := by
  have hlen := en_len cols r row hrow
  obtain ⟨hsm, _, hfit⟩ := en_fit cols r row hrow
  have hok2 := hok.next hrow
  have c1 := hok.c1
  have nc := hok.nc
  have hr6 := hok.r6 r (by simp)
  have hc6 : ∀ k, k < cols.length → cols.getD k 0 ≤ 6 := fun k hk => by
    rw [List.getD_eq_getElem?_getD, List.getElem?_eq_getElem hk]
    exact hok.c6 _ (List.getElem_mem hk)
  obtain ⟨b, c, hve, hrb⟩ : ∃ b c, v = .slice (some ⟨b, 0, none⟩) (iN row).length c ∧ RowI w b 0 (iN row) := by
    rcases hv with ⟨_, h2⟩ | h
    · have := congrArg List.length h2
      rw [iN_length] at this
      simp at this
      rw [this] at hlen
      simp at hlen
      omega
    · exact h
  subst hve
  rw [iN_length, hlen]
  have CL := clone_row bc oc cc (iN cols)
  simp only [iN_length] at CL
  have LAL := lk_all hlen
  have LZ := lk_zero cols row
  have LS := fun k => lk_succ cols row (k := k) (n := cols.length)
  have ltl := lf_len hlen
  obtain ⟨n, hn⟩ : ∃ n, cols.length = n := ⟨_, rfl⟩
  rw [hn] at hC CL LAL LZ LS c1 nc hc6 hlen hfit ltl ⊢
  have HX := Lib.hid (fun k (hk : k < n) => hfit k hk)
  obtain ⟨ra, ha⟩ : ∃ a, tN R (lf cols row) = a := ⟨_, rfl⟩
  obtain ⟨rd, hd⟩ : ∃ d, wN R (lf cols row) = d := ⟨_, rfl⟩
  obtain ⟨rh, hH⟩ : ∃ H, here (fct r) row = H := ⟨_, rfl⟩
  rw [ha] at hm ⊢
  rw [hd, hH] at hs ⊢
  obtain ⟨rp, hp⟩ : ∃ p, rh * rd = p := ⟨_, rfl⟩
  rw [hp] at hs ⊢
  obtain ⟨nr, hnr⟩ : ∃ nr, (r :: R).length = nr := ⟨_, rfl⟩
  have hnr2 : R.length = nr - 1 := by rw [← hnr]; simp
  have hnr1 : 1 ≤ nr := by rw [← hnr]; simp
  have hnr3 : nr ≤ 3 := by rw [← hnr]; exact hok.nr
  rw [hnr] at hR hcr
  have cr0 := rR.cell 0 (by rw [iN_length]; simp)
  rw [gi_iN, Nat.add_zero] at cr0
  have e0 : (r :: R).getD 0 0 = r := rfl
  rw [e0] at cr0
  have hh720 : fct r ≤ 720 := by
    have : ∀ n, n < 7 → fct n ≤ 720 := by decide
    exact this r (by omega)
  have CF := Lib.hid (fun W => ifactorial_any r (by omega) W)
  have CFX := Lib.hid (fun x (hx : x ≤ 18) W => ifactorial_any x hx W)
  have HRB := Lib.hid hrb
  have HRR := Lib.hid rR
  have HC6 := Lib.hid hc6
  have HLEN := Lib.hid hlen
  have HCL := Lib.hid (CL w rC (by omega) (by omega))
  have KM := Lib.hid kM
  have KW := Lib.hid kW
  have HLS := Lib.hid LS
  have HLZ := Lib.hid LZ
  have HLA := Lib.hid LAL
  have HOK2 := Lib.hid hok2
  have HLT := Lib.hid ltl
  have HHT := Lib.hid HT
  have HRc := Lib.hid hR
  have HNE := Lib.hid hne
  have HN2 := Lib.hid hnr2
  have HM := Lib.hid hm
  have HS := Lib.hid hs
  have HA := Lib.hid ha
  have HD := Lib.hid hd
  have HH := Lib.hid hH
  have HPP := Lib.hid hp
  clear ha hd hH hp
  clear hfit hsm hok hok2 hv hrow kM kW rR rC hrb CL LAL LZ LS hc6 hlen hn hnr hnr2 ltl HT hne e0 hm hs
  go_enter Try.func41, Try.ntmps41
  go_wp2_with (first
    | (go_at_call 42; refine HCL.out.mono ?_; rintro e w1 ⟨g, cap, rfl, ho, hb1⟩; have cR1 := keepC hb1 HRc.out; have cr1 := keepC hb1 cr0)
    | (go_at_call 43; refine (CF.out _).mono ?_; rintro e w2 ⟨rfl, rfl⟩))
  have kg := Blk.of_own ho
  have KG := Lib.hid kg.1
  have hgw := kg.2
  have hcap := OwnI.cap ho
  have hcap2 : cap ≤ 9223372036854775807 := by
    rcases ho.2 with ⟨h0, _⟩ | ⟨g', cap', cur, hv, hb, hg, hnc, hcm, _⟩
    · cases h0
    · cases hv; unfold maxLen at hcm; omega
  have HB1 := Lib.hid hb1
  clear kg ho hb1 HCL CF
  go_loopw [7, 20] (fun v7 v20 wr => ∃ k : Nat, k ≤ n ∧ v20 = .int .i64 k ∧ v7 = .int .i64 (here (fct r) (row.take k) : Nat) ∧ Blk wr g 3 (ic (tabI (lk cols row k) n)) ∧ Below w.heap.size w wr) (fun _ v20 _ => n - (intOf v20).toNat)
  case atStart => exact ⟨0, Nat.zero_le _, rfl, rfl, by rw [HLZ.out]; exact KG.out, HB1.out⟩
  case round =>
    obtain ⟨k, hk, rfl, rfl, hkb, hb⟩ := hrel
    have KB := Lib.hid hkb
    have HB := Lib.hid hb
    have hh : here (fct r) (row.take k) ≤ 720 := Nat.le_trans (here_le _ _) hh720
    by_cases hkn : k < n
    · have y1 := (HRB.out.below hb).cell k (by rw [iN_length, HLEN.out]; exact hkn)
      rw [gi_iN, Nat.zero_add] at y1
      have x1 := hkb.cell (get_ic (xs := tabI (lk cols row k) n) (k := k) (by rw [tabI_length]; exact hkn))
      rw [gi_tabI hkn] at x1
      have f1 := hkb.frozen k
      have l1 := hkb.lt
      have e1 : lk cols row k k = ((cols.getD k 0 : Nat) : Int) := by simp [lk]
      rw [e1] at x1
      have h1 := HX.out k hkn
      have h2 := HC6.out k hkn
      have hst := here_take (w := row) (a := fct r) (k := k) (by rw [HLEN.out]; exact hkn)
      have hset := HLS.out k hkn
      obtain ⟨x, hx⟩ : ∃ x, row.getD k 0 = x := ⟨_, rfl⟩
      obtain ⟨y, hy⟩ : ∃ y, cols.getD k 0 = y := ⟨_, rfl⟩
      obtain ⟨H, hH⟩ : ∃ H, here (fct r) (row.take k) = H := ⟨_, rfl⟩
      rw [hx] at y1 h1 hst hset
      rw [hy] at x1 h1 h2 hset
      rw [hH] at hh hst ⊢
      have hf := fct_pos x
      have CX := CFX.out x (by omega)
      obtain ⟨F, hF⟩ : ∃ F, fct x = F := ⟨_, rfl⟩
      rw [hF] at hf hst CX
      obtain ⟨D, hD⟩ : ∃ D, H / F = D := ⟨_, rfl⟩
      obtain ⟨z, hz⟩ : ∃ z, y - x = z := ⟨_, rfl⟩
      have q0 : IntKind.i64.wrap ((y : Int) - (x : Int)) = (z : Int) := by rw [IntWalk.i64_in _ (by omega)]; omega
      have q1 : (H : Int).tdiv (F : Int) = (D : Int) := by rw [← hD, Int.tdiv_eq_ediv_of_nonneg (by omega)]; rfl
      have hdl : D ≤ H := by rw [← hD]; exact Nat.div_le_self _ _
      have q2 : IntKind.i64.wrap (D : Int) = (D : Int) := IntWalk.i64_in _ (by omega)
      have q3 : ¬ (F : Int) = 0 := by omega
      rw [hz] at hset
      rw [hD] at hst
      have HSET := Lib.hid hset
      have HST := Lib.hid hst
      have HCX := Lib.hid CX
      clear hx hy hH hF hD hz hset hst hkb hb h1 h2 CX e1
      go_wp2_with (go_at_call 43; refine (HCX.out _).mono ?_; rintro e w3 ⟨rfl, rfl⟩)
      go_roundw
      case rel => exact ⟨k + 1, by omega, by go_num, by rw [HST.out], by rw [← HSET.out]; exact KB.out.set _ _, HB.out.setCell hgw _⟩
      case measure => simp [intOf]; omega
    · obtain rfl : k = n := by omega
      have et : row.take k = row := List.take_of_length_le (by rw [HLEN.out]; exact Nat.le_refl _)
      rw [et] at hh ⊢
      have cR := keepC hb HRc.out
      have rr := HRR.out.below hb
      obtain ⟨o2, ho2, hrow2⟩ : ∃ o2, o2 = (if cr = 1 then o1 else o1 + 1) ∧ RowI wr br o2 (iN R) := by
        by_cases hc1 : cr = 1
        · refine ⟨o1, by rw [if_pos hc1], rr.blk, fun k hk => ?_⟩
          rw [iN_length] at hk
          have := HN2.out
          omega
        · refine ⟨o1 + 1, by rw [if_neg hc1], rr.blk, fun k hk => ?_⟩
          have := rr.cell (k + 1) (by rw [iN_length] at hk ⊢; simpa using hk)
          rw [show o1 + 1 + k = o1 + (k + 1) by omega]
          exact this
      rw [HLA.out] at hkb
      have CT := HHT.out (lf cols row) br o2 (cr - 1) g 0 cap wr HOK2.out hrow2 hkb.row (by have := HN2.out; omega) (by omega) (by rw [HLT.out]; exact hcap) hcap2
      rw [HN2.out, HLT.out] at CT
      have hm := HM.out
      have hs := HS.out
      have ha := HA.out
      have hd := HD.out
      have hH := HH.out
      have hp := HPP.out
      rw [ha] at CT
      rw [hd] at CT
      rw [hH] at hh ⊢
      have HP := Lib.hid (show IntKind.i64.wrap ((rh : Int) * (rd : Int)) = (rp : Int) by rw [← hp, Int.natCast_mul]; exact IntWalk.i64_in _ (by rw [← Int.natCast_mul, hp]; omega))
      have q2 : IntKind.i64.wrap ((m : Int) + (ra : Int)) = (m : Int) + (ra : Int) := IntWalk.i64_in _ (by omega)
      have q3 : IntKind.i64.wrap ((s : Int) + (rp : Int)) = (s : Int) + (rp : Int) := IntWalk.i64_in _ (by omega)
      have HCT := Lib.hid CT
      have HK := Lib.hid (Kp.of_below (S := fun k => k = gM ∨ k = gW) hb)
      have KM1 := Lib.hid (KM.out.below hb)
      have KW1 := Lib.hid (KW.out.below hb)
      clear HA HD HH HPP HHT HX HC6 HLS HLZ HLA HOK2 CT hb hkb rr hrow2 ha hd hH hp HM HS hm hs et KG HB1 KB
      by_cases hc1 : cr = 1
      · rw [if_pos hc1] at ho2
        subst ho2
        obtain rfl : nr = 1 := by omega
        subst hc1
        go_wp2_with (go_at_call 28; refine HCT.out.mono ?_; rintro e w9 ⟨rfl, hb9⟩; have kM9 := KM1.out.below hb9; have kW9 := KW1.out.below hb9; have cM9 := kM9.cell (j := 0) rfl; have fM9 := kM9.frozen 0; have cW9 := (kW9.other (a := ⟨gM, 0, none⟩) (.int .i64 ((m : Int) + (ra : Int))) HNE.out).cell (j := 0) rfl; have fW9 := kW9.frozen 0; have q1 := HP.out)
        go_end0
        have k1 := (kM9.set 0 (.int .i64 ((m : Int) + (ra : Int)))).other (a := ⟨gW, 0, none⟩) (.int .i64 ((s : Int) + (rp : Int))) (fun e => HNE.out e.symm)
        have k2 := (kW9.other (a := ⟨gM, 0, none⟩) (.int .i64 ((m : Int) + (ra : Int))) HNE.out).set 0 (.int .i64 ((s : Int) + (rp : Int)))
        exact ⟨rfl, by rw [Int.natCast_add]; exact k1, by rw [Int.natCast_add]; exact k2, (((HK.out.trans (Kp.of_below hb9)).set (.inl rfl) _).set (.inr rfl) _)⟩
      · rw [if_neg hc1] at ho2
        subst ho2
        have hc2 : ¬ (1 : Nat) = cr := fun h => hc1 h.symm
        go_wp2_with (go_at_call 28; refine HCT.out.mono ?_; rintro e w9 ⟨rfl, hb9⟩; have kM9 := KM1.out.below hb9; have kW9 := KW1.out.below hb9; have cM9 := kM9.cell (j := 0) rfl; have fM9 := kM9.frozen 0; have cW9 := (kW9.other (a := ⟨gM, 0, none⟩) (.int .i64 ((m : Int) + (ra : Int))) HNE.out).cell (j := 0) rfl; have fW9 := kW9.frozen 0; have q1 := HP.out)
        go_end0
        have k1 := (kM9.set 0 (.int .i64 ((m : Int) + (ra : Int)))).other (a := ⟨gW, 0, none⟩) (.int .i64 ((s : Int) + (rp : Int))) (fun e => HNE.out e.symm)
        have k2 := (kW9.other (a := ⟨gM, 0, none⟩) (.int .i64 ((m : Int) + (ra : Int))) HNE.out).set 0 (.int .i64 ((s : Int) + (rp : Int)))
        exact ⟨rfl, by rw [Int.natCast_add]; exact k1, by rw [Int.natCast_add]; exact k2, (((HK.out.trans (Kp.of_below hb9)).set (.inl rfl) _).set (.inr rfl) _)⟩

end Go.Proofs.Ytpcnjkgoehepaaa
