/- impl.StepDown. -/
import Derived.Test.YtjkadlmlkcanpaaSStep
namespace Go.Proofs.Ytjkadlmlkcanpaa
open Go.RowKit

set_option maxHeartbeats 4000000 in
theorem stepDown_any (b o c : Nat) (xs : List Int) (w : World) (h : RowI w b o xs) (hv : ovB xs = true) (hm : xs.length ≤ 1099511627776) :
    Calls Try.prog 15 #[.slice (some ⟨b, o, none⟩) xs.length c] w
      fun e w' => ∃ g cap, e = .returned (.slice (some ⟨g, 0, none⟩) xs.length cap) ∧ w.heap.size ≤ g ∧ Blk w' g 3 (ic (tabI (fun i => min (sdM xs i xs.length) 1000) xs.length)) ∧ Below w.heap.size w w' := by
  have hvl := ov_of hv
  have hn0 := hvl.n0
  have hn6 := hvl.n6
  have HV := Lib.hid hvl
  have H := Lib.hid h
  obtain ⟨i0, hi, hz0, hz1, hz2⟩ := info_parts infoI
  clear h hvl
  go_enter Try.func15, Try.ntmps15
  go_wp2_with (first
    | (go_at_call 43; refine (validOdds_any b o c xs _ H.out hm).mono ?_; rintro e w1 ⟨rfl, hb1⟩; have hzz1 := hb1.size)
    | (at_make; refine wpList_make_full _ rfl _ _ 22 rfl w1.heap.size 3 i0 (.int .i64 0) 1 Try.underlying22 hi hz0 hz1 .i64 .i64 _ _ xs.length rfl rfl rfl rfl (by rw [hz2]; omega) (by unfold maxLen; omega) (Nat.le_refl _) ?_; intro w2 o2 g2; have hb2 : Below w1.heap.size w1 w2 := (Below.refl _ _).grown g2 (Nat.le_refl _) (fun k hk => by cases hk); have hzz2 := hb2.size)
    | (go_at_call 44; refine (bySize_any b o c xs _ ((H.out.below hb1).below hb2) (by omega) hn0).mono ?_; rintro e w3 ⟨go, co, rfl, hgo, ko, hb3⟩))
  obtain ⟨cs0, hcs0⟩ : ∃ cs, (madeCells (Value.int .i64 0).cells (xs.length * 1)).toList = cs := ⟨_, rfl⟩
  have hcl : cs0.length = xs.length := by rw [← hcs0, Array.length_toList, size_madeCells, Nat.mul_one]
  have hbk := (Blk.of_own o2).1
  rw [hcs0] at hbk
  have hl2 := hbk.lt
  have HBK := Lib.hid (hbk.below hb3)
  have HKO := Lib.hid ko.row
  have HCL := Lib.hid hcl
  have HB3 := Lib.hid ((hb1.trans (hb2.mono hzz1)).trans (hb3.mono (by omega)))
  have hne : go ≠ w1.heap.size := by omega
  have hgo2 : w.heap.size ≤ go := by omega
  obtain ⟨g, hg⟩ : ∃ g, w1.heap.size = g := ⟨_, rfl⟩
  have hwg : w.heap.size ≤ g := by omega
  rw [hg] at HBK hne ⊢
  have hol := ordK_length (keyOf xs) xs.length
  have hoa : ∀ r, r < xs.length → gi (ordK (keyOf xs) xs.length) r = (ordAt xs r : Int) := fun r hr => by
    have h1 := (ordAt_get hr).1
    unfold gi
    rw [List.getD_eq_getElem?_getD, h1]
    rfl
  obtain ⟨L, hL⟩ : ∃ L, ordK (keyOf xs) xs.length = L := ⟨_, rfl⟩
  rw [hL] at HKO hol hoa
  have HOA := Lib.hid hoa
  have HOL := Lib.hid hol
  clear o2 g2 hb1 hb2 hb3 ko hbk hcl hcs0 hg hi hz0 hz1 hz2 hL hoa hol hgo
  go_loopw [4, 16] (fun v4 v16 wr => ∃ r : Nat, r ≤ xs.length ∧ v16 = .int .i64 r ∧ v4 = .int .i64 (idM xs r) ∧ (∃ cs : List Value, cs.length = xs.length ∧ (∀ i, i < xs.length → plc xs i xs.length < r → cs[i]? = some (.int .i64 (idM xs (plc xs i xs.length + 1)))) ∧ Blk wr g 3 cs) ∧ RowI wr go 0 L ∧ Below w.heap.size w wr)
    (fun _ v16 _ => xs.length - (intOf v16).toNat)
  case atStart => exact ⟨0, Nat.zero_le _, rfl, rfl, ⟨cs0, HCL.out, fun i _ hp => absurd hp (Nat.not_lt_zero _), HBK.out⟩, HKO.out, HB3.out⟩
  case round =>
    clear HBK HKO HCL HB3
    obtain ⟨r, hr, rfl, rfl, ⟨cs, hc1, hc2, hc3⟩, hro, hb⟩ := hrel
    have H1 := Lib.hid hc1
    have H2 := Lib.hid hc2
    have H3 := Lib.hid hc3
    have HRO := Lib.hid hro
    have HB := Lib.hid hb
    by_cases hlt : r < xs.length
    · have hi2 := (ordAt_get hlt).2
      have hpi := plc_ordAt hlt
      have hinj : ∀ k, k < xs.length → plc xs k xs.length = r → k = ordAt xs r := fun k hk e => by rw [← e, ordAt_plc hk]
      have c2 := hro.cell r (by rw [HOL.out]; exact hlt)
      rw [HOA.out r hlt, Nat.zero_add] at c2
      have h0 := idM_nonneg (xs := xs) r
      have hst : idM xs (r + 1) = max (idM xs r) (min 1000 (gi xs (ordAt xs r) * ((xs.length : Int) - (r : Int)))) := rfl
      obtain ⟨i, hie⟩ : ∃ i, ordAt xs r = i := ⟨_, rfl⟩
      rw [hie] at hi2 hpi hinj c2 hst
      have c1 := (H.out.below hb).cell i hi2
      have bx := HV.out.x i hi2
      obtain ⟨x, hx⟩ : ∃ x, gi xs i = x := ⟨_, rfl⟩
      obtain ⟨s, hs⟩ : ∃ s, idM xs r = s := ⟨_, rfl⟩
      rw [hx] at c1 bx hst
      rw [hs] at hst h0 ⊢
      have bp := prod6 bx (y := (xs.length : Int) - (r : Int)) (by omega)
      have q1 : IntKind.i64.wrap ((xs.length : Int) - (r : Int)) = (xs.length : Int) - (r : Int) := IntWalk.i64_in _ (by omega)
      obtain ⟨v, hv⟩ : ∃ v, x * ((xs.length : Int) - (r : Int)) = v := ⟨_, rfl⟩
      have q2 : IntKind.i64.wrap (x * ((xs.length : Int) - (r : Int))) = v := by rw [IntWalk.i64_in _ (by omega)]; exact hv
      rw [hv] at hst
      obtain ⟨mn, hmn⟩ : ∃ mn : Int, (if v < 1000 then v else 1000) = mn := ⟨_, rfl⟩
      obtain ⟨mx, hmx⟩ : ∃ mx : Int, (if s < mn then mn else s) = mx := ⟨_, rfl⟩
      have hst2 : idM xs (r + 1) = mx := by rw [hst, ← hmx, ← hmn]; split <;> split <;> omega
      have HST := Lib.hid hst2
      obtain ⟨u, hu⟩ : ∃ u, cs[i]? = some u := ⟨cs[i]'(by omega), List.getElem?_eq_getElem _⟩
      have x1 := hc3.cell hu
      have f1 := hc3.frozen i
      have l3 := hc3.lt
      have q3 : (i : Int) < (xs.length : Int) := by omega
      have HPI := Lib.hid hpi
      have HINJ := Lib.hid hinj
      clear hst hst2 hie hx hs bp bx hv hc1 hc2 hc3 hro hb hu hpi hinj
      go_wp2_with fail
      go_roundw
      case rel =>
        have hl := H1.out
        refine ⟨r + 1, by omega, by go_num, by rw [HST.out], ⟨cs.set i (.int .i64 mx), by rw [List.length_set]; exact hl, fun k hk hp => ?_, H3.out.set _ _⟩, HRO.out.others' (by simp; omega), HB.out.setCell (by simp; omega) _⟩
        by_cases e : k = i
        · subst e
          rw [List.getElem?_set_self (by omega), HPI.out, HST.out]
        · rw [List.getElem?_set_ne (fun h => e h.symm)]
          refine H2.out k hk ?_
          have : plc xs k xs.length ≠ r := fun hh => e (HINJ.out k hk hh)
          omega
      case measure => simp [intOf]; omega
    · have hrn : r = xs.length := by omega
      have hcs : cs = ic (tabI (fun i => min (sdM xs i xs.length) 1000) xs.length) := by
        apply List.ext_getElem?
        intro j
        by_cases hj : j < xs.length
        · rw [hc2 j hj (by rw [hrn]; exact plc_lt xs _ j hj), sd_eq hj, get_ic (by rw [tabI_length]; exact hj), gi_tabI hj]
        · rw [List.getElem?_eq_none (by omega), List.getElem?_eq_none (by rw [ic_length, tabI_length]; omega)]
      rw [hcs] at hc3
      have HC3 := Lib.hid hc3
      clear hc1 hc2 hc3 hcs hro hb hrn H1 H2 H3
      go_wp2_with fail
      go_ret
      exact ⟨g, _, rfl, hwg, HC3.out, HB.out⟩

set_option maxHeartbeats 1000000 in
theorem stepDown_all (b o c : Nat) (xs : List Int) (w : World) (h : RowI w b o xs) (hm : xs.length ≤ 1099511627776) :
    Calls Try.prog 15 #[.slice (some ⟨b, o, none⟩) xs.length c] w
      fun e w' => ∃ v, e = .returned v ∧ Mut 3 w' w.heap.size v (sdV xs).length (ic (sdV xs)) ∧ Below w.heap.size w w' := by
  cases hv : ovB xs with
  | true =>
    have e : sdV xs = tabI (fun i => min (sdM xs i xs.length) 1000) xs.length := by simp [sdV, hv]
    rw [e, tabI_length]
    exact (stepDown_any b o c xs w h hv hm).mono fun e w' ⟨g, cap, h1, h2, h3, h4⟩ => ⟨_, h1, .inr ⟨g, cap, rfl, h2, h3⟩, h4⟩
  | false =>
    have H := Lib.hid h
    have e : sdV xs = [] := by simp [sdV, hv]
    rw [e]
    clear e h
    go_enter Try.func15, Try.ntmps15
    go_wp2_with (go_at_call 43; refine (validOdds_any b o c xs _ H.out hm).mono ?_; rintro e w1 ⟨rfl, hb1⟩)
    go_ret
    exact ⟨_, rfl, .inl ⟨rfl, rfl, rfl⟩, hb1⟩

end Go.Proofs.Ytjkadlmlkcanpaa
