/- impl.ranks, impl.RanksOf and laws.total. -/
import Derived.Test.YthemnkcgpcgilaaRankP
namespace Go.Proofs.Ythemnkcgpcgilaa
open Go.RowKit

theorem ic_tab {cs : List Value} {f : Nat → Int} {n : Nat} (h1 : cs.length = n) (h2 : ∀ j, j < n → cs[j]? = some (.int .i64 (f j))) : cs = ic (tabI f n) := by
  apply List.ext_getElem?
  intro j
  by_cases hj : j < n
  · rw [h2 j hj, get_ic (by rw [tabI_length]; exact hj), gi_tabI hj]
  · rw [List.getElem?_eq_none (by omega), List.getElem?_eq_none (by rw [ic_length, tabI_length]; omega)]

set_option maxHeartbeats 4000000 in
theorem ranks_any (b o c : Nat) (xs : List Int) (w : World) (h : RowI w b o xs) (hl : xs.length ≤ 1000) :
    Calls Try.prog 60 #[.slice (some ⟨b, o, none⟩) xs.length c] w
      fun e w' => ∃ g cap, e = .returned (.slice (some ⟨g, 0, none⟩) xs.length cap) ∧ w.heap.size ≤ g ∧ Blk w' g 3 (ic (rnkV xs)) ∧ Below w.heap.size w w' := by
  have H := Lib.hid h
  have hbw := h.blk
  obtain ⟨i0, hi, hz0, hz1, hz2⟩ := info_parts infoI
  clear h
  go_enter Try.func60, Try.ntmps60
  go_wp2_with (at_make; refine wpList_make_full _ rfl _ _ 22 rfl w.heap.size 3 i0 (.int .i64 0) 1 Try.underlying22 hi hz0 hz1 .i64 .i64 _ _ xs.length rfl rfl rfl rfl (by rw [hz2]; omega) (by unfold maxLen; omega) (by simp) ?_; intro w2 o2 g2)
  obtain ⟨cs0, hcs0⟩ : ∃ cs, (madeCells (Value.int .i64 0).cells (xs.length * 1)).toList = cs := ⟨_, rfl⟩
  have hcl : cs0.length = xs.length := by rw [← hcs0, Array.length_toList, size_madeCells, Nat.mul_one]
  have hbk := (Blk.of_own o2).1
  rw [hcs0] at hbk
  have hb2 : Below w.heap.size w w2 := (Below.refl _ _).grown g2 (Nat.le_refl _) (fun k hk => by cases hk)
  have HBK := Lib.hid hbk
  have HB2 := Lib.hid hb2
  have HCL := Lib.hid hcl
  clear o2 g2 hbk hb2 hcl hcs0 hi hz0 hz1 hz2
  go_loopw [13] (fun v13 wr => ∃ k : Nat, k ≤ xs.length ∧ v13 = .int .i64 k ∧ (∃ cs : List Value, cs.length = xs.length ∧ (∀ j, j < k → cs[j]? = some (.int .i64 (rkI xs (gi xs j) xs.length : Nat))) ∧ Blk wr w.heap.size 3 cs) ∧ Below w.heap.size w wr)
    (fun v13 _ => xs.length - (intOf v13).toNat)
  case atStart => exact ⟨0, Nat.zero_le _, rfl, ⟨cs0, HCL.out, fun j hj => absurd hj (Nat.not_lt_zero _), HBK.out⟩, HB2.out⟩
  case round =>
    clear HBK HB2 HCL
    obtain ⟨k, hk, rfl, ⟨cs, hc1, hc2, hc3⟩, hb⟩ := hrel
    have H1 := Lib.hid hc1
    have H2 := Lib.hid hc2
    have H3 := Lib.hid hc3
    have HB := Lib.hid hb
    have l3 := hc3.lt
    by_cases hlt : k < xs.length
    · obtain ⟨u, hu⟩ : ∃ u, cs[k]? = some u := ⟨cs[k]'(by omega), List.getElem?_eq_getElem _⟩
      have x1 := hc3.cell hu
      have f1 := hc3.frozen k
      have y1 := (H.out.below hb).cell k hlt
      obtain ⟨v, hv⟩ : ∃ v, gi xs k = v := ⟨_, rfl⟩
      rw [hv] at y1
      have HV := Lib.hid hv
      have hs3 := hc3.set k (.int .i64 1)
      have HS3 := Lib.hid hs3
      clear hc1 hc2 hc3 hu hb hs3 hv
      go_wp2_with fail
      go_loopw [23] (fun v23 wr => ∃ m : Nat, m ≤ xs.length ∧ v23 = .int .i64 m ∧ (∃ cs : List Value, cs.length = xs.length ∧ (∀ j, j < k → cs[j]? = some (.int .i64 (rkI xs (gi xs j) xs.length : Nat))) ∧ cs[k]? = some (.int .i64 (rkI xs v m : Nat)) ∧ Blk wr w.heap.size 3 cs) ∧ Below w.heap.size w wr)
        (fun v23 _ => xs.length - (intOf v23).toNat)
      case atStart =>
        have hl1 := H1.out
        exact ⟨0, Nat.zero_le _, rfl, ⟨cs.set k (.int .i64 1), by rw [List.length_set]; exact hl1, fun j hj => by rw [List.getElem?_set_ne (by omega)]; exact H2.out j hj, by rw [List.getElem?_set_self (by omega)]; rfl, HS3.out⟩, HB.out.setCell (by simp) _⟩
      case round =>
        clear HS3 H1 H2 H3 HB l3 x1 f1 y1
        obtain ⟨m, hm, rfl, ⟨cs, hc1, hc2, hck, hc3⟩, hb⟩ := hrel
        have H1 := Lib.hid hc1
        have H2 := Lib.hid hc2
        have H3 := Lib.hid hc3
        have HB := Lib.hid hb
        have hml := rkI_le xs v m
        have l3 := hc3.lt
        by_cases hmt : m < xs.length
        · have y1 := (H.out.below hb).cell m hmt
          have x1 := hc3.cell hck
          have f1 := hc3.frozen k
          have s1 := rkI_step xs v hmt
          obtain ⟨x, hx⟩ : ∃ x, gi xs m = x := ⟨_, rfl⟩
          rw [hx] at y1 s1
          obtain ⟨r, hr⟩ : ∃ r, rkI xs v m = r := ⟨_, rfl⟩
          rw [hr] at x1 s1 hml hck
          have S1 := Lib.hid s1
          have HCK := Lib.hid hck
          have hst2 := hc3.set k (.int .i64 ((r + 2 : Nat) : Int))
          have hst1 := hc3.set k (.int .i64 ((r + 1 : Nat) : Int))
          have HST2 := Lib.hid hst2
          have HST1 := Lib.hid hst1
          have q1 : IntKind.i64.wrap ((r : Int) + 2) = ((r + 2 : Nat) : Int) := by rw [IntWalk.i64_in _ (by omega)]; omega
          have q2 : IntKind.i64.wrap ((r : Int) + 1) = ((r + 1 : Nat) : Int) := by rw [IntWalk.i64_in _ (by omega)]; omega
          clear hc1 hc2 hc3 hck hb hx hr s1 hst2 hst1
          by_cases t1 : x < v
          · have t1' : decide (x < v) = true := by simpa using t1
            have t2' : decide (x = v) = false := by simp; omega
            rw [t1', t2'] at S1
            clear t2'
            go_wp2_with fail
            go_roundw
            case rel =>
              have hl1 := H1.out
              exact ⟨m + 1, by omega, by go_num, ⟨cs.set k (.int .i64 ((r + 2 : Nat) : Int)), by rw [List.length_set]; exact hl1, fun j hj => by rw [List.getElem?_set_ne (by omega)]; exact H2.out j hj, by rw [List.getElem?_set_self (by omega), S1.out]; rfl, HST2.out⟩, HB.out.setCell (by simp) _⟩
            case measure => simp [intOf]; omega
          · have t1' : decide (x < v) = false := by simpa using t1
            rw [t1'] at S1
            by_cases t2 : x = v
            · have t2' : (x == v) = true := by simpa using t2
              rw [show decide (x = v) = true from by simpa using t2] at S1
              clear t1 t2
              go_wp2_with fail
              go_roundw
              case rel =>
                have hl1 := H1.out
                exact ⟨m + 1, by omega, by go_num, ⟨cs.set k (.int .i64 ((r + 1 : Nat) : Int)), by rw [List.length_set]; exact hl1, fun j hj => by rw [List.getElem?_set_ne (by omega)]; exact H2.out j hj, by rw [List.getElem?_set_self (by omega), S1.out]; rfl, HST1.out⟩, HB.out.setCell (by simp) _⟩
              case measure => simp [intOf]; omega
            · have t2' : (x == v) = false := by simpa using t2
              rw [show decide (x = v) = false from by simpa using t2] at S1
              clear t1 t2
              go_wp2_with fail
              go_roundw
              case rel => exact ⟨m + 1, by omega, by go_num, ⟨cs, H1.out, H2.out, by rw [S1.out]; exact HCK.out, H3.out⟩, HB.out⟩
              case measure => simp [intOf]; omega
        · have hme : m = xs.length := by omega
          have HCK := Lib.hid hck
          have HE := Lib.hid hme
          clear hc1 hc2 hc3 hck hb hme
          go_wp2_with fail
          go_roundw
          case rel => exact ⟨k + 1, by omega, by go_num, ⟨cs, H1.out, fun j hj => by
            by_cases e : j = k
            · subst e; rw [HV.out, ← HE.out]; exact HCK.out
            · exact H2.out j (by omega), H3.out⟩, HB.out⟩
          case measure => simp [intOf]; omega
    · have hkn : k = xs.length := by omega
      have hcs : cs = ic (rnkV xs) := ic_tab hc1 (fun j hj => hc2 j (by omega))
      have HCS := Lib.hid hcs
      clear hc1 hc2 hc3 hcs hkn hb
      go_wp2_with fail
      go_ret
      exact ⟨_, _, rfl, Nat.le_refl _, by rw [← HCS.out]; exact H3.out, HB.out⟩

set_option maxHeartbeats 1000000 in
theorem ranksOf_any (b o c : Nat) (xs : List Int) (w : World) (h : RowI w b o xs) (hl : xs.length ≤ 1000) (hv : vdB xs = true) :
    Calls Try.prog 35 #[.slice (some ⟨b, o, none⟩) xs.length c] w
      fun e w' => ∃ g cap, e = .returned (.slice (some ⟨g, 0, none⟩) xs.length cap) ∧ RowI w' g 0 (rnkV xs) ∧ Below w.heap.size w w' := by
  have H := Lib.hid h
  have HV := Lib.hid hv
  clear h hv
  go_enter Try.func35, Try.ntmps35
  go_wp2_with (first
    | (go_at_call 34; refine (validData_any _ _ _ _ _ H.out (by omega)).mono ?_; rintro e w1 ⟨rfl, hb1⟩; rw [HV.out])
    | (go_at_call 60; refine (ranks_any _ _ _ xs _ (H.out.below hb1) hl).mono ?_; rintro e w2 ⟨g, cap, rfl, hg, hk, hb2⟩))
  go_ret
  exact ⟨g, cap, rfl, hk.row, hb1.trans (hb2.mono hb1.size)⟩

set_option maxHeartbeats 1000000 in
theorem total_row (b o c : Nat) (xs : List Int) (B : Int) (w : World) (h : RowI w b o xs) (hl : xs.length ≤ 1000) (hx : ∀ x ∈ xs, 0 ≤ x ∧ x ≤ B) (hB : B ≤ 1000000) :
    Calls Try.prog 36 #[.slice (some ⟨b, o, none⟩) xs.length c] w fun e w' => e = .returned (.int .i64 (totS xs xs.length)) ∧ w = w' := by
  have H := Lib.hid h
  have HI := Lib.hid (fun k hk => totS_in hx k hk)
  have HX := Lib.hid hx
  clear h hx
  go_enter Try.func36, Try.ntmps36
  go_wp2_with fail
  go_loop [3, 4] (fun v3 v4 => ∃ k : Nat, v4 = .int .i64 (k : Int) ∧ k ≤ xs.length ∧ v3 = .int .i64 (totS xs k)) (fun _ v4 => xs.length - (intOf v4).toNat)
  case atStart => exact ⟨0, rfl, by omega, rfl⟩
  case round =>
    obtain ⟨k, rfl, hk, rfl⟩ := hrel
    by_cases hlt : k < xs.length
    · have y1 := H.out.cell k hlt
      have i1 := HI.out k hk
      have hkB : (k : Int) * B ≤ 1000 * 1000000 := by
        have hB0 : 0 ≤ B := by have := HX.out _ (gi_mem hlt); omega
        exact Int.mul_le_mul (by omega) hB hB0 (by omega)
      have i2 := HX.out _ (gi_mem hlt)
      have s1 : totS xs (k + 1) = totS xs k + gi xs k := rfl
      obtain ⟨x, hx⟩ : ∃ x, gi xs k = x := ⟨_, rfl⟩
      obtain ⟨m, hm⟩ : ∃ m, totS xs k = m := ⟨_, rfl⟩
      rw [hx] at y1 s1 i2
      rw [hm] at s1 i1 ⊢
      have S1 := Lib.hid s1
      have q1 : IntKind.i64.wrap (m + x) = m + x := IntWalk.i64_in _ (by omega)
      clear s1 hx hm
      go_wp2_with fail
      go_round
      case rel => exact ⟨k + 1, by go_num, by omega, by rw [S1.out]⟩
      case measure => simp [intOf]; omega
    · have e : k = xs.length := by omega
      subst e
      go_wp2_with fail
      go_ret
      exact ⟨rfl, rfl⟩
theorem total_nil (a : Option Addr) (c : Nat) (w : World) : Calls Try.prog 36 #[.slice a 0 c] w fun e w' => e = .returned (.int .i64 0) ∧ w = w' := by
  go_enter Try.func36, Try.ntmps36
  go_wp2_with fail
  go_rounds 1
  go_ret
  exact ⟨rfl, rfl⟩
theorem total_any (v : Value) (xs : List Int) (B : Int) (w : World) (h : ArgI w v xs) (hl : xs.length ≤ 1000) (hx : ∀ x ∈ xs, 0 ≤ x ∧ x ≤ B) (hB : B ≤ 1000000) :
    Calls Try.prog 36 #[v] w fun e w' => e = .returned (.int .i64 (totS xs xs.length)) ∧ w = w' := by
  rcases h with ⟨a, c, rfl, rfl⟩ | ⟨b, o, c, rfl, h⟩
  · exact total_nil a c w
  · exact total_row b o c xs B w h hl hx hB

theorem mut_arg {w : World} {base n : Nat} {v : Value} {L : List Int} (h : Mut 3 w base v n (ic L)) (hn : n = L.length) : ∃ A c, v = .slice A n c ∧ ArgI w v L := by
  rcases h with ⟨rfl, h1, h2⟩ | ⟨g, cap, rfl, h1, h2⟩
  · have : L = [] := List.eq_nil_of_length_eq_zero (by omega)
    subst h1
    exact ⟨none, 0, rfl, .inl ⟨none, 0, rfl, this⟩⟩
  · exact ⟨_, cap, rfl, .inr ⟨g, 0, cap, by rw [hn], h2.row⟩⟩

end Go.Proofs.Ythemnkcgpcgilaa
