/- Rows of fractions in memory: tests, marks, the least and the greatest one. -/
import Derived.Test.YtoioafadenniiaaToInt
import Derived.Test.YtoioafadenniiaaSFrac
import Derived.Test.YtoioafadenniiaaSm
namespace Go.Proofs.Ytoioafadenniiaa
open Go.RowKit

/-- The cells of a list of fractions. -/
def fc : List Rat → List Value
  | [] => []
  | q :: r => .int .i64 (up q) :: .int .i64 (dn q) :: fc r
def gq (fs : List Rat) (k : Nat) : Rat := fs.getD k 0
theorem gq_eq {fs : List Rat} {k : Nat} (h : k < fs.length) : gq fs k = fs[k] := by unfold gq; simp [h]
theorem fc_length : ∀ fs : List Rat, (fc fs).length = fs.length * 2
  | [] => rfl
  | q :: r => by simp only [fc, List.length_cons, fc_length r]; omega
theorem get_fc0 : ∀ {fs : List Rat} {k : Nat}, k < fs.length → (fc fs)[k * 2]? = some (.int .i64 (up (gq fs k)))
  | [], _, h => absurd h (Nat.not_lt_zero _)
  | q :: r, 0, _ => rfl
  | q :: r, k + 1, h => by
    have := get_fc0 (fs := r) (k := k) (by simpa using h)
    rw [show (k + 1) * 2 = k * 2 + 1 + 1 from by omega]
    simp only [fc, List.getElem?_cons_succ, this]
    rfl
theorem get_fc1 : ∀ {fs : List Rat} {k : Nat}, k < fs.length → (fc fs)[k * 2 + 1]? = some (.int .i64 (dn (gq fs k)))
  | [], _, h => absurd h (Nat.not_lt_zero _)
  | q :: r, 0, _ => rfl
  | q :: r, k + 1, h => by
    have := get_fc1 (fs := r) (k := k) (by simpa using h)
    rw [show (k + 1) * 2 + 1 = k * 2 + 1 + 1 + 1 from by omega]
    simp only [fc, List.getElem?_cons_succ, this]
    rfl
theorem fc_append (fs : List Rat) (q : Rat) : fc fs ++ [.int .i64 (up q), .int .i64 (dn q)] = fc (fs ++ [q]) := by
  induction fs with
  | nil => rfl
  | cons a r ih => simp only [fc, List.cons_append, ih]
theorem Blk.f0 {w : World} {g : Nat} {fs : List Rat} {k : Nat} (h : Blk w g 31 (fc fs)) (hk : k < fs.length) : w.cell? ⟨g, k * 2, none⟩ = some (.int .i64 (up (gq fs k))) := h.cell (get_fc0 hk)
theorem Blk.f1 {w : World} {g : Nat} {fs : List Rat} {k : Nat} (h : Blk w g 31 (fc fs)) (hk : k < fs.length) : w.cell? ⟨g, k * 2 + 1, none⟩ = some (.int .i64 (dn (gq fs k))) := h.cell (get_fc1 hk)

theorem infoF : (Try.prog.info? 31).map (fun i => (i.zero, i.size, i.bytes)) = some (some (.agg #[.int .i64 0, .int .i64 0]), 2, 16) := by kernel_rfl

set_option maxHeartbeats 400000 in
theorem eqFrac_any (a b : Int) (w : World) :
    Calls Try.prog 20 #[.agg #[.int .i64 a, .int .i64 b], .agg #[.int .i64 a, .int .i64 b]] w fun e w' => e = .returned (.bool true) ∧ Below w.heap.size w w' := by
  go_enter Try.func20, Try.ntmps20
  go_wp2
  go_ret
  exact ⟨rfl, by (repeat' (first | (with_reducible exact Below.refl _ _) | (with_reducible assumption) | (with_reducible refine Below.drewN ?_ _) | (with_reducible refine Below.alloc ?_ ?_ _) | (with_reducible refine Below.drew ?_) | (with_reducible refine Below.setCell ?_ ?_ _) | (with_reducible refine Below.trans ?_ (Below.mono (by assumption) ?_)) | go_size | (with_reducible refine Nat.le_trans ?_ (Below.size (by assumption)))))⟩

set_option maxHeartbeats 1000000 in
theorem eqFracS_row (g c g' c' n : Nat) (fs : List Rat) (w : World) (h : Blk w g 31 (fc fs)) (h' : Blk w g' 31 (fc fs)) (hn : fs.length = n) (hl : n ≤ 1048576) :
    Calls Try.prog 13 #[.slice (some ⟨g, 0, none⟩) n c, .slice (some ⟨g', 0, none⟩) n c'] w fun e w' => e = .returned (.bool true) ∧ Below w.heap.size w w' := by
  have H := Lib.hid h
  have H' := Lib.hid h'
  have HN := Lib.hid hn
  clear h h' hn
  go_enter Try.func13, Try.ntmps13
  go_wp2
  go_loopw [5] (fun v5 wr => ∃ k : Nat, k ≤ n ∧ v5 = .int .i64 k ∧ Below w.heap.size w wr) (fun v5 _ => n - (intOf v5).toNat)
  case atStart => exact ⟨0, Nat.zero_le _, rfl, Below.refl _ _⟩
  case round =>
    obtain ⟨k, hk, rfl, hb⟩ := hrel
    by_cases hlt : k < n
    · have hkf : k < fs.length := by rw [HN.out]; exact hlt
      have c1 := (H.out.below hb).f0 hkf
      have c2 := (H.out.below hb).f1 hkf
      have c3 := (H'.out.below hb).f0 hkf
      have c4 := (H'.out.below hb).f1 hkf
      clear hkf
      have hz := hb.size
      go_wp2
      (refine region_tail 8 (by kernel_rfl) (by kernel_rfl) ?_; simp only [List.take_succ_cons, List.take_zero, List.drop_succ_cons, List.drop_zero]; (repeat (go_big_quiet_step (fail))); refine wpQuiet_nil ?_)
      go_wp2_with (go_at_call 20; refine (eqFrac_any _ _ _).mono ?_; rintro e w1 ⟨rfl, hb1⟩)
      go_roundw
      case rel => exact ⟨k + 1, by omega, by go_num, by (repeat' (first | (with_reducible exact Below.refl _ _) | (with_reducible assumption) | (with_reducible refine Below.drewN ?_ _) | (with_reducible refine Below.alloc ?_ ?_ _) | (with_reducible refine Below.drew ?_) | (with_reducible refine Below.setCell ?_ ?_ _) | (with_reducible refine Below.trans ?_ (Below.mono (by assumption) ?_)) | go_size | (with_reducible refine Nat.le_trans ?_ (Below.size (by assumption)))))⟩
      case measure => simp [intOf]; omega
    · go_wp2
      go_ret
      exact ⟨rfl, hb⟩


set_option maxHeartbeats 1000000 in
theorem eqFracS_nil (a a' : Option Addr) (c c' : Nat) (w : World) :
    Calls Try.prog 13 #[.slice a 0 c, .slice a' 0 c'] w fun e w' => e = .returned (.bool true) ∧ Below w.heap.size w w' := by
  go_enter Try.func13, Try.ntmps13
  go_wp2
  go_rounds 1
  go_ret
  exact ⟨rfl, by (repeat' (first | (with_reducible exact Below.refl _ _) | (with_reducible assumption) | (with_reducible refine Below.drewN ?_ _) | (with_reducible refine Below.alloc ?_ ?_ _) | (with_reducible refine Below.drew ?_) | (with_reducible refine Below.setCell ?_ ?_ _) | (with_reducible refine Below.trans ?_ (Below.mono (by assumption) ?_)) | go_size | (with_reducible refine Nat.le_trans ?_ (Below.size (by assumption)))))⟩

theorem eqFracS_any (v v' : Value) (B B' n : Nat) (fs : List Rat) (w : World) (h : Mut 31 w B v n (fc fs)) (h' : Mut 31 w B' v' n (fc fs)) (hn : fs.length = n) (hl : n ≤ 1048576) :
    Calls Try.prog 13 #[v, v'] w fun e w' => e = .returned (.bool true) ∧ Below w.heap.size w w' := by
  rcases h with ⟨rfl, rfl, _⟩ | ⟨g, c, rfl, _, h⟩
  · rcases h' with ⟨rfl, _, _⟩ | ⟨g', c', rfl, _, h'⟩
    · exact eqFracS_nil _ _ _ _ w
    · exact eqFracS_nil _ _ _ _ w
  · rcases h' with ⟨rfl, rfl, _⟩ | ⟨g', c', rfl, _, h'⟩
    · exact eqFracS_nil _ _ _ _ w
    · exact eqFracS_row g c g' c' n fs w h h' hn hl

/-- Marks: numbers from m on. -/
def mk (m : Int) (n : Nat) : List Value := (List.range n).map fun j : Nat => .int .i64 (m + (j : Int))
theorem mk_length (m : Int) (n : Nat) : (mk m n).length = n := by simp [mk]
theorem get_mk {m : Int} {n j : Nat} (h : j < n) : (mk m n)[j]? = some (.int .i64 (m + j)) := by simp [mk, h]
theorem eq_mk {cs : List Value} {m : Int} {n : Nat} (h1 : cs.length = n) (h2 : ∀ j, j < n → cs[j]? = (mk m n)[j]?) : cs = mk m n := by
  apply List.ext_getElem?
  intro j
  by_cases hj : j < n
  · exact h2 j hj
  · rw [List.getElem?_eq_none (by omega), List.getElem?_eq_none (by rw [mk_length]; omega)]

set_option maxHeartbeats 1000000 in
theorem markFracS_row (g c n : Nat) (cs : List Value) (m : Int) (w : World) (h : Blk w g 31 cs) (hl : cs.length = n * 2) (hn : n ≤ 1048576) (hm : 0 ≤ m) (hm2 : m ≤ 1099511627776) :
    Calls Try.prog 16 #[.slice (some ⟨g, 0, none⟩) n c, .int .i64 m] w
      fun e w' => e = .returned (.int .i64 (m + (n * 2 : Nat))) ∧ Blk w' g 31 (mk m (n * 2)) ∧ w.grownBy w' (some g) := by
  have H := Lib.hid h
  clear h
  have HL := Lib.hid hl
  clear hl
  go_enter Try.func16, Try.ntmps16
  go_wp2
  go_loopw [1, 5] (fun v1 v5 wr => ∃ k : Nat, k ≤ n ∧ v5 = .int .i64 k ∧ v1 = .int .i64 (m + (k * 2 : Nat)) ∧ (∃ cs : List Value, cs.length = n * 2 ∧ (∀ j, j < k * 2 → cs[j]? = (mk m (n * 2))[j]?) ∧ Blk wr g 31 cs) ∧ w.grownBy wr (some g)) (fun _ v5 _ => n - (intOf v5).toNat)
  case atStart => exact ⟨0, Nat.zero_le _, rfl, by simp, ⟨cs, HL.out, fun j hj => absurd hj (by omega), H.out⟩, grownBy_refl _ _⟩
  case round =>
    obtain ⟨k, hk, rfl, rfl, ⟨cs, hc1, hc2, hc3⟩, hb⟩ := hrel
    by_cases hlt : k < n
    · obtain ⟨u, hu⟩ : ∃ u, cs[k * 2]? = some u := ⟨cs[k * 2], by rw [List.getElem?_eq_getElem]⟩
      obtain ⟨u2, hu2⟩ : ∃ u, cs[k * 2 + 1]? = some u := ⟨cs[k * 2 + 1], by rw [List.getElem?_eq_getElem]⟩
      have c2 := hc3.cell hu
      have c3 := hc3.cell hu2
      have f2 := hc3.frozen (k * 2)
      have f3 := hc3.frozen (k * 2 + 1)
      have H3 := Lib.hid hc3
      have H1 := Lib.hid hc1
      have H2 := Lib.hid hc2
      clear hc1 hc2 hc3 hu hu2
      go_wp2
      go_roundw
      case rel =>
        refine ⟨k + 1, by omega, by go_num, by go_num, ⟨(cs.set (k * 2) (.int .i64 (m + (k * 2 : Nat)))).set (k * 2 + 1) (.int .i64 (m + (k * 2 : Nat) + 1)), by rw [List.length_set, List.length_set]; exact H1.out, fun j hj => ?_, ?_⟩, grownBy_set (grownBy_set hb _) _⟩
        · have hl1 := H1.out
          by_cases e : j = k * 2 + 1
          · subst e
            rw [get_mk (by omega), List.getElem?_set_self (by rw [List.length_set]; omega)]
            congr 2
            omega
          · rw [List.getElem?_set_ne (fun h => e h.symm)]
            by_cases e2 : j = k * 2
            · subst e2
              rw [get_mk (by omega), List.getElem?_set_self (by omega)]
            · rw [List.getElem?_set_ne (fun h => e2 h.symm)]
              exact H2.out j (by omega)
        · exact (H3.out.set (k * 2) _).set (k * 2 + 1) _
      case measure => simp [intOf]; omega
    · have hkn : k = n := by omega
      subst hkn
      have e1 := eq_mk hc1 hc2
      have E1 := Lib.hid e1
      have H3 := Lib.hid hc3
      clear e1 hc1 hc2 hc3
      go_wp2_with fail
      go_ret
      exact ⟨rfl, by rw [← E1.out]; exact H3.out, hb⟩

set_option maxHeartbeats 1000000 in
theorem markFracS_nil (a : Option Addr) (c : Nat) (m : Int) (w : World) :
    Calls Try.prog 16 #[.slice a 0 c, .int .i64 m] w fun e w' => e = .returned (.int .i64 m) ∧ w' = w := by
  go_enter Try.func16, Try.ntmps16
  go_wp2
  go_rounds 1
  go_ret
  exact ⟨rfl, rfl⟩

set_option maxHeartbeats 1000000 in
theorem heldFracS_row (g c n : Nat) (m : Int) (w : World) (h : Blk w g 31 (mk m (n * 2))) (hn : n ≤ 1048576) (hm : 0 ≤ m) (hm2 : m ≤ 1099511627776) :
    Calls Try.prog 17 #[.slice (some ⟨g, 0, none⟩) n c, .int .i64 m] w fun e w' => e = .returned (.int .i64 (m + (n * 2 : Nat))) ∧ w' = w := by
  have H := Lib.hid h
  clear h
  go_enter Try.func17, Try.ntmps17
  go_wp2
  go_loop [1, 5] (fun v1 v5 => ∃ k : Nat, k ≤ n ∧ v5 = .int .i64 k ∧ v1 = .int .i64 (m + (k * 2 : Nat))) (fun _ v5 => n - (intOf v5).toNat)
  case atStart => exact ⟨0, Nat.zero_le _, rfl, by simp⟩
  case round =>
    obtain ⟨k, hk, rfl, rfl⟩ := hrel
    by_cases hlt : k < n
    · have c2 := H.out.cell (j := k * 2) (get_mk (by omega))
      have c3 := H.out.cell (j := k * 2 + 1) (get_mk (by omega))
      have e1 : (m + ((k * 2 : Nat) : Int) != m + ((k * 2 : Nat) : Int)) = false := by simp
      rw [show m + ((k * 2 + 1 : Nat) : Int) = m + ((k * 2 : Nat) : Int) + 1 from by omega] at c3
      go_wp2
      go_round
      case rel => exact ⟨k + 1, by omega, by go_num, by go_num⟩
      case measure => simp [intOf]; omega
    · have hkn : k = n := by omega
      have HK := Lib.hid hkn
      clear hkn
      go_wp2_with fail
      go_ret
      exact ⟨by rw [← HK.out]; rfl, rfl⟩

set_option maxHeartbeats 1000000 in
theorem heldFracS_nil (a : Option Addr) (c : Nat) (m : Int) (w : World) :
    Calls Try.prog 17 #[.slice a 0 c, .int .i64 m] w fun e w' => e = .returned (.int .i64 m) ∧ w' = w := by
  go_enter Try.func17, Try.ntmps17
  go_wp2
  go_rounds 1
  go_ret
  exact ⟨rfl, rfl⟩

end Go.Proofs.Ytoioafadenniiaa
