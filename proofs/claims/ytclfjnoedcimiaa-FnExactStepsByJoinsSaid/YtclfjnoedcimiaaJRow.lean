/- Rows of joins in memory: tests, marks, own rows. -/
import Derived.Test.YtclfjnoedcimiaaLawI
import Derived.Test.YtclfjnoedcimiaaJoinP
namespace Go.Proofs.Ytclfjnoedcimiaa
open Go.RowKit

/-- The cells of a list of joins. -/
def jc : List Jn → List Value
  | [] => []
  | q :: r => .int .i64 q.1 :: .int .i64 q.2.1 :: .int .i64 q.2.2 :: jc r
def gj (fs : List Jn) (k : Nat) : Jn := fs.getD k (0, 0, 0)
theorem gj_eq {fs : List Jn} {k : Nat} (h : k < fs.length) : gj fs k = fs[k] := by unfold gj; simp [h]
theorem jc_length : ∀ fs : List Jn, (jc fs).length = fs.length * 3
  | [] => rfl
  | q :: r => by simp only [jc, List.length_cons, jc_length r]; omega
theorem get_jc : ∀ {fs : List Jn} {k : Nat}, k < fs.length → (jc fs)[k * 3]? = some (.int .i64 (gj fs k).1) ∧ (jc fs)[k * 3 + 1]? = some (.int .i64 (gj fs k).2.1) ∧ (jc fs)[k * 3 + 2]? = some (.int .i64 (gj fs k).2.2)
  | [], _, h => absurd h (Nat.not_lt_zero _)
  | q :: r, 0, _ => ⟨rfl, rfl, rfl⟩
  | q :: r, k + 1, h => by
    have := get_jc (fs := r) (k := k) (by simpa using h)
    rw [show (k + 1) * 3 = k * 3 + 1 + 1 + 1 from by omega]
    simp only [jc, List.getElem?_cons_succ]
    exact this
theorem jc_append (fs : List Jn) (q : Jn) : jc fs ++ [.int .i64 q.1, .int .i64 q.2.1, .int .i64 q.2.2] = jc (fs ++ [q]) := by
  induction fs with
  | nil => rfl
  | cons a r ih => simp only [jc, List.cons_append, ih]
theorem Blk.jn {w : World} {g : Nat} {fs : List Jn} {k : Nat} (h : Blk w g 35 (jc fs)) (hk : k < fs.length) :
    w.cell? ⟨g, k * 3, none⟩ = some (.int .i64 (gj fs k).1) ∧ w.cell? ⟨g, k * 3 + 1, none⟩ = some (.int .i64 (gj fs k).2.1) ∧ w.cell? ⟨g, k * 3 + 2, none⟩ = some (.int .i64 (gj fs k).2.2) :=
  ⟨h.cell (get_jc hk).1, h.cell (get_jc hk).2.1, h.cell (get_jc hk).2.2⟩

theorem infoJ : (Try.prog.info? 35).map (fun i => (i.zero, i.size, i.bytes)) = some (some (.agg #[.int .i64 0, .int .i64 0, .int .i64 0]), 3, 24) := by kernel_rfl

/-- A list of n joins that the call owns. -/
def OwnJ (w : World) (base : Nat) (v : Value) (n : Nat) (fs : List Jn) : Prop := w.ownsRow base 35 3 v n (jc fs)
theorem OwnJ.len {w : World} {base : Nat} {v : Value} {n : Nat} {fs : List Jn} (h : OwnJ w base v n fs) : fs.length = n := by
  have := h.1
  rw [jc_length] at this
  omega
theorem OwnJ.nil (w : World) (base : Nat) : OwnJ w base (.slice none 0 0) 0 [] := World.ownsRow_nil w base 35 3
theorem OwnJ.shape {w : World} {base : Nat} {v : Value} {n : Nat} {fs : List Jn} (h : OwnJ w base v n fs) (hne : n ≠ 0) : ∃ g cap, v = .slice (some ⟨g, 0, none⟩) n cap ∧ base ≤ g := by
  rcases h.2 with ⟨_, h0⟩ | ⟨g', cap', cur, hv, hb, _⟩
  · exact absurd h0 hne
  · exact ⟨g', cap', hv, hb⟩
theorem OwnJ.below {w w' : World} {base : Nat} {v : Value} {n : Nat} {fs : List Jn} (h : OwnJ w base v n fs) (hb : Below w.heap.size w w') : OwnJ w' base v n fs :=
  World.ownsRow.kept h (row := none) ⟨hb.os, hb.tape, hb.output, hb.size, fun k hk _ => hb.block k hk⟩ (by cases hv : v.ownBlock <;> simp)
theorem OwnJ.app {w : World} {base : Nat} {v : Value} {n : Nat} {fs : List Jn} {q : Jn} (h : w.ownsRow base 35 3 v n (jc fs ++ [.int .i64 q.1, .int .i64 q.2.1, .int .i64 q.2.2])) : OwnJ w base v n (fs ++ [q]) := by
  rw [jc_append] at h
  exact h
theorem OwnJ.grown {w w' : World} {base g : Nat} {v : Value} {n : Nat} {fs : List Jn} (h : OwnJ w base v n fs) (hg : w.grownBy w' (some g)) (hne : g < base) : OwnJ w' base v n fs :=
  World.ownsRow.kept h hg (by
    rcases h.2 with ⟨rfl, _⟩ | ⟨g', cap', cur, rfl, hb, _⟩
    · simp [Value.ownBlock]
    · simp [Value.ownBlock]; omega)
theorem OwnJ.mut {w : World} {base : Nat} {v : Value} {n : Nat} {fs : List Jn} (h : OwnJ w base v n fs) : ∃ v', Mut 35 w base v' n (jc fs) ∧ ∀ a m c, v = .slice a m c → v' = .slice a m m := by
  rcases h.2 with ⟨rfl, rfl⟩ | ⟨g, cap, cur, rfl, hb, hg, hnc, _⟩
  · exact ⟨.slice none 0 0, .inl ⟨rfl, rfl, by have := h.len; rw [List.eq_nil_of_length_eq_zero this]; rfl⟩, fun a m c e => by cases e; rfl⟩
  · exact ⟨.slice (some ⟨g, 0, none⟩) n n, .inr ⟨g, n, rfl, hb, (Blk.of_own h).1⟩, fun a m c e => by cases e; rfl⟩

theorem cell_three_new (w : World) (a b d : Value) (e : TypeId) : ∀ j u, [a, b, d][j]? = some u → (w.alloc (.cells #[a, b, d] e)).cell? ((⟨w.heap.size, 0, none⟩ : Addr).add j) = some u := by
  intro j u hj
  match j, hj with
  | 0, hj => simp at hj; subst hj; simp [Addr.add, go_sem]
  | 1, hj => simp at hj; subst hj; simp [Addr.add, go_sem]
  | 2, hj => simp at hj; subst hj; simp [Addr.add, go_sem]

set_option maxHeartbeats 400000 in
theorem eqJoin_any (a b d : Int) (w : World) :
    Calls Try.prog 50 #[.agg #[.int .i64 a, .int .i64 b, .int .i64 d], .agg #[.int .i64 a, .int .i64 b, .int .i64 d]] w fun e w' => e = .returned (.bool true) ∧ Below w.heap.size w w' := by
  go_enter Try.func50, Try.ntmps50
  go_wp2
  go_ret
  exact ⟨rfl, by (repeat' (first | (with_reducible exact Below.refl _ _) | (with_reducible assumption) | (with_reducible refine Below.drewN ?_ _) | (with_reducible refine Below.alloc ?_ ?_ _) | (with_reducible refine Below.drew ?_) | (with_reducible refine Below.setCell ?_ ?_ _) | (with_reducible refine Below.trans ?_ (Below.mono (by assumption) ?_)) | go_size | (with_reducible refine Nat.le_trans ?_ (Below.size (by assumption)))))⟩

set_option maxHeartbeats 1000000 in
theorem eqJoinS_row (g c g' c' n : Nat) (fs : List Jn) (w : World) (h : Blk w g 35 (jc fs)) (h' : Blk w g' 35 (jc fs)) (hn : fs.length = n) (hl : n ≤ 1048576) :
    Calls Try.prog 24 #[.slice (some ⟨g, 0, none⟩) n c, .slice (some ⟨g', 0, none⟩) n c'] w fun e w' => e = .returned (.bool true) ∧ Below w.heap.size w w' := by
  have H := Lib.hid h
  have H' := Lib.hid h'
  have HN := Lib.hid hn
  clear h h' hn
  go_enter Try.func24, Try.ntmps24
  go_wp2
  go_loopw [5] (fun v5 wr => ∃ k : Nat, k ≤ n ∧ v5 = .int .i64 k ∧ Below w.heap.size w wr) (fun v5 _ => n - (intOf v5).toNat)
  case atStart => exact ⟨0, Nat.zero_le _, rfl, Below.refl _ _⟩
  case round =>
    obtain ⟨k, hk, rfl, hb⟩ := hrel
    by_cases hlt : k < n
    · have hkf : k < fs.length := by rw [HN.out]; exact hlt
      obtain ⟨c1, c2, c3⟩ := (H.out.below hb).jn hkf
      obtain ⟨d1, d2, d3⟩ := (H'.out.below hb).jn hkf
      clear hkf
      have hz := hb.size
      go_wp2
      (refine region_tail 8 (by kernel_rfl) (by kernel_rfl) ?_; simp only [List.take_succ_cons, List.take_zero, List.drop_succ_cons, List.drop_zero]; (repeat (go_big_quiet_step (fail))); refine wpQuiet_nil ?_)
      go_wp2_with (go_at_call 50; refine (eqJoin_any _ _ _ _).mono ?_; rintro e w1 ⟨rfl, hb1⟩)
      go_roundw
      case rel => exact ⟨k + 1, by omega, by go_num, by (repeat' (first | (with_reducible exact Below.refl _ _) | (with_reducible assumption) | (with_reducible refine Below.drewN ?_ _) | (with_reducible refine Below.alloc ?_ ?_ _) | (with_reducible refine Below.drew ?_) | (with_reducible refine Below.setCell ?_ ?_ _) | (with_reducible refine Below.trans ?_ (Below.mono (by assumption) ?_)) | go_size | (with_reducible refine Nat.le_trans ?_ (Below.size (by assumption)))))⟩
      case measure => simp [intOf]; omega
    · go_wp2
      go_ret
      exact ⟨rfl, hb⟩

set_option maxHeartbeats 1000000 in
theorem eqJoinS_nil (a a' : Option Addr) (c c' : Nat) (w : World) :
    Calls Try.prog 24 #[.slice a 0 c, .slice a' 0 c'] w fun e w' => e = .returned (.bool true) ∧ Below w.heap.size w w' := by
  go_enter Try.func24, Try.ntmps24
  go_wp2
  go_rounds 1
  go_ret
  exact ⟨rfl, by (repeat' (first | (with_reducible exact Below.refl _ _) | (with_reducible assumption) | (with_reducible refine Below.drewN ?_ _) | (with_reducible refine Below.alloc ?_ ?_ _) | (with_reducible refine Below.drew ?_) | (with_reducible refine Below.setCell ?_ ?_ _) | (with_reducible refine Below.trans ?_ (Below.mono (by assumption) ?_)) | go_size | (with_reducible refine Nat.le_trans ?_ (Below.size (by assumption)))))⟩

theorem eqJoinS_any (v v' : Value) (B B' n : Nat) (fs : List Jn) (w : World) (h : Mut 35 w B v n (jc fs)) (h' : Mut 35 w B' v' n (jc fs)) (hn : fs.length = n) (hl : n ≤ 1048576) :
    Calls Try.prog 24 #[v, v'] w fun e w' => e = .returned (.bool true) ∧ Below w.heap.size w w' := by
  by_cases h0 : n = 0
  · have e1 : ∃ a c, v = .slice a 0 c := by
      rcases h with ⟨rfl, _, _⟩ | ⟨g, c, rfl, _, _⟩
      · exact ⟨_, _, rfl⟩
      · exact ⟨_, _, by rw [h0]⟩
    have e2 : ∃ a c, v' = .slice a 0 c := by
      rcases h' with ⟨rfl, _, _⟩ | ⟨g, c, rfl, _, _⟩
      · exact ⟨_, _, rfl⟩
      · exact ⟨_, _, by rw [h0]⟩
    obtain ⟨a, c, rfl⟩ := e1
    obtain ⟨a', c', rfl⟩ := e2
    exact eqJoinS_nil _ _ _ _ w
  · rcases h with ⟨_, h1, _⟩ | ⟨g, c, rfl, _, h⟩
    · exact absurd h1 h0
    · rcases h' with ⟨_, h1, _⟩ | ⟨g', c', rfl, _, h'⟩
      · exact absurd h1 h0
      · exact eqJoinS_row g c g' c' n fs w h h' hn hl

set_option maxHeartbeats 1000000 in
theorem markJoinS_row (g c n : Nat) (cs : List Value) (m : Int) (w : World) (h : Blk w g 35 cs) (hl : cs.length = n * 3) (hn : n ≤ 1048576) (hm : 0 ≤ m) (hm2 : m ≤ 1099511627776) :
    Calls Try.prog 27 #[.slice (some ⟨g, 0, none⟩) n c, .int .i64 m] w
      fun e w' => e = .returned (.int .i64 (m + (n * 3 : Nat))) ∧ Blk w' g 35 (mk m (n * 3)) ∧ w.grownBy w' (some g) := by
  have H := Lib.hid h
  clear h
  have HL := Lib.hid hl
  clear hl
  go_enter Try.func27, Try.ntmps27
  go_wp2
  go_loopw [1, 5] (fun v1 v5 wr => ∃ k : Nat, k ≤ n ∧ v5 = .int .i64 k ∧ v1 = .int .i64 (m + (k * 3 : Nat)) ∧ (∃ cs : List Value, cs.length = n * 3 ∧ (∀ j, j < k * 3 → cs[j]? = (mk m (n * 3))[j]?) ∧ Blk wr g 35 cs) ∧ w.grownBy wr (some g)) (fun _ v5 _ => n - (intOf v5).toNat)
  case atStart => exact ⟨0, Nat.zero_le _, rfl, by simp, ⟨cs, HL.out, fun j hj => absurd hj (by omega), H.out⟩, grownBy_refl _ _⟩
  case round =>
    obtain ⟨k, hk, rfl, rfl, ⟨cs, hc1, hc2, hc3⟩, hb⟩ := hrel
    by_cases hlt : k < n
    · obtain ⟨u, hu⟩ : ∃ u, cs[k * 3]? = some u := ⟨cs[k * 3], by rw [List.getElem?_eq_getElem]⟩
      obtain ⟨u2, hu2⟩ : ∃ u, cs[k * 3 + 1]? = some u := ⟨cs[k * 3 + 1], by rw [List.getElem?_eq_getElem]⟩
      obtain ⟨u3, hu3⟩ : ∃ u, cs[k * 3 + 2]? = some u := ⟨cs[k * 3 + 2], by rw [List.getElem?_eq_getElem]⟩
      have c2 := hc3.cell hu
      have c3 := hc3.cell hu2
      have c4 := hc3.cell hu3
      have f2 := hc3.frozen (k * 3)
      have f3 := hc3.frozen (k * 3 + 1)
      have f4 := hc3.frozen (k * 3 + 2)
      have H3 := Lib.hid hc3
      have H1 := Lib.hid hc1
      have H2 := Lib.hid hc2
      clear hc1 hc2 hc3 hu hu2 hu3
      go_wp2
      go_roundw
      case rel =>
        refine ⟨k + 1, by omega, by go_num, by go_num, ⟨((cs.set (k * 3) (.int .i64 (m + (k * 3 : Nat)))).set (k * 3 + 1) (.int .i64 (m + (k * 3 : Nat) + 1))).set (k * 3 + 2) (.int .i64 (m + (k * 3 : Nat) + 1 + 1)), by rw [List.length_set, List.length_set, List.length_set]; exact H1.out, fun j hj => ?_, ?_⟩, grownBy_set (grownBy_set (grownBy_set hb _) _) _⟩
        · have hl1 := H1.out
          by_cases e0 : j = k * 3 + 2
          · subst e0
            rw [get_mk (by omega), List.getElem?_set_self (by rw [List.length_set, List.length_set]; omega)]
            congr 2
            omega
          · rw [List.getElem?_set_ne (fun h => e0 h.symm)]
            by_cases e : j = k * 3 + 1
            · subst e
              rw [get_mk (by omega), List.getElem?_set_self (by rw [List.length_set]; omega)]
              congr 2
              omega
            · rw [List.getElem?_set_ne (fun h => e h.symm)]
              by_cases e2 : j = k * 3
              · subst e2
                rw [get_mk (by omega), List.getElem?_set_self (by omega)]
              · rw [List.getElem?_set_ne (fun h => e2 h.symm)]
                exact H2.out j (by omega)
        · exact ((H3.out.set (k * 3) _).set (k * 3 + 1) _).set (k * 3 + 2) _
      case measure => simp [intOf]; omega
    · have hkn : k = n := by omega
      subst hkn
      have e1 := eq_mk hc1 hc2
      have E1 := Lib.hid e1
      have H3 := Lib.hid hc3
      clear e1 hc1 hc2 hc3
      go_wp2_with fail
      go_ret
      exact ⟨rfl, by rw [← E1.out]; exact H3.out, hb⟩

set_option maxHeartbeats 1000000 in
theorem markJoinS_nil (a : Option Addr) (c : Nat) (m : Int) (w : World) :
    Calls Try.prog 27 #[.slice a 0 c, .int .i64 m] w fun e w' => e = .returned (.int .i64 m) ∧ w' = w := by
  go_enter Try.func27, Try.ntmps27
  go_wp2
  go_rounds 1
  go_ret
  exact ⟨rfl, rfl⟩
theorem markJoinS_mut (lo hi n : Nat) (v : Value) (fs : List Jn) (w : World) (h : MutB 35 w lo hi v n (jc fs)) (hl : fs.length = n) (hn : n ≤ 1048576) :
    Calls Try.prog 27 #[v, .int .i64 1] w fun e w' => e = .returned (.int .i64 (1 + (n * 3 : Nat))) ∧ MutB 35 w' lo hi v n (mk 1 (n * 3)) ∧ Chg lo hi w w' := by
  rcases h with ⟨rfl, rfl, _⟩ | ⟨g, c, rfl, h1, h2, h3⟩
  · exact (markJoinS_nil none 0 1 w).mono fun e w' ⟨he, hw⟩ => ⟨by rw [he]; rfl, .inl ⟨rfl, rfl, rfl⟩, by rw [hw]; exact Chg.refl _ _ _⟩
  · exact (markJoinS_row g c n (jc fs) 1 w h3 (by rw [jc_length, hl]) hn (by omega) (by omega)).mono fun e w' ⟨he, hb, hg⟩ => ⟨he, .inr ⟨g, c, rfl, h1, h2, hb⟩, Chg.of_grown hg h1 h2⟩

set_option maxHeartbeats 1000000 in
theorem heldJoinS_row (g c n : Nat) (m : Int) (w : World) (h : Blk w g 35 (mk m (n * 3))) (hn : n ≤ 1048576) (hm : 0 ≤ m) (hm2 : m ≤ 1099511627776) :
    Calls Try.prog 28 #[.slice (some ⟨g, 0, none⟩) n c, .int .i64 m] w fun e w' => e = .returned (.int .i64 (m + (n * 3 : Nat))) ∧ w' = w := by
  have H := Lib.hid h
  clear h
  go_enter Try.func28, Try.ntmps28
  go_wp2
  go_loop [1, 5] (fun v1 v5 => ∃ k : Nat, k ≤ n ∧ v5 = .int .i64 k ∧ v1 = .int .i64 (m + (k * 3 : Nat))) (fun _ v5 => n - (intOf v5).toNat)
  case atStart => exact ⟨0, Nat.zero_le _, rfl, by simp⟩
  case round =>
    obtain ⟨k, hk, rfl, rfl⟩ := hrel
    by_cases hlt : k < n
    · have c2 := H.out.cell (j := k * 3) (get_mk (by omega))
      have c3 := H.out.cell (j := k * 3 + 1) (get_mk (by omega))
      have c4 := H.out.cell (j := k * 3 + 2) (get_mk (by omega))
      have e1 : (m + ((k * 3 : Nat) : Int) != m + ((k * 3 : Nat) : Int)) = false := by simp
      rw [show m + ((k * 3 + 1 : Nat) : Int) = m + ((k * 3 : Nat) : Int) + 1 from by omega] at c3
      rw [show m + ((k * 3 + 2 : Nat) : Int) = m + ((k * 3 : Nat) : Int) + 1 + 1 from by omega] at c4
      go_wp2
      go_round
      case rel => exact ⟨k + 1, by omega, by go_num, by go_num⟩
      case measure => simp [intOf]; omega
    · have hkn : k = n := by omega
      have HK := Lib.hid hkn
      clear hkn
      go_wp2_with fail
      go_ret
      exact ⟨by rw [← HK.out]; rfl, rfl⟩

set_option maxHeartbeats 1000000 in
theorem heldJoinS_nil (a : Option Addr) (c : Nat) (m : Int) (w : World) :
    Calls Try.prog 28 #[.slice a 0 c, .int .i64 m] w fun e w' => e = .returned (.int .i64 m) ∧ w' = w := by
  go_enter Try.func28, Try.ntmps28
  go_wp2
  go_rounds 1
  go_ret
  exact ⟨rfl, rfl⟩
theorem heldJoinS_mut (lo hi n : Nat) (v : Value) (w : World) (h : MutB 35 w lo hi v n (mk 1 (n * 3))) (hn : n ≤ 1048576) :
    Calls Try.prog 28 #[v, .int .i64 1] w fun e w' => e = .returned (.int .i64 (1 + (n * 3 : Nat))) ∧ w' = w := by
  rcases h with ⟨rfl, rfl, _⟩ | ⟨g, c, rfl, h1, h2, h3⟩
  · exact (heldJoinS_nil none 0 1 w).mono fun e w' ⟨he, hw⟩ => ⟨by rw [he]; rfl, hw⟩
  · exact heldJoinS_row g c n 1 w h3 hn (by omega) (by omega)

end Go.Proofs.Ytclfjnoedcimiaa
