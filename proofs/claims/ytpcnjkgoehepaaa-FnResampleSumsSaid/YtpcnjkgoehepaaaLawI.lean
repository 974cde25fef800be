/- What a law's own steps change in memory; the rows that came in; marks in rows of integers. -/
import Derived.Test.YtpcnjkgoehepaaaToInt
namespace Go.Proofs.Ytpcnjkgoehepaaa
open Go.RowKit

/-- Of the blocks that were there only some from lo on and below hi have changed. -/
structure Chg (lo hi : Nat) (w w' : World) : Prop where
  os : w'.os = w.os
  tape : w'.tape = w.tape
  output : w'.output = w.output
  size : w.heap.size ≤ w'.heap.size
  block : ∀ k, k < w.heap.size → k < lo ∨ hi ≤ k → w'.heap[k]? = w.heap[k]?
theorem Chg.refl (lo hi : Nat) (w : World) : Chg lo hi w w := ⟨rfl, rfl, rfl, Nat.le_refl _, fun _ _ _ => rfl⟩
theorem Chg.of_grown {lo hi g : Nat} {w w' : World} (h : w.grownBy w' (some g)) (h1 : lo ≤ g) (h2 : g < hi) : Chg lo hi w w' :=
  ⟨h.os, h.tape, h.output, h.size, fun k hk hne => h.block k hk (fun e => by have := Option.some.inj e; omega)⟩
theorem Chg.below {lo hi B : Nat} {w w' : World} (h : Chg lo hi w w') (h1 : B ≤ lo) (h2 : B ≤ w.heap.size) : Below B w w' :=
  ⟨h.os, h.tape, h.output, h.size, fun k hk => h.block k (by omega) (Or.inl (by omega))⟩

/-- A slice that the call has made (or nil), of n elements: its cells; its block is one from lo on and below hi. -/
def MutB (e : TypeId) (w : World) (lo hi : Nat) (v : Value) (n : Nat) (cs : List Value) : Prop :=
  (v = .slice none 0 0 ∧ n = 0 ∧ cs = []) ∨ ∃ g cap, v = .slice (some ⟨g, 0, none⟩) n cap ∧ lo ≤ g ∧ g < hi ∧ Blk w g e cs
theorem MutB.of {e : TypeId} {w : World} {base : Nat} {v : Value} {n : Nat} {cs : List Value} (h : Mut e w base v n cs) : MutB e w base w.heap.size v n cs := by
  rcases h with h | ⟨g, cap, h1, h2, h3⟩
  · exact .inl h
  · exact .inr ⟨g, cap, h1, h2, h3.lt, h3⟩
theorem MutB.mut {e : TypeId} {w : World} {lo hi : Nat} {v : Value} {n : Nat} {cs : List Value} (h : MutB e w lo hi v n cs) : Mut e w lo v n cs := by
  rcases h with h | ⟨g, cap, h1, h2, _, h3⟩
  · exact .inl h
  · exact .inr ⟨g, cap, h1, h2, h3⟩
theorem MutB.below {e : TypeId} {w w' : World} {lo hi : Nat} {v : Value} {n : Nat} {cs : List Value} (h : MutB e w lo hi v n cs) (hb : Below w.heap.size w w') : MutB e w' lo hi v n cs := by
  rcases h with h | ⟨g, cap, h1, h2, h3, h4⟩
  · exact .inl h
  · exact .inr ⟨g, cap, h1, h2, h3, h4.below hb⟩
theorem MutB.chg {e : TypeId} {w w' : World} {lo hi lo' hi' : Nat} {v : Value} {n : Nat} {cs : List Value} (h : MutB e w lo hi v n cs) (hb : Chg lo' hi' w w') (hd : hi ≤ lo' ∨ hi' ≤ lo) : MutB e w' lo hi v n cs := by
  rcases h with h | ⟨g, cap, h1, h2, h3, h4⟩
  · exact .inl h
  · exact .inr ⟨g, cap, h1, h2, h3, h4.of_eq (hb.block g h4.lt (by omega))⟩
theorem Blk.chg {e : TypeId} {w w' : World} {lo hi g : Nat} {cs : List Value} (h : Blk w g e cs) (hb : Chg lo hi w w') (hd : g < lo ∨ hi ≤ g) : Blk w' g e cs := h.of_eq (hb.block g h.lt hd)

/-- Marks: numbers from m on. -/
def mk (m : Int) (n : Nat) : List Value := (List.range n).map fun j : Nat => .int .i64 (m + (j : Int))
theorem mk_length (m : Int) (n : Nat) : (mk m n).length = n := by simp [mk]
theorem get_mk {m : Int} {n j : Nat} (h : j < n) : (mk m n)[j]? = some (.int .i64 (m + j)) := by simp [mk, h]
theorem eq_mk {cs : List Value} {m : Int} {n : Nat} (h1 : cs.length = n) (h2 : ∀ j, j < n → cs[j]? = (mk m n)[j]?) : cs = mk m n := by
  apply List.ext_getElem?
  intro j
  by_cases hj : j < n
  · exact h2 j hj
  · rw [List.getElem?_eq_none (by omega), List.getElem?_eq_none (by rw [mk_length]; omega)]

set_option maxHeartbeats 1000000 in
theorem markIntS_row (g c n : Nat) (cs : List Value) (m : Int) (w : World) (h : Blk w g 3 cs) (hl : cs.length = n) (hn : n ≤ 1048576) (hm : 0 ≤ m) (hm2 : m ≤ 1099511627776) :
    Calls Try.prog 15 #[.slice (some ⟨g, 0, none⟩) n c, .int .i64 m] w fun e w' => e = .returned (.int .i64 (m + n)) ∧ Blk w' g 3 (mk m n) ∧ w.grownBy w' (some g) := by
  have H := Lib.hid h
  clear h
  have HL := Lib.hid hl
  clear hl
  go_enter Try.func15, Try.ntmps15
  go_wp2
  go_loopw [1, 5] (fun v1 v5 wr => ∃ k : Nat, k ≤ n ∧ v5 = .int .i64 k ∧ v1 = .int .i64 (m + k) ∧ (∃ cs : List Value, cs.length = n ∧ (∀ j, j < k → cs[j]? = (mk m n)[j]?) ∧ Blk wr g 3 cs) ∧ w.grownBy wr (some g)) (fun _ v5 _ => n - (intOf v5).toNat)
  case atStart => exact ⟨0, Nat.zero_le _, rfl, by simp, ⟨cs, HL.out, fun j hj => absurd hj (by omega), H.out⟩, grownBy_refl _ _⟩
  case round =>
    obtain ⟨k, hk, rfl, rfl, ⟨cs, hc1, hc2, hc3⟩, hb⟩ := hrel
    by_cases hlt : k < n
    · obtain ⟨u, hu⟩ : ∃ u, cs[k]? = some u := ⟨cs[k], by simp [hc1, hlt]⟩
      have c2 := hc3.cell hu
      have f2 := hc3.frozen k
      have H3 := Lib.hid hc3
      have H1 := Lib.hid hc1
      have H2 := Lib.hid hc2
      clear hc1 hc2 hc3 hu
      go_wp2
      go_roundw
      case rel =>
        refine ⟨k + 1, by omega, by go_num, by go_num, ⟨cs.set k (.int .i64 (m + (k : Int))), by rw [List.length_set]; exact H1.out, fun j hj => ?_, H3.out.set k _⟩, grownBy_set hb _⟩
        have hl1 := H1.out
        by_cases e : j = k
        · subst e
          rw [get_mk (by omega), List.getElem?_set_self (by omega)]
        · rw [List.getElem?_set_ne (fun h => e h.symm)]
          exact H2.out j (by omega)
      case measure => simp [intOf]; omega
    · have hkn : k = n := by omega
      subst hkn
      have e1 := eq_mk hc1 hc2
      have E1 := Lib.hid e1
      have H3 := Lib.hid hc3
      clear e1 hc1 hc2 hc3
      go_wp2_with fail
      go_ret
      exact ⟨rfl, by rw [← E1.out]; exact H3.out, hb⟩

set_option maxHeartbeats 1000000 in
theorem markIntS_nil (a : Option Addr) (c : Nat) (m : Int) (w : World) :
    Calls Try.prog 15 #[.slice a 0 c, .int .i64 m] w fun e w' => e = .returned (.int .i64 m) ∧ w' = w := by
  go_enter Try.func15, Try.ntmps15
  go_wp2
  go_rounds 1
  go_ret
  exact ⟨rfl, rfl⟩
theorem markIntS_mut (lo hi n : Nat) (v : Value) (cs : List Value) (w : World) (h : MutB 3 w lo hi v n cs) (hl : cs.length = n) (hn : n ≤ 1048576) :
    Calls Try.prog 15 #[v, .int .i64 1] w fun e w' => e = .returned (.int .i64 (1 + (n : Nat))) ∧ MutB 3 w' lo hi v n (mk 1 n) ∧ Chg lo hi w w' := by
  rcases h with ⟨rfl, rfl, _⟩ | ⟨g, c, rfl, h1, h2, h3⟩
  · exact (markIntS_nil none 0 1 w).mono fun e w' ⟨he, hw⟩ => ⟨by rw [he]; rfl, .inl ⟨rfl, rfl, rfl⟩, by rw [hw]; exact Chg.refl _ _ _⟩
  · exact (markIntS_row g c n cs 1 w h3 hl hn (by omega) (by omega)).mono fun e w' ⟨he, hb, hg⟩ => ⟨he, .inr ⟨g, c, rfl, h1, h2, hb⟩, Chg.of_grown hg h1 h2⟩

set_option maxHeartbeats 1000000 in
theorem heldIntS_row (g c n : Nat) (m : Int) (w : World) (h : Blk w g 3 (mk m n)) (hn : n ≤ 1048576) (hm : 0 ≤ m) (hm2 : m ≤ 1099511627776) :
    Calls Try.prog 16 #[.slice (some ⟨g, 0, none⟩) n c, .int .i64 m] w fun e w' => e = .returned (.int .i64 (m + (n : Nat))) ∧ w' = w := by
  have H := Lib.hid h
  clear h
  go_enter Try.func16, Try.ntmps16
  go_wp2
  go_loop [1, 5] (fun v1 v5 => ∃ k : Nat, k ≤ n ∧ v5 = .int .i64 k ∧ v1 = .int .i64 (m + (k : Nat))) (fun _ v5 => n - (intOf v5).toNat)
  case atStart => exact ⟨0, Nat.zero_le _, rfl, by simp⟩
  case round =>
    obtain ⟨k, hk, rfl, rfl⟩ := hrel
    by_cases hlt : k < n
    · have c2 := H.out.cell (j := k) (get_mk (by omega))
      have e1 : (m + (k : Int) != m + (k : Int)) = false := by simp
      go_wp2
      go_round
      case rel => exact ⟨k + 1, by omega, by go_num, by go_num⟩
      case measure => simp [intOf]; omega
    · have hkn : k = n := by omega
      have HK := Lib.hid hkn
      clear hkn
      go_wp2_with fail
      go_ret
      exact ⟨by rw [← HK.out]; rfl, rfl⟩

set_option maxHeartbeats 1000000 in
theorem heldIntS_nil (a : Option Addr) (c : Nat) (m : Int) (w : World) :
    Calls Try.prog 16 #[.slice a 0 c, .int .i64 m] w fun e w' => e = .returned (.int .i64 m) ∧ w' = w := by
  go_enter Try.func16, Try.ntmps16
  go_wp2
  go_rounds 1
  go_ret
  exact ⟨rfl, rfl⟩
theorem heldIntS_mut (lo hi n : Nat) (v : Value) (w : World) (h : MutB 3 w lo hi v n (mk 1 n)) (hn : n ≤ 1048576) :
    Calls Try.prog 16 #[v, .int .i64 1] w fun e w' => e = .returned (.int .i64 (1 + (n : Nat))) ∧ w' = w := by
  rcases h with ⟨rfl, rfl, _⟩ | ⟨g, c, rfl, h1, h2, h3⟩
  · exact (heldIntS_nil none 0 1 w).mono fun e w' ⟨he, hw⟩ => ⟨by rw [he]; rfl, hw⟩
  · exact heldIntS_row g c n 1 w h3 hn (by omega) (by omega)

end Go.Proofs.Ytpcnjkgoehepaaa
