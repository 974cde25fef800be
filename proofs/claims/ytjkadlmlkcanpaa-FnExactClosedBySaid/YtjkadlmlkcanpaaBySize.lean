/- impl.bySize: the indices by size. -/
import Derived.Test.YtjkadlmlkcanpaaSortSize
import Derived.Test.YtjkadlmlkcanpaaKey
namespace Go.Proofs.Ytjkadlmlkcanpaa
open Go.RowKit

set_option maxHeartbeats 400000 in
theorem compare_any (x y : Int) (w : World) : Calls Try.prog 60 #[.int .i64 x, .int .i64 y] w fun e w' => e = .returned (.int .i64 (cmpI x y)) ∧ w = w' := by
  go_enter Try.func60, Try.ntmps60
  by_cases h1 : x < y
  · have t1 : decide (x < y) = true := by simpa using h1
    have e : cmpI x y = -1 := by simp [cmpI, h1]
    rw [e]
    clear h1 e
    go_wp2
    go_ret
    exact ⟨rfl, rfl⟩
  · have t1 : decide (x < y) = false := by simpa using h1
    by_cases h2 : y < x
    · have t2 : decide (y < x) = true := by simpa using h2
      have e : cmpI x y = 1 := by simp [cmpI, h1, h2]
      rw [e]
      clear h1 h2 e
      go_wp2
      go_ret
      exact ⟨rfl, rfl⟩
    · have t2 : decide (y < x) = false := by simpa using h2
      have e : cmpI x y = 0 := by simp [cmpI, h1, h2]
      rw [e]
      clear h1 h2 e
      go_wp2
      go_ret
      exact ⟨rfl, rfl⟩

set_option maxHeartbeats 400000 in
theorem bySizeLit_any (b o c p i j : Nat) (xs : List Int) (w : World) (h : RowI w b o xs) (hp : w.cell? ⟨p, 0, none⟩ = some (.slice (some ⟨b, o, none⟩) xs.length c)) (hi : i < xs.length) (hj : j < xs.length) :
    Calls Try.prog 77 #[.int .i64 i, .int .i64 j, .pointer (some ⟨p, 0, none⟩)] w fun e w' => e = .returned (.int .i64 (cmpI (gi xs i) (gi xs j))) ∧ ∃ m, w' = w.drewN m := by
  have c1 := h.cell i hi
  have c2 := h.cell j hj
  have q1 : (i : Int) < (xs.length : Int) := by omega
  have q2 : (j : Int) < (xs.length : Int) := by omega
  clear h
  go_enter Try.func77, Try.ntmps77
  go_wp2_with fail
  go_quiet ((go_at_call 60; exact quiet_same (compare_any _ _ _)))
  go_wp2_with fail
  go_ret
  exact ⟨rfl, _, rfl⟩

theorem get_tlI : ∀ (m i j : Nat), j < m → (tlI i m)[j]? = some ((i + j : Nat) : Int)
  | 0, _, _, h => absurd h (Nat.not_lt_zero _)
  | m + 1, i, 0, _ => by simp [tlI]
  | m + 1, i, j + 1, h => by
    have := get_tlI m (i + 1) j (by omega)
    simp only [tlI, List.getElem?_cons_succ, this]
    congr 1
    congr 1
    omega
theorem ic_tlI {cs : List Value} {n : Nat} (h1 : cs.length = n) (h2 : ∀ j, j < n → cs[j]? = some (.int .i64 (j : Int))) : cs = ic (tlI 0 n) := by
  apply List.ext_getElem?
  intro j
  by_cases hj : j < n
  · rw [h2 j hj]
    unfold ic
    rw [List.getElem?_map, get_tlI n 0 j hj]
    simp
  · rw [List.getElem?_eq_none (by omega), List.getElem?_eq_none (by rw [ic_length, tlI_length]; omega)]

set_option maxHeartbeats 4000000 in
theorem bySize_any (b o c : Nat) (xs : List Int) (w : World) (h : RowI w b o xs) (hl : xs.length ≤ 19) (hn0 : 1 ≤ xs.length) :
    Calls Try.prog 44 #[.slice (some ⟨b, o, none⟩) xs.length c] w
      fun e w' => ∃ g cap, e = .returned (.slice (some ⟨g, 0, none⟩) xs.length cap) ∧ w.heap.size ≤ g ∧ Blk w' g 3 (ic (ordK (keyOf xs) xs.length)) ∧ Below w.heap.size w w' := by
  have H := Lib.hid h
  have hbw := h.blk
  obtain ⟨i0, hi, hz0, hz1, hz2⟩ := info_parts infoI
  clear h
  go_enter Try.func44, Try.ntmps44
  go_wp2_with (at_make; refine wpList_make_full _ rfl _ _ 22 rfl w.heap.size 3 i0 (.int .i64 0) 1 Try.underlying22 hi hz0 hz1 .i64 .i64 _ _ xs.length rfl rfl rfl rfl (by rw [hz2]; omega) (by unfold maxLen; omega) (by simp) ?_; intro w2 o2 g2)
  obtain ⟨cs0, hcs0⟩ : ∃ cs, (madeCells (Value.int .i64 0).cells (xs.length * 1)).toList = cs := ⟨_, rfl⟩
  have hcl : cs0.length = xs.length := by rw [← hcs0, Array.length_toList, size_madeCells, Nat.mul_one]
  have hbk := (Blk.of_own o2).1
  rw [hcs0] at hbk
  have hbw1 : (w.alloc (.cells #[.slice (some ⟨b, o, none⟩) xs.length c] 22)).heap.size = w.heap.size + 1 := by simp
  have hp2 : w2.cell? ⟨w.heap.size, 0, none⟩ = some (.slice (some ⟨b, o, none⟩) xs.length c) := by
    have b1 : Below (w.alloc (.cells #[.slice (some ⟨b, o, none⟩) xs.length c] 22)).heap.size (w.alloc (.cells #[.slice (some ⟨b, o, none⟩) xs.length c] 22)) w2 := (Below.refl _ _).grown g2 (Nat.le_refl _) (fun k hk => by cases hk)
    exact keepC b1 (by simp [go_sem])
  have hb2 : Below w.heap.size w w2 := (below_alloc (W := w) (o := .cells #[.slice (some ⟨b, o, none⟩) xs.length c] 22)).grown g2 (by simp) (fun k hk => by cases hk)
  rw [hbw1] at hbk
  have HBK := Lib.hid hbk
  have HP2 := Lib.hid hp2
  have HB2 := Lib.hid hb2
  have HCL := Lib.hid hcl
  clear o2 g2 hbk hp2 hb2 hcl hcs0 hbw1 hi hz0 hz1 hz2
  go_loopw [10] (fun v10 wr => ∃ k : Nat, k ≤ xs.length ∧ v10 = .int .i64 k ∧ (∃ cs : List Value, cs.length = xs.length ∧ (∀ j, j < k → cs[j]? = some (.int .i64 (j : Int))) ∧ Blk wr (w.heap.size + 1) 3 cs) ∧ wr.cell? ⟨w.heap.size, 0, none⟩ = some (.slice (some ⟨b, o, none⟩) xs.length c) ∧ Below w.heap.size w wr)
    (fun v10 _ => xs.length - (intOf v10).toNat)
  case atStart => exact ⟨0, Nat.zero_le _, rfl, ⟨cs0, HCL.out, fun j hj => absurd hj (Nat.not_lt_zero _), HBK.out⟩, HP2.out, HB2.out⟩
  case round =>
    clear HBK HP2 HB2 HCL
    obtain ⟨k, hk, rfl, ⟨cs, hc1, hc2, hc3⟩, hp, hb⟩ := hrel
    have H1 := Lib.hid hc1
    have H2 := Lib.hid hc2
    have H3 := Lib.hid hc3
    have HP := Lib.hid hp
    have HB := Lib.hid hb
    have l3 := hc3.lt
    by_cases hlt : k < xs.length
    · obtain ⟨u, hu⟩ : ∃ u, cs[k]? = some u := ⟨cs[k]'(by omega), List.getElem?_eq_getElem _⟩
      have x1 := hc3.cell hu
      have f1 := hc3.frozen k
      clear hc1 hc2 hc3 hu hp hb
      go_wp2_with fail
      go_roundw
      case rel =>
        have hl := H1.out
        refine ⟨k + 1, by omega, by go_num, ⟨cs.set k (.int .i64 (k : Int)), by rw [List.length_set]; exact hl, fun j hj => ?_, H3.out.set _ _⟩, ?_, HB.out.setCell (by simp) _⟩
        · by_cases e : j = k
          · subst e; rw [List.getElem?_set_self (by omega)]
          · rw [List.getElem?_set_ne (fun h => e h.symm)]; exact H2.out j (by omega)
        · rw [World.cell?_of_block (a := ⟨w.heap.size, 0, none⟩) (Below.heap_setCell wr ⟨w.heap.size + 1, k, none⟩ _ w.heap.size (by simp))]
          exact HP.out
      case measure => simp [intOf]; omega
    · have hkn : k = xs.length := by omega
      have hcs : cs = ic (tlI 0 xs.length) := ic_tlI hc1 (fun j hj => hc2 j (by omega))
      rw [hcs] at hc3
      have hcmp : CmpBySize wr (w.heap.size + 1) w.heap.size xs.length (keyOf xs) := fun w' hg i j hi hj => by
        have hc' : w'.cell? ⟨w.heap.size, 0, none⟩ = some (.slice (some ⟨b, o, none⟩) xs.length c) := by
          rw [World.cell?_of_block (a := ⟨w.heap.size, 0, none⟩) (hg.block w.heap.size (by omega) (fun e => by have := Option.some.inj e; omega))]
          exact HP.out
        have hr' : RowI w' b o xs := by
          have hr := H.out.below HB.out
          exact ⟨Nat.lt_of_lt_of_le hr.blk hg.size, fun k hk => by
            rw [World.cell?_of_block (a := ⟨b, o + k, none⟩) (hg.block b hr.blk (fun e => by have := Option.some.inj e; omega))]
            exact hr.cell k hk⟩
        exact bySizeLit_any b o c w.heap.size i j xs w' hr' hc' hi hj
      have HS := Lib.hid (sortStableSize (w.heap.size + 1) xs.length xs.length w.heap.size (keyOf xs) wr hc3 hl hn0 hcmp)
      clear hc1 hc2 hc3 hcs hcmp hkn hp hb H1 H2 H3
      go_wp2_with (go_at_call 58; refine HS.out.mono ?_; rintro e w5 ⟨rfl, hb5, hg5⟩)
      go_ret
      exact ⟨_, _, rfl, by omega, hb5, HB.out.grown hg5 HB.out.size (fun k hk => by cases hk; omega)⟩

end Go.Proofs.Ytjkadlmlkcanpaa
