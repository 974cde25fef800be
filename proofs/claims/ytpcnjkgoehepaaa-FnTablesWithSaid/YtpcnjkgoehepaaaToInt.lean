/- The laws' own functions on lists of integers: copies, tests, marks. -/
import Derived.Test.YtpcnjkgoehepaaaBlk
import Derived.Test.YtpcnjkgoehepaaaList
import Derived.Deep.OwnRows
namespace Go.Proofs.Ytpcnjkgoehepaaa
open Go.RowKit

theorem infoI : (Try.prog.info? 3).map (fun i => (i.zero, i.size, i.bytes)) = some (some (.int .i64 0), 1, 8) := by kernel_rfl

set_option maxHeartbeats 1000000 in
theorem toIntS_row (b o c : Nat) (xs : List Int) (w : World) (h : RowI w b o xs) (hl : xs.length ≤ 1048576) :
    Calls Try.prog 12 #[.slice (some ⟨b, o, none⟩) xs.length c] w
      fun e w' => e = .returned (.slice (some ⟨w.heap.size, 0, none⟩) xs.length xs.length) ∧ Blk w' w.heap.size 3 (ic xs) ∧ Below w.heap.size w w' := by
  have hbl := h.blk
  have H := Lib.hid h
  clear h
  have hmk := run_make_row' (P := Try.prog) 23 3 (.int .i64 0) 8 Try.underlying23 infoI rfl .i64 .i64 xs.length (by omega) (by omega)
  go_enter Try.func12, Try.ntmps12
  go_wp2
  go_loopw [4] (fun v4 wr => ∃ k : Nat, k ≤ xs.length ∧ v4 = .int .i64 k ∧ (∃ cs : List Value, cs.length = xs.length ∧ (∀ j, j < k → cs[j]? = (ic xs)[j]?) ∧ Blk wr w.heap.size 3 cs) ∧ Below w.heap.size w wr)
    (fun v4 _ => xs.length - (intOf v4).toNat)
  case atStart => exact ⟨0, Nat.zero_le _, rfl, ⟨_, by rw [Array.length_toList, size_madeCells], fun j hj => absurd hj (Nat.not_lt_zero _), Blk.made _ _ _⟩, by (repeat' (first | (with_reducible exact Below.refl _ _) | (with_reducible assumption) | (with_reducible refine Below.drewN ?_ _) | (with_reducible refine Below.alloc ?_ ?_ _) | (with_reducible refine Below.drew ?_) | (with_reducible refine Below.setCell ?_ ?_ _) | (with_reducible refine Below.trans ?_ (Below.mono (by assumption) ?_)) | go_size | (with_reducible refine Nat.le_trans ?_ (Below.size (by assumption)))))⟩
  case round =>
    obtain ⟨k, hk, rfl, ⟨cs, hc1, hc2, hc3⟩, hb⟩ := hrel
    by_cases hlt : k < xs.length
    · have c1 := (H.out.below hb).cell k hlt
      obtain ⟨u, hu⟩ : ∃ u, cs[k]? = some u := ⟨cs[k], by simp [hc1, hlt]⟩
      have c2 := hc3.cell hu
      have f2 := hc3.frozen k
      have hne : ¬ b = w.heap.size := by omega
      have H2 := Lib.hid hc2
      have H3 := Lib.hid hc3
      have H1 := Lib.hid hc1
      clear hc1 hc2 hc3 hu
      go_wp2
      go_roundw
      case rel =>
        refine ⟨k + 1, by omega, by go_num, ⟨cs.set k (.int .i64 (gi xs k)), by rw [List.length_set]; exact H1.out, fun j hj => ?_, H3.out.set k _⟩, hb.setCell (Nat.le_refl _) _⟩
        by_cases e : j = k
        · subst e; rw [get_ic hlt]; have := H1.out; simp [this, hlt]
        · rw [List.getElem?_set_ne (fun h => e h.symm)]; exact H2.out j (by omega)
      case measure => simp [intOf]; omega
    · have hkl : k = xs.length := by omega
      have e1 : cs = ic xs := by
        apply List.ext_getElem?
        intro j
        by_cases hj : j < k
        · exact hc2 j hj
        · rw [List.getElem?_eq_none (by omega), List.getElem?_eq_none (by rw [ic_length]; omega)]
      have H3 := Lib.hid hc3
      have E1 := Lib.hid e1
      clear hc1 hc2 hc3 e1 hkl
      go_wp2_with fail
      go_ret
      exact ⟨rfl, by rw [← E1.out]; exact H3.out, hb⟩

set_option maxHeartbeats 1000000 in
theorem toIntS_nil (a : Option Addr) (c : Nat) (w : World) :
    Calls Try.prog 12 #[.slice a 0 c] w
      fun e w' => e = .returned (.slice (some ⟨w.heap.size, 0, none⟩) 0 0) ∧ Blk w' w.heap.size 3 (ic []) ∧ Below w.heap.size w w' := by
  have hmk : ∀ w, (Instr.makeSlice 23 (.int .i64 0) (.int .i64 0)).run Try.prog w = .ok (.slice (some ⟨w.heap.size, 0, none⟩) 0 0) (w.alloc (.cells #[] 3)) := fun _ => by kernel_rfl
  go_enter Try.func12, Try.ntmps12
  go_wp2
  go_rounds 1
  go_ret
  exact ⟨rfl, by exact ⟨_, heap_alloc_new w _, by simp [ic]⟩, by (repeat' (first | (with_reducible exact Below.refl _ _) | (with_reducible assumption) | (with_reducible refine Below.drewN ?_ _) | (with_reducible refine Below.alloc ?_ ?_ _) | (with_reducible refine Below.drew ?_) | (with_reducible refine Below.setCell ?_ ?_ _) | (with_reducible refine Below.trans ?_ (Below.mono (by assumption) ?_)) | go_size | (with_reducible refine Nat.le_trans ?_ (Below.size (by assumption)))))⟩

theorem toIntS_any (v : Value) (xs : List Int) (w : World) (h : ArgI w v xs) (hl : xs.length ≤ 1048576) :
    Calls Try.prog 12 #[v] w
      fun e w' => e = .returned (.slice (some ⟨w.heap.size, 0, none⟩) xs.length xs.length) ∧ Blk w' w.heap.size 3 (ic xs) ∧ Below w.heap.size w w' := by
  rcases h with ⟨a, c, rfl, rfl⟩ | ⟨b, o, c, rfl, h⟩
  · exact toIntS_nil a c w
  · exact toIntS_row b o c xs w h hl

set_option maxHeartbeats 1000000 in
theorem eqIntS_row (b o c b' o' c' : Nat) (xs : List Int) (w : World) (h : RowI w b o xs) (h' : RowI w b' o' xs) (hl : xs.length ≤ 1048576) :
    Calls Try.prog 14 #[.slice (some ⟨b, o, none⟩) xs.length c, .slice (some ⟨b', o', none⟩) xs.length c'] w fun e w' => e = .returned (.bool true) ∧ Below w.heap.size w w' := by
  have H := Lib.hid h
  have H' := Lib.hid h'
  clear h h'
  go_enter Try.func14, Try.ntmps14
  go_wp2
  go_loopw [5] (fun v5 wr => ∃ k : Nat, k ≤ xs.length ∧ v5 = .int .i64 k ∧ ∃ n, wr = w.drewN n) (fun v5 _ => xs.length - (intOf v5).toNat)
  case atStart => exact ⟨0, Nat.zero_le _, rfl, 0, rfl⟩
  case round =>
    obtain ⟨k, hk, rfl, n, rfl⟩ := hrel
    by_cases hlt : k < xs.length
    · have c1 := H.out.cell k hlt
      have c2 := H'.out.cell k hlt
      go_wp2
      go_quiet (fail)
      go_wp2
      go_roundw
      case rel => exact ⟨k + 1, by omega, by go_num, n + nq, by simp⟩
      case measure => simp [intOf]; omega
    · go_wp2
      go_ret
      exact ⟨rfl, by (repeat' (first | (with_reducible exact Below.refl _ _) | (with_reducible assumption) | (with_reducible refine Below.drewN ?_ _) | (with_reducible refine Below.alloc ?_ ?_ _) | (with_reducible refine Below.drew ?_) | (with_reducible refine Below.setCell ?_ ?_ _) | (with_reducible refine Below.trans ?_ (Below.mono (by assumption) ?_)) | go_size | (with_reducible refine Nat.le_trans ?_ (Below.size (by assumption)))))⟩

set_option maxHeartbeats 1000000 in
theorem eqIntS_nil (a a' : Option Addr) (c c' : Nat) (w : World) :
    Calls Try.prog 14 #[.slice a 0 c, .slice a' 0 c'] w fun e w' => e = .returned (.bool true) ∧ Below w.heap.size w w' := by
  go_enter Try.func14, Try.ntmps14
  go_wp2
  go_rounds 1
  go_ret
  exact ⟨rfl, by (repeat' (first | (with_reducible exact Below.refl _ _) | (with_reducible assumption) | (with_reducible refine Below.drewN ?_ _) | (with_reducible refine Below.alloc ?_ ?_ _) | (with_reducible refine Below.drew ?_) | (with_reducible refine Below.setCell ?_ ?_ _) | (with_reducible refine Below.trans ?_ (Below.mono (by assumption) ?_)) | go_size | (with_reducible refine Nat.le_trans ?_ (Below.size (by assumption)))))⟩

theorem eqIntS_any (v v' : Value) (xs : List Int) (w : World) (h : ArgI w v xs) (h' : ArgI w v' xs) (hl : xs.length ≤ 1048576) :
    Calls Try.prog 14 #[v, v'] w fun e w' => e = .returned (.bool true) ∧ Below w.heap.size w w' := by
  rcases h with ⟨a, c, rfl, rfl⟩ | ⟨b, o, c, rfl, h⟩
  · rcases h' with ⟨a', c', rfl, _⟩ | ⟨b', o', c', rfl, h'⟩
    · exact eqIntS_nil a a' c c' w
    · exact eqIntS_nil a _ c c' w
  · rcases h' with ⟨a', c', rfl, rfl⟩ | ⟨b', o', c', rfl, h'⟩
    · exact eqIntS_nil _ a' c c' w
    · exact eqIntS_row b o c b' o' c' xs w h h' hl

set_option maxHeartbeats 1000000 in
theorem markIntS_any (g c n : Nat) (cs : List Value) (m : Int) (w : World) (h : Blk w g 3 cs) (hl : cs.length = n) (hn : n ≤ 1048576) (hm : 0 ≤ m) (hm2 : m ≤ 1099511627776) :
    Calls Try.prog 15 #[.slice (some ⟨g, 0, none⟩) n c, .int .i64 m] w fun e w' => e = .returned (.int .i64 (m + n)) ∧ w.grownBy w' (some g) := by
  have H := Lib.hid h
  clear h
  have HL := Lib.hid hl
  clear hl
  go_enter Try.func15, Try.ntmps15
  go_wp2
  go_loopw [1, 5] (fun v1 v5 wr => ∃ k : Nat, k ≤ n ∧ v5 = .int .i64 k ∧ v1 = .int .i64 (m + k) ∧ (∃ cs : List Value, cs.length = n ∧ Blk wr g 3 cs) ∧ w.grownBy wr (some g)) (fun _ v5 _ => n - (intOf v5).toNat)
  case atStart => exact ⟨0, Nat.zero_le _, rfl, by simp, ⟨cs, HL.out, H.out⟩, grownBy_refl _ _⟩
  case round =>
    obtain ⟨k, hk, rfl, rfl, ⟨cs, hc1, hc3⟩, hb⟩ := hrel
    by_cases hlt : k < n
    · obtain ⟨u, hu⟩ : ∃ u, cs[k]? = some u := ⟨cs[k], by simp [hc1, hlt]⟩
      have c2 := hc3.cell hu
      have f2 := hc3.frozen k
      have H3 := Lib.hid hc3
      have H1 := Lib.hid hc1
      clear hc1 hc3 hu
      go_wp2
      go_roundw
      case rel => exact ⟨k + 1, by omega, by go_num, by go_num, ⟨cs.set k _, by rw [List.length_set]; exact H1.out, H3.out.set k _⟩, grownBy_set hb _⟩
      case measure => simp [intOf]; omega
    · have hkn : k = n := by omega
      have HK := Lib.hid hkn
      clear hkn hc1
      go_wp2_with fail
      go_ret
      exact ⟨by rw [← HK.out]; rfl, hb⟩

end Go.Proofs.Ytpcnjkgoehepaaa
