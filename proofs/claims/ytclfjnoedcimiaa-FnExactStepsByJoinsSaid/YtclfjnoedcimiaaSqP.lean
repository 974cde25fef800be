/- A square of numbers of the call's own: rows that lie apart. -/
import Derived.Test.YtclfjnoedcimiaaReachI
import Derived.Test.YtclfjnoedcimiaaMatM
namespace Go.Proofs.Ytclfjnoedcimiaa
open Go.RowKit

def mkM (M : Nat → Nat → Int) (n : Nat) : List (List Int) := (List.range n).map fun i => tabI (M i) n
theorem mkM_length (M : Nat → Nat → Int) (n : Nat) : (mkM M n).length = n := by simp [mkM]
theorem gl_mkM {M : Nat → Nat → Int} {n j : Nat} (h : j < n) : gl (mkM M n) j = tabI (M j) n := by simp [mkM, gl, h]
theorem mkM_congr {M M' : Nat → Nat → Int} {n : Nat} (h : ∀ a b, a < n → b < n → M a b = M' a b) : mkM M n = mkM M' n := by
  unfold mkM
  refine List.map_congr_left fun i hi => ?_
  rw [List.mem_range] at hi
  exact tabI_congr fun j hj => h i j hi hj
def upM (M : Nat → Nat → Int) (i k : Nat) (v : Int) : Nat → Nat → Int := fun a b => if a = i ∧ b = k then v else M a b
/-- The square M. -/
def Sq (w : World) (lo hi g : Nat) (H : Nat → Nat) (n : Nat) (M : Nat → Nat → Int) : Prop := MatD w lo hi g H (mkM M n)
theorem Sq.below {w w' : World} {lo hi g n : Nat} {H : Nat → Nat} {M : Nat → Nat → Int} (h : Sq w lo hi g H n M) (hb : Below w.heap.size w w') : Sq w' lo hi g H n M := MatD.below h hb
theorem Sq.congr {w : World} {lo hi g n : Nat} {H : Nat → Nat} {M M' : Nat → Nat → Int} (h : Sq w lo hi g H n M) (e : ∀ a b, a < n → b < n → M a b = M' a b) : Sq w lo hi g H n M' := by
  unfold Sq at *
  rw [← mkM_congr e]
  exact h
theorem Sq.head {w : World} {lo hi g n : Nat} {H : Nat → Nat} {M : Nat → Nat → Int} (h : Sq w lo hi g H n M) {i : Nat} (hi' : i < n) : w.cell? ⟨g, i, none⟩ = some (.slice (some ⟨H i, 0, none⟩) n n) := by
  have := (h.mat.row (j := i) (by rw [mkM_length]; exact hi')).1
  rw [gl_mkM hi', tabI_length] at this
  exact this
theorem Sq.rowB {w : World} {lo hi g n : Nat} {H : Nat → Nat} {M : Nat → Nat → Int} (h : Sq w lo hi g H n M) {i : Nat} (hi' : i < n) : Blk w (H i) 3 (ic (tabI (M i) n)) := by
  have := h.mat.2 i (by rw [mkM_length]; exact hi')
  rw [gl_mkM hi'] at this
  exact this
theorem Sq.cell {w : World} {lo hi g n : Nat} {H : Nat → Nat} {M : Nat → Nat → Int} (h : Sq w lo hi g H n M) {i k : Nat} (hi' : i < n) (hk : k < n) : w.cell? ⟨H i, k, none⟩ = some (.int .i64 (M i k)) := by
  have := (h.rowB hi').cell (get_ic (xs := tabI (M i) n) (k := k) (by rw [tabI_length]; exact hk))
  rw [gi_tabI hk] at this
  exact this
theorem Sq.rowIn {w : World} {lo hi g n : Nat} {H : Nat → Nat} {M : Nat → Nat → Int} (h : Sq w lo hi g H n M) {i : Nat} (hi' : i < n) : lo ≤ H i ∧ H i < hi ∧ H i ≠ g := h.row i (by rw [mkM_length]; exact hi')
theorem Sq.apart {w : World} {lo hi g n : Nat} {H : Nat → Nat} {M : Nat → Nat → Int} (h : Sq w lo hi g H n M) {i k : Nat} (hi' : i < n) (hk : k < n) (hne : i ≠ k) : H i ≠ H k := by
  rcases Nat.lt_or_gt_of_ne hne with h1 | h1
  · exact h.dis i k h1 (by rw [mkM_length]; exact hk)
  · exact fun e => h.dis k i h1 (by rw [mkM_length]; exact hi') e.symm
theorem Sq.of {w : World} {lo hi g n : Nat} {H : Nat → Nat} {M : Nat → Nat → Int} (cs : List Value) (hc : cs.length = n) (h1 : ∀ j, j < n → cs[j]? = some (.slice (some ⟨H j, 0, none⟩) n n)) (h2 : Blk w g 36 cs)
    (h3 : ∀ j, j < n → Blk w (H j) 3 (ic (tabI (M j) n))) (h4 : lo ≤ g ∧ g < hi) (h5 : ∀ j, j < n → lo ≤ H j ∧ H j < hi ∧ H j ≠ g) (h6 : ∀ i j, i < j → j < n → H i ≠ H j) : Sq w lo hi g H n M := by
  have l := mkM_length M n
  refine ⟨⟨⟨cs, by rw [l]; exact hc, fun j hj => ?_, h2⟩, fun j hj => ?_⟩, h4, fun j hj => h5 j (by omega), fun i j h hj => h6 i j h (by omega)⟩
  · rw [l] at hj
    show cs[j]? = some (.slice (some ⟨H j, 0, none⟩) (gl (mkM M n) j).length (gl (mkM M n) j).length)
    rw [gl_mkM hj, tabI_length]
    exact h1 j hj
  · rw [l] at hj
    rw [gl_mkM hj]
    exact h3 j hj
theorem Sq.set {w : World} {lo hi g n : Nat} {H : Nat → Nat} {M : Nat → Nat → Int} (h : Sq w lo hi g H n M) {i k : Nat} (hi' : i < n) (_hk : k < n) (v : Int) : Sq (w.setCell ⟨H i, k, none⟩ (.int .i64 v)) lo hi g H n (upM M i k v) := by
  have hr := h.rowIn hi'
  obtain ⟨⟨⟨cs, h1, h2, h3⟩, h4⟩, h5, h6, h7⟩ := id h
  rw [mkM_length] at h1 h2 h4 h6
  refine Sq.of cs h1 (fun j hj => ?_) (h3.other _ hr.2.2) (fun j hj => ?_) h5 h6 (fun a b hab hb => h7 a b hab (by rw [mkM_length]; exact hb))
  · have := h2 j hj
    dsimp only at this
    rw [gl_mkM hj, tabI_length] at this
    exact this
  · by_cases e : j = i
    · subst e
      rw [← tab_set (f := M j) (g := upM M j k v j) (n := n) (x := k) (v := v) fun b _ => by unfold upM; by_cases e : b = k <;> simp [e]]
      exact (h.rowB hi').set k _
    · have e2 : upM M i k v j = M j := by funext b; unfold upM; rw [if_neg (by omega)]
      rw [e2]
      exact (h.rowB hj).other _ (h.apart hi' hj (fun h => e h.symm))

theorem Sq.keep {w w' : World} {lo hi g n : Nat} {H : Nat → Nat} {M : Nat → Nat → Int} (h : Sq w lo hi g H n M) (hk : ∀ (b : Nat) (e : TypeId) (cs : List Value), lo ≤ b → b < hi → Blk w b e cs → Blk w' b e cs) : Sq w' lo hi g H n M := by
  obtain ⟨⟨⟨cs, h1, h2, h3⟩, h4⟩, h5, h6, h7⟩ := h
  exact ⟨⟨⟨cs, h1, h2, hk _ _ _ h5.1 h5.2 h3⟩, fun j hj => hk _ _ _ (h6 j hj).1 (h6 j hj).2.1 (h4 j hj)⟩, h5, h6, h7⟩
theorem Sq.mono {w : World} {lo hi lo' hi' g n : Nat} {H : Nat → Nat} {M : Nat → Nat → Int} (h : Sq w lo hi g H n M) (h1 : lo' ≤ lo) (h2 : hi ≤ hi') : Sq w lo' hi' g H n M := by
  obtain ⟨h3, h5, h6, h7⟩ := h
  exact ⟨h3, by omega, fun j hj => by have := h6 j hj; omega, h7⟩
theorem Sq.oth {w : World} {lo hi g n : Nat} {H : Nat → Nat} {M : Nat → Nat → Int} (h : Sq w lo hi g H n M) {a : Addr} (v : Value) (h1 : a.block ≠ g) (h2 : ∀ j, j < n → H j ≠ a.block) : Sq (w.setCell a v) lo hi g H n M := by
  obtain ⟨⟨⟨cs, a1, a2, a3⟩, a4⟩, h5, h6, h7⟩ := h
  exact ⟨⟨⟨cs, a1, a2, a3.other v h1⟩, fun j hj => (a4 j hj).other v (fun e => h2 j (by rw [mkM_length] at hj; exact hj) e.symm)⟩, h5, h6, h7⟩
theorem Sq.other {w : World} {lo hi g n : Nat} {H : Nat → Nat} {M : Nat → Nat → Int} (h : Sq w lo hi g H n M) {a : Addr} (v : Value) (ha : hi ≤ a.block ∨ a.block < lo) : Sq (w.setCell a v) lo hi g H n M :=
  h.keep fun b e cs h1 h2 hb => hb.other v (by omega)
theorem Sq.grown {w w' : World} {lo hi g n : Nat} {H : Nat → Nat} {M : Nat → Nat → Int} (h : Sq w lo hi g H n M) {gr : Nat} (hg : w.grownBy w' (some gr)) (ha : hi ≤ gr ∨ gr < lo) : Sq w' lo hi g H n M :=
  h.keep fun b e cs h1 h2 hb => hb.grown hg (by omega)

set_option maxHeartbeats 2000000 in
theorem square_any (n : Nat) (w : World) (hn : n ≤ 6) :
    Calls Try.prog 53 #[.int .i64 n] w fun e w' => ∃ g H, e = .returned (.slice (some ⟨g, 0, none⟩) n n) ∧ Sq w' w.heap.size w'.heap.size g H n (fun _ _ => 0) ∧ Below w.heap.size w w' := by
  have hmk := run_make_row' (P := Try.prog) 23 36 (.slice none 0 0) 24 Try.underlying23 infoSS rfl .i64 .i64 n (by omega) (by omega)
  obtain ⟨i0, hi, hz0, hz1, hz2⟩ := info_parts infoI
  have hmk1 := run_make_row' (P := Try.prog) 36 3 (.int .i64 0) 8 Try.underlying36 infoI rfl .i64 .i64 n (by omega) (by omega)
  go_enter Try.func53, Try.ntmps53
  go_wp2_with fail
  go_loopw [9] (fun v9 wr => ∃ (k : Nat) (H : Nat → Nat) (cs : List Value), k ≤ n ∧ v9 = .int .i64 k ∧ cs.length = n ∧ (∀ j, j < k → cs[j]? = some (.slice (some ⟨H j, 0, none⟩) n n)) ∧ Blk wr w.heap.size 36 cs ∧
      (∀ j, j < k → w.heap.size < H j ∧ H j < wr.heap.size ∧ Blk wr (H j) 3 (ic (tabI (fun _ => 0) n))) ∧ (∀ i j, i < j → j < k → H i ≠ H j) ∧ Below w.heap.size w wr) (fun v9 _ => n - (intOf v9).toNat)
  case atStart => exact ⟨0, fun _ => 0, _, Nat.zero_le _, rfl, by rw [Array.length_toList, size_madeCells], fun j hj => absurd hj (Nat.not_lt_zero _), Blk.made _ _ _, fun j hj => absurd hj (Nat.not_lt_zero _), fun i j _ hj => absurd hj (Nat.not_lt_zero _), by (repeat' (first | (with_reducible exact Below.refl _ _) | (with_reducible assumption) | (with_reducible refine Below.drewN ?_ _) | (with_reducible refine Below.alloc ?_ ?_ _) | (with_reducible refine Below.drew ?_) | (with_reducible refine Below.setCell ?_ ?_ _) | (with_reducible refine Below.trans ?_ (Below.mono (by assumption) ?_)) | go_size | (with_reducible refine Nat.le_trans ?_ (Below.size (by assumption)))))⟩
  case round =>
    obtain ⟨k, H, cs, hk, rfl, hcl, hc, hbk, hrows, hdis, hb⟩ := hrel
    have HC := Lib.hid hc
    have HK := Lib.hid hbk
    have HR := Lib.hid hrows
    have HD := Lib.hid hdis
    have HB := Lib.hid hb
    have HCL := Lib.hid hcl
    have z := hb.size
    have lk := hbk.lt
    clear hc hrows hdis hb hcl
    by_cases hlt : k < n
    · obtain ⟨u, hu⟩ : ∃ u, cs[k]? = some u := ⟨cs[k]'(by have := HCL.out; omega), List.getElem?_eq_getElem _⟩
      have hu2 := hbk.cell hu
      have hf := hbk.frozen k
      have HU := Lib.hid hu
      clear hbk hu
      go_wp2_with fail
      go_roundw
      case rel =>
        obtain ⟨gN, hgN⟩ : ∃ g, wr.heap.size = g := ⟨_, rfl⟩
        refine ⟨k + 1, fun j => if j = k then gN else H j, cs.set k (.slice (some ⟨gN, 0, none⟩) n n), by omega, by go_num, by rw [List.length_set]; exact HCL.out, fun j hj => ?_, ?_, fun j hj => ?_, fun i j hij hj => ?_, ?_⟩
        · dsimp only
          by_cases e : j = k
          · subst e; rw [List.getElem?_set_self (by have := HCL.out; omega), if_pos rfl]
          · rw [List.getElem?_set_ne (fun h => e h.symm), if_neg e]; exact HC.out j (by omega)
        · rw [← hgN]
          exact (HK.out.set k _).allocs _
        · dsimp only
          have hsz : ∀ (o : Obj) (v : Value), ((wr.setCell ⟨w.heap.size, k, none⟩ v).alloc o).heap.size = wr.heap.size + 1 := fun o v => by go_size
          rw [hsz]
          by_cases e : j = k
          · subst e
            rw [if_pos rfl]
            refine ⟨by omega, by omega, Blk.made' _ (by rw [← hgN]; go_size) ?_⟩
            rw [toList_madeCells_one]
            refine List.ext_getElem? fun j => ?_
            by_cases h : j < n
            · rw [get_ic (by rw [tabI_length]; exact h), gi_tabI h, List.getElem?_replicate, if_pos h]
            · rw [List.getElem?_eq_none (by rw [List.length_replicate]; omega), List.getElem?_eq_none (by rw [ic_length, tabI_length]; omega)]
          · rw [if_neg e]
            have hj' := HR.out j (by omega)
            exact ⟨hj'.1, by omega, (hj'.2.2.other _ (by simp; omega)).allocs _⟩
        · dsimp only
          have hj' := fun a (ha : a < k) => HR.out a ha
          by_cases e : j = k
          · subst e
            rw [if_pos rfl, if_neg (by omega)]
            have := hj' i (by omega)
            omega
          · rw [if_neg e, if_neg (by omega)]
            exact HD.out i j hij (by omega)
        · have := HB.out
          (repeat' (first | (with_reducible exact Below.refl _ _) | (with_reducible assumption) | (with_reducible refine Below.drewN ?_ _) | (with_reducible refine Below.alloc ?_ ?_ _) | (with_reducible refine Below.drew ?_) | (with_reducible refine Below.setCell ?_ ?_ _) | (with_reducible refine Below.trans ?_ (Below.mono (by assumption) ?_)) | go_size | (with_reducible refine Nat.le_trans ?_ (Below.size (by assumption)))))
      case measure => simp [intOf]; omega
    · obtain rfl : k = n := by omega
      have SQ := Lib.hid (show Sq wr w.heap.size wr.heap.size w.heap.size H k (fun _ _ => 0) from Sq.of cs HCL.out HC.out HK.out (fun j hj => (HR.out j hj).2.2) ⟨Nat.le_refl _, lk⟩ (fun j hj => by have := HR.out j hj; omega) HD.out)
      clear HC HK HR HD HCL hbk
      go_wp2_with fail
      go_ret
      exact ⟨_, H, rfl, SQ.out, HB.out⟩

end Go.Proofs.Ytclfjnoedcimiaa
