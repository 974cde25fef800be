/- The least and the greatest of a row of fractions. -/
import Derived.Test.YtoioafadenniiaaFRow
namespace Go.Proofs.Ytoioafadenniiaa
open Go.RowKit

/-- All fractions of a list have small numbers. -/
def SmAll (A B : Int) (fs : List Rat) : Prop := ∀ k, k < fs.length → Sm A B (gq fs k)
theorem SmAll.append {A B : Int} {fs : List Rat} {q : Rat} (h : SmAll A B fs) (hq : Sm A B q) : SmAll A B (fs ++ [q]) := by
  intro k hk
  by_cases e : k < fs.length
  · have := h k e
    unfold gq at *
    rwa [List.getD_eq_getElem?_getD, List.getElem?_append_left e, ← List.getD_eq_getElem?_getD]
  · have e2 : k = fs.length := by simp at hk; omega
    subst e2
    unfold gq
    simpa using hq
theorem SmAll.nil (A B : Int) : SmAll A B [] := fun _ h => absurd h (Nat.not_lt_zero _)

def mnQ (fs : List Rat) : Nat → Rat
  | 0 => gq fs 0
  | k + 1 => if gq fs (k + 1) < mnQ fs k then gq fs (k + 1) else mnQ fs k
theorem mnQ_sm {A B : Int} {fs : List Rat} (h : SmAll A B fs) : ∀ k, k < fs.length → Sm A B (mnQ fs k)
  | 0, hk => h 0 hk
  | k + 1, hk => by
    simp only [mnQ]
    split
    · exact h _ hk
    · exact mnQ_sm h k (by omega)


def mxQ (fs : List Rat) : Nat → Rat
  | 0 => gq fs 0
  | k + 1 => if mxQ fs k < gq fs (k + 1) then gq fs (k + 1) else mxQ fs k
theorem mxQ_sm {A B : Int} {fs : List Rat} (h : SmAll A B fs) : ∀ k, k < fs.length → Sm A B (mxQ fs k)
  | 0, hk => h 0 hk
  | k + 1, hk => by
    simp only [mxQ]
    split
    · exact h _ hk
    · exact mxQ_sm h k (by omega)

set_option maxHeartbeats 2000000 in
theorem maxFunc_any (A B : Int) (g c n : Nat) (fs : List Rat) (w : World) (h : Blk w g 31 (fc fs)) (hn : fs.length = n) (h1 : 1 ≤ n) (hl : n ≤ 1048576)
    (hs : SmAll A B fs) (hB : B * B ≤ 4611686018427387904) (hA : A * B + A * B ≤ 4611686018427387904) :
    Calls Try.prog 59 #[.slice (some ⟨g, 0, none⟩) n c, .func (.func 60) #[] #[]] w
      fun e w' => e = .returned (.agg #[.int .i64 (up (mxQ fs (n - 1))), .int .i64 (dn (mxQ fs (n - 1)))]) ∧ Below w.heap.size w w' := by
  have hgl := h.lt
  have c1 := h.f0 (k := 0) (by omega)
  have c2 := h.f1 (k := 0) (by omega)
  simp only [Nat.zero_mul, Nat.zero_add] at c1 c2
  have H := Lib.hid h
  have HN := Lib.hid hn
  have HS := Lib.hid hs
  have HA := Lib.hid hA
  have HB := Lib.hid hB
  clear h hn hs hA hB
  go_enter Try.func59, Try.ntmps59
  go_wp2_with fail
  go_loopw [6] (fun v6 wr => ∃ k : Nat, k + 1 ≤ n ∧ v6 = .int .i64 ((k : Int) + 1) ∧ Blk wr (w.heap.size + 1) 31 (fc [mxQ fs k]) ∧ (∃ cs, cs.length = 2 ∧ Blk wr w.heap.size 31 cs) ∧ Below w.heap.size w wr) (fun v6 _ => n - (intOf v6).toNat)
  case atStart => exact ⟨0, by omega, rfl, ⟨#[.int .i64 (up (gq fs 0)), .int .i64 (dn (gq fs 0))], by rw [show w.heap.size + 1 = (w.alloc (.cells #[.int .i64 0, .int .i64 0] 31)).heap.size from by simp]; exact heap_alloc_new _ _, rfl⟩, ⟨_, rfl, (Blk.made w #[.int .i64 0, .int .i64 0] 31).below (by (repeat' (first | (with_reducible exact Below.refl _ _) | (with_reducible assumption) | (with_reducible refine Below.drewN ?_ _) | (with_reducible refine Below.alloc ?_ ?_ _) | (with_reducible refine Below.drew ?_) | (with_reducible refine Below.setCell ?_ ?_ _) | (with_reducible refine Below.trans ?_ (Below.mono (by assumption) ?_)) | go_size | (with_reducible refine Nat.le_trans ?_ (Below.size (by assumption))))))⟩, by (repeat' (first | (with_reducible exact Below.refl _ _) | (with_reducible assumption) | (with_reducible refine Below.drewN ?_ _) | (with_reducible refine Below.alloc ?_ ?_ _) | (with_reducible refine Below.drew ?_) | (with_reducible refine Below.setCell ?_ ?_ _) | (with_reducible refine Below.trans ?_ (Below.mono (by assumption) ?_)) | go_size | (with_reducible refine Nat.le_trans ?_ (Below.size (by assumption)))))⟩
  case round =>
    obtain ⟨k, hk, rfl, hm, ⟨cs, hcs, hr⟩, hb⟩ := hrel
    have hz := hb.size
    have hz2 := hm.lt
    have hz3 := hr.lt
    have hg2 : g < wr.heap.size := by omega
    obtain ⟨m, hmq⟩ : ∃ m, mxQ fs k = m := ⟨_, rfl⟩
    rw [hmq] at hm
    have d1 := hm.f0 (k := 0) (by simp)
    have d2 := hm.f1 (k := 0) (by simp)
    simp only [Nat.zero_mul, Nat.zero_add, show gq [m] 0 = m from rfl] at d1 d2
    have f1 := hm.frozen 0
    have f2 := hm.frozen 1
    by_cases hlt : k + 1 < n
    · have hkf : k + 1 < fs.length := by rw [HN.out]; exact hlt
      obtain ⟨q, hq⟩ : ∃ q, gq fs (k + 1) = q := ⟨_, rfl⟩
      have e1 := (H.out.below hb).f0 hkf
      have e2 := (H.out.below hb).f1 hkf
      rw [hq] at e1 e2
      have s1 := HS.out (k + 1) hkf
      have s2 := mxQ_sm HS.out k (by omega)
      rw [hq] at s1
      rw [hmq] at s2
      have s3 := sm_mul s1 s2
      have S1 := Lib.hid (show dn q * dn m ≤ 4611686018427387904 by have := HB.out; omega)
      have S2 := Lib.hid (show ((up q).natAbs : Int) * dn m + (up m).natAbs * dn q ≤ 4611686018427387904 by have := HA.out; omega)
      have hstep : mxQ fs (k + 1) = if m < q then q else m := by simp only [mxQ, hq, hmq]
      have HST := Lib.hid hstep
      have HM := Lib.hid hm
      have HR := Lib.hid hr
      have HC := Lib.hid hcs
      clear s1 s2 s3 hq hmq hstep hkf hm hr hcs
      have q1 : IntKind.i64.wrap ((k : Int) + 1) = (k : Int) + 1 := IntWalk.i64_in _ (by omega)
      have q2 : ((k : Int) + 1).toNat = k + 1 := by omega
      have q3 : (0 : Int) ≤ (k : Int) + 1 := by omega
      have q4 : (k : Int) + 1 < (n : Int) := by omega
      have hne : ¬ g = w.heap.size + 1 := by omega
      go_wp2_with fail
      (refine region_tail 6 (by kernel_rfl) (by kernel_rfl) ?_; simp only [List.take_succ_cons, List.take_zero, List.drop_succ_cons, List.drop_zero]; (repeat (go_big_quiet_step (fail))); refine wpQuiet_nil ?_)
      by_cases hcmp : m < q
      · have hv : cmpQ q m = 1 := by unfold cmpQ; rw [if_neg (by grind), if_pos hcmp]
        have ht : decide (0 < cmpQ q m) = true := by rw [hv]; rfl
        have HV := Lib.hid hv
        clear hv
        go_wp2_with (go_at_call 60; refine (compare_any q m _ S1.out S2.out).mono ?_; rintro e w1 ⟨rfl, hb1⟩; obtain ⟨hc1, hf1⟩ := bcell hb1; have x1 := keepC hb1 e1; have x2 := keepC hb1 e2; have x3 := keepC hb1 d1; have x4 := keepC hb1 d2; have x5 := keepF hb1 hz2 f1; have x6 := keepF hb1 hz2 f2; clear hc1 hf1)
        go_roundw
        case rel =>
          have hb3 : Below wr.heap.size wr w1 := (below_drew).trans hb1
          exact ⟨k + 1, by omega, by go_num, by rw [HST.out, if_pos hcmp]; exact ((HM.out.below hb3).set 0 _).set 1 _, ⟨cs, HC.out, ((HR.out.below hb3).other _ (by simp)).other _ (by simp)⟩, ((hb.trans (hb3.mono hz)).setCell (by simp) _).setCell (by simp) _⟩
        case measure => simp [intOf]; omega
      · have hv : decide (0 < cmpQ q m) = false := by unfold cmpQ; rw [if_neg hcmp]; split <;> rfl
        go_wp2_with (go_at_call 60; refine (compare_any q m _ S1.out S2.out).mono ?_; rintro e w1 ⟨rfl, hb1⟩; obtain ⟨hc1, hf1⟩ := bcell hb1)
        go_roundw
        case rel =>
          have hb3 : Below wr.heap.size wr w1 := (below_drew).trans hb1
          exact ⟨k + 1, by omega, by go_num, by rw [HST.out, if_neg hcmp]; exact HM.out.below hb3, ⟨cs, HC.out, HR.out.below hb3⟩, hb.trans (hb3.mono hz)⟩
        case measure => simp [intOf]; omega
    · have hkn : k = n - 1 := by omega
      obtain ⟨x1, hx1⟩ : ∃ u, cs[0]? = some u := ⟨cs[0], by rw [List.getElem?_eq_getElem]⟩
      obtain ⟨x2, hx2⟩ : ∃ u, cs[1]? = some u := ⟨cs[1], by rw [List.getElem?_eq_getElem]⟩
      have d3 := hr.cell hx1
      have d4 := hr.cell hx2
      have f3 := hr.frozen 0
      have f4 := hr.frozen 1
      rw [hkn] at hmq
      have HQ := Lib.hid hmq
      clear hmq hx1 hx2 hcs hm hr hkn
      go_wp2_with fail
      rw [HQ.out]
      refine bodyPost_ret (v := .agg #[.int .i64 (up m), .int .i64 (dn m)]) ?_ rfl ⟨rfl, ?_⟩
      · simp [results, Try.results59, go_sem, d3, d4]
      · exact (hb.setCell (by simp) _).setCell (by simp) _

end Go.Proofs.Ytoioafadenniiaa
