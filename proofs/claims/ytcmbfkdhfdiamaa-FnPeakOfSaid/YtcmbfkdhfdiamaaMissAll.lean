/- RiseMiss, the program's and the reference's. -/
import Derived.Test.YtcmbfkdhfdiamaaSMiss
import Derived.Test.YtcmbfkdhfdiamaaRbb
namespace Go.Proofs.Ytcmbfkdhfdiamaa
open Go.RowKit

def missU (xs ws : List Int) : Int := if vlB xs ws = true then up (missR xs ws) else 0
def missD (xs ws : List Int) : Int := if vlB xs ws = true then dn (missR xs ws) else 0

set_option maxHeartbeats 1000000 in
theorem riseMiss_all (b o c b' o' c' : Nat) (xs ws : List Int) (w : World) (h : RowI w b o xs) (h' : RowI w b' o' ws) (hm : xs.length ≤ 1099511627776) (hm' : ws.length ≤ 1099511627776) :
    Calls Try.prog 24 #[.slice (some ⟨b, o, none⟩) xs.length c, .slice (some ⟨b', o', none⟩) ws.length c'] w
      fun e w' => e = .returned (.tuple #[.agg #[.int .i64 (missU xs ws), .int .i64 (missD xs ws)], .bool (vlB xs ws)]) ∧ Below w.heap.size w w' := by
  have H := Lib.hid h
  have H' := Lib.hid h'
  clear h h'
  cases hv : vlB xs ws with
  | true =>
    have HV := Lib.hid (vl_of hv)
    have e1 : missU xs ws = up (missR xs ws) := by simp [missU, hv]
    have e2 : missD xs ws = dn (missR xs ws) := by simp [missD, hv]
    rw [e1, e2]
    obtain ⟨M, hM⟩ : ∃ M, missR xs ws = M := ⟨_, rfl⟩
    rw [hM]
    have HM := Lib.hid hM
    clear e1 e2 hM
    go_enter Try.func24, Try.ntmps24
    go_wp2_with (first
      | (go_at_call 62; refine (validLoads_any b o c b' o' c' xs ws _ (H.out.below below_alloc) (H'.out.below below_alloc) hm hm').mono ?_; rintro e w1 ⟨rfl, hb1⟩; have hz1 := hb1.size; have hk1 := (Blk.made w #[.int .i64 0, .int .i64 0] 29).below hb1; have hbA : Below w.heap.size w w1 := below_alloc.trans (hb1.mono (by simp)))
      | (go_at_call 69; refine (riseMiss_any b o c b' o' c' xs ws _ (H.out.below hbA) (H'.out.below hbA) HV.out).mono ?_; rw [HM.out]; rintro e w2 ⟨rfl, hb2⟩; have hk2 := hk1.below hb2; have x1 := hk2.cell (j := 0) rfl; have x2 := hk2.cell (j := 1) rfl; have f1 := hk2.frozen 0; have f2 := hk2.frozen 1))
    have y1 := (hk2.set 0 (.int .i64 (up M))).cell (j := 0) rfl
    have y2 := ((hk2.set 0 (.int .i64 (up M))).set 1 (.int .i64 (dn M))).cell (j := 1) rfl
    refine bodyPost_ret (v := .tuple #[.agg #[.int .i64 (up M), .int .i64 (dn M)], .bool true]) ?_ rfl ⟨rfl, ?_⟩
    · simp [results, Try.results24, go_sem, y1, y2]
    · exact ((hbA.trans (hb2.mono hbA.size)).setCell (Nat.le_refl _) _).setCell (Nat.le_refl _) _
  | false =>
    have e1 : missU xs ws = 0 := by simp [missU, hv]
    have e2 : missD xs ws = 0 := by simp [missD, hv]
    rw [e1, e2]
    clear e1 e2
    go_enter Try.func24, Try.ntmps24
    go_wp2_with (go_at_call 62; refine (validLoads_any b o c b' o' c' xs ws _ (H.out.below below_alloc) (H'.out.below below_alloc) hm hm').mono ?_; rintro e w1 ⟨rfl, hb1⟩; have hz1 := hb1.size; have hk1 := (Blk.made w #[.int .i64 0, .int .i64 0] 29).below hb1; have hbA : Below w.heap.size w w1 := below_alloc.trans (hb1.mono (by simp)); have x1 := hk1.cell (j := 0) rfl; have x2 := hk1.cell (j := 1) rfl; have f1 := hk1.frozen 0; have f2 := hk1.frozen 1)
    have y1 := (hk1.set 0 (.int .i64 0)).cell (j := 0) rfl
    have y2 := ((hk1.set 0 (.int .i64 0)).set 1 (.int .i64 0)).cell (j := 1) rfl
    refine bodyPost_ret (v := .tuple #[.agg #[.int .i64 0, .int .i64 0], .bool false]) ?_ rfl ⟨rfl, ?_⟩
    · simp [results, Try.results24, go_sem, y1, y2]
    · exact (hbA.setCell (Nat.le_refl _) _).setCell (Nat.le_refl _) _

set_option maxHeartbeats 1000000 in
theorem sriseMiss_all (b o c b' o' c' : Nat) (xs ws : List Int) (w : World) (h : RowI w b o xs) (h' : RowI w b' o' ws) (hm : xs.length ≤ 1099511627776) (hm' : ws.length ≤ 1099511627776) :
    Calls Try.prog 22 #[.slice (some ⟨b, o, none⟩) xs.length c, .slice (some ⟨b', o', none⟩) ws.length c'] w
      fun e w' => e = .returned (.tuple #[.agg #[.int .i64 (missU xs ws), .int .i64 (missD xs ws)], .bool (vlB xs ws)]) ∧ Below w.heap.size w w' := by
  have H := Lib.hid h
  have H' := Lib.hid h'
  clear h h'
  cases hv : vlB xs ws with
  | true =>
    have hn8 := (vl_of hv).n8
    have hn0 := (vl_of hv).n0
    have hn1 : xs.length ≠ 0 := by omega
    have hpl := poolR_length xs ws xs.length
    have HV := Lib.hid (vl_of hv)
    have e1 : missU xs ws = up (missR xs ws) := by simp [missU, hv]
    have e2 : missD xs ws = dn (missR xs ws) := by simp [missD, hv]
    rw [e1, e2]
    obtain ⟨M, hM⟩ : ∃ M, missR xs ws = M := ⟨_, rfl⟩
    rw [hM]
    have HM := Lib.hid hM
    clear e1 e2 hM
    go_enter Try.func22, Try.ntmps22
    go_wp2_with (first
      | (go_at_call 64; refine (svalidLoads_any b o c b' o' c' xs ws _ (H.out.below below_alloc) (H'.out.below below_alloc) hm hm').mono ?_; rintro e w1 ⟨rfl, rfl⟩; have hk1 := Blk.made w #[.int .i64 0, .int .i64 0] 29; have hbA : Below w.heap.size w (w.alloc (.cells #[.int .i64 0, .int .i64 0] 29)) := below_alloc)
      | (go_at_call 65; refine (pool_any b o c b' o' c' xs ws _ (H.out.below hbA) (H'.out.below hbA) HV.out).mono ?_; rintro e w2 ⟨g, cap, rfl, ho, hb2⟩; have hz2 := hb2.size; have hbB : Below w.heap.size w w2 := hbA.trans (hb2.mono hbA.size))
      | (go_at_call 68; refine (sspread_any b o c b' o' c' g 0 cap _ xs ws _ _ (H.out.below hbB) (H'.out.below hbB) ho.row rfl HV.out poolR_dec1 (poolR_first hn0) (by omega)).mono ?_; rintro e w3 ⟨v, rfl, hm3, hb3⟩; have hbC : Below w.heap.size w w3 := hbB.trans (hb3.mono hbB.size); obtain ⟨gv, cv, rfl, hgv⟩ := hm3.shape hn1; have hbv := hm3.blk)
      | (go_at_call 67; refine (smissOf_any b o c b' o' c' gv cv xs ws _ (H.out.below hbC) (H'.out.below hbC) hbv HV.out).mono ?_; rw [HM.out]; rintro e w4 ⟨rfl, hb4⟩; have hk2 := ((hk1.below hb2).below hb3).below hb4; have x1 := hk2.cell (j := 0) rfl; have x2 := hk2.cell (j := 1) rfl; have f1 := hk2.frozen 0; have f2 := hk2.frozen 1))
    have y1 := (hk2.set 0 (.int .i64 (up M))).cell (j := 0) rfl
    have y2 := ((hk2.set 0 (.int .i64 (up M))).set 1 (.int .i64 (dn M))).cell (j := 1) rfl
    refine bodyPost_ret (v := .tuple #[.agg #[.int .i64 (up M), .int .i64 (dn M)], .bool true]) ?_ rfl ⟨rfl, ?_⟩
    · simp [results, Try.results22, go_sem, y1, y2]
    · exact ((hbC.trans (hb4.mono hbC.size)).setCell (Nat.le_refl _) _).setCell (Nat.le_refl _) _
  | false =>
    have e1 : missU xs ws = 0 := by simp [missU, hv]
    have e2 : missD xs ws = 0 := by simp [missD, hv]
    rw [e1, e2]
    clear e1 e2
    go_enter Try.func22, Try.ntmps22
    go_wp2_with (go_at_call 64; refine (svalidLoads_any b o c b' o' c' xs ws _ (H.out.below below_alloc) (H'.out.below below_alloc) hm hm').mono ?_; rintro e w1 ⟨rfl, rfl⟩; have hk1 := Blk.made w #[.int .i64 0, .int .i64 0] 29; have hbA : Below w.heap.size w (w.alloc (.cells #[.int .i64 0, .int .i64 0] 29)) := below_alloc; have x1 := hk1.cell (j := 0) rfl; have x2 := hk1.cell (j := 1) rfl; have f1 := hk1.frozen 0; have f2 := hk1.frozen 1)
    refine bodyPost_ret (v := .tuple #[.agg #[.int .i64 0, .int .i64 0], .bool false]) ?_ rfl ⟨rfl, ?_⟩
    · simp [results, Try.results22, go_sem]
    · exact hbA

end Go.Proofs.Ytcmbfkdhfdiamaa
