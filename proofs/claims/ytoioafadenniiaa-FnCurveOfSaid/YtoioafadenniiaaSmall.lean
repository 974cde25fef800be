/- The laws' own small functions. -/
import Derived.Test.YtoioafadenniiaaToInt
import Derived.Test.YtoioafadenniiaaLFrac
namespace Go.Proofs.Ytoioafadenniiaa
open Go.RowKit



set_option maxHeartbeats 1000000 in
theorem lessOf_any (p q : Rat) (w : World) (h2 : (up p).natAbs * dn q + (up q).natAbs * dn p ≤ 4611686018427387904) :
    Calls Try.prog 36 #[.agg #[.int .i64 (up p), .int .i64 (dn p)], .agg #[.int .i64 (up q), .int .i64 (dn q)]] w fun e w' =>
      e = .returned (.bool (decide (p < q))) ∧ Below w.heap.size w w' := by
  have e1 : decide (p < q) = decide (up p * dn q < up q * dn p) := by rw [decide_eq_decide]; exact lt_iff p q
  have d1 := dn_pos p
  have d2 := dn_pos q
  have k1 : (up p * dn q).natAbs = (up p).natAbs * (dn q).natAbs := Int.natAbs_mul _ _
  have k2 : (up q * dn p).natAbs = (up q).natAbs * (dn p).natAbs := Int.natAbs_mul _ _
  have k3 : ((up p * dn q).natAbs : Int) = (up p).natAbs * dn q := by rw [k1, Int.natCast_mul, Int.natAbs_of_nonneg (by omega : 0 ≤ dn q)]
  have k4 : ((up q * dn p).natAbs : Int) = (up q).natAbs * dn p := by rw [k2, Int.natCast_mul, Int.natAbs_of_nonneg (by omega : 0 ≤ dn p)]
  have q1 : IntKind.i64.wrap (up p * dn q) = up p * dn q := IntWalk.i64_in _ (by omega)
  have q2 : IntKind.i64.wrap (up q * dn p) = up q * dn p := IntWalk.i64_in _ (by omega)
  rw [e1]
  clear k1 k2 k3 k4 h2 e1 d1 d2
  generalize up p = a at *
  generalize dn p = b at *
  generalize up q = c at *
  generalize dn q = d at *
  go_enter Try.func36, Try.ntmps36
  go_wp2
  go_ret
  exact ⟨rfl, by (repeat' (first | (with_reducible exact Below.refl _ _) | (with_reducible assumption) | (with_reducible refine Below.drewN ?_ _) | (with_reducible refine Below.alloc ?_ ?_ _) | (with_reducible refine Below.drew ?_) | (with_reducible refine Below.setCell ?_ ?_ _) | (with_reducible refine Below.trans ?_ (Below.mono (by assumption) ?_)) | go_size | (with_reducible refine Nat.le_trans ?_ (Below.size (by assumption)))))⟩

end Go.Proofs.Ytoioafadenniiaa
