/- Keys out of a row. No program here. -/
import Derived.Test.YtjkadlmlkcanpaaOrd
namespace Go.Proofs.Ytjkadlmlkcanpaa

def keyOf (xs : List Int) (i : Int) : Int := gi xs i.toNat
theorem keyOf_nat (xs : List Int) (k : Nat) : keyOf xs (k : Int) = gi xs k := rfl

end Go.Proofs.Ytjkadlmlkcanpaa
