/- What the laws' own functions on fractions return, as rational numbers. -/
import Derived.Test.YthemnkcgpcgilaaFrac
namespace Go.Proofs.Ythemnkcgpcgilaa
open Go.RowKit







end Go.Proofs.Ythemnkcgpcgilaa
