/- The laws' own small functions: more of them. -/
import Derived.Test.YtfbccnameppikaaSmall
import Derived.Test.YtfbccnameppikaaFRow
import Derived.Test.YtfbccnameppikaaLFrac
namespace Go.Proofs.Ytfbccnameppikaa
open Go.RowKit



end Go.Proofs.Ytfbccnameppikaa
