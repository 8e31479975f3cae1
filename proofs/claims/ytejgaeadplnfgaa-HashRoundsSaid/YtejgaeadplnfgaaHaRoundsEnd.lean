/- PROVED: quarrylaw03.HashRounds returns true for every block that it is handed, and what it is handed reads as it did: hash.Blake with no rounds is h and the first values, as the law says. Conditions: none. -/
import Derived.Test.YtejgaeadplnfgaaHaRounds
import Derived.Test.YtejgaeadplnfgaaHaWakes
namespace Go.Proofs.Ytejgaeadplnfgaa.hashRounds
open Go.Proofs.Sx
theorem proved : Rows.HashRoundsSaid := over runs13
end Go.Proofs.Ytejgaeadplnfgaa.hashRounds
#print axioms Go.Proofs.Ytejgaeadplnfgaa.hashRounds.proved
