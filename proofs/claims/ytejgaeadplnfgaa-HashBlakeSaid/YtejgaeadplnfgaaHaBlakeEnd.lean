/- PROVED: quarrylaw03.HashBlake returns true for every block that it is handed, and what it is handed reads as it did: hash.Blake and the reference's Blake hand back the same eight words. Conditions: none. -/
import Derived.Test.YtejgaeadplnfgaaHaBlakeRow
import Derived.Test.YtejgaeadplnfgaaHaWakes
namespace Go.Proofs.Ytejgaeadplnfgaa.hashBlake
open Go.Proofs.Sx
theorem proved : Rows.HashBlakeSaid := over runs13
end Go.Proofs.Ytejgaeadplnfgaa.hashBlake
#print axioms Go.Proofs.Ytejgaeadplnfgaa.hashBlake.proved
