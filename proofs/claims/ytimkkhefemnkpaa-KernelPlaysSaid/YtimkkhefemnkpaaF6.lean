/- The document's kernel: what its functions lean on. -/
import Derived.Test.YtimkkhefemnkpaaF5
import Derived.Test.YtimkkhefemnkpaaF3p
namespace Go.Vm
open Go Go.Proofs

abbrev rVv (a1 a2 : Option Nat) (c1 c2 : Nat) (s : KS) : V := .pair (.sl 3051 a1 51 0 c1 s.T.length) (.pair (.sl 3052 a2 51 0 c2 s.U.length) (iV s.n))
abbrev RO (wb : Nat) (a1 : Option Nat) (c1 : Nat) (a2 : Option Nat) (c2 : Nat) (s : KS) : List (Nat × Cell) := [(3060, .box wb 29 (rVv a1 a2 c1 c2 s)), (3051, lvec a1 37 51 c1 enE s.T), (3052, lvec a2 37 51 c2 enE s.U)]

end Go.Vm
