/- Needs that are residues of a number: a run is true if it is true at each residue. -/
import Derived.Test.YtegcmgjldapnmaaGreatDoorEngN
namespace Go.Eng

def I (u : Int) : Value := .int .i64 u

end Go.Eng
