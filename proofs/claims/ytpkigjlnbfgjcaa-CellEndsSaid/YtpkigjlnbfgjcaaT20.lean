/- CellEnds: every call of cell.Ends hands back what the document says: the memories that orders of the tasks' ops leave, each once, in order (or the fault). No condition: for every memory and every tasks. -/
import Derived.Test.YtpkigjlnbfgjcaaT18
import Derived.Test.YtpkigjlnbfgjcaaT19
namespace Go.Proofs.Ytpkigjlnbfgjcaa
theorem cellEnds_proved : Rows.CellEndsSaid := cellEnds.over sort_ok
#print axioms cellEnds_proved
end Go.Proofs.Ytpkigjlnbfgjcaa
