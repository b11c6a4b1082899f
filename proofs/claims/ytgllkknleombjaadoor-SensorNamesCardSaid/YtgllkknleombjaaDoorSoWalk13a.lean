/- The sort of int8 in Go's library (Walk13a): the guide's walk at int, turned to this dump and this kind by wip/tools/so.py. -/
import Derived.Sort.Walk13a
namespace Go.Proofs.YtgllkknleombjaaDoor


end Go.Proofs.YtgllkknleombjaaDoor
