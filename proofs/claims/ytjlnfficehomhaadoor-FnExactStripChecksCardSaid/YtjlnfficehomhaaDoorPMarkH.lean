/- Marks of floats, held. -/
import Derived.Test.YtjlnfficehomhaaDoorPMark
set_option linter.unusedVariables false
namespace Go.H
open Go Ieee

end Go.H
