/- What each row of fetch asks of the program. No conditions. -/
import Derived.Test.YtcapbfhiiiggdaaOpenInts
namespace Go.Proofs.Ytcapbfhiiiggdaa
open Go.RowKit Go.ChangeShapes Go.WideShapes Go.ChangeAt Go.Deep
theorem Try.own : ownKnob Try.prog.godebug = none := by kernel_rfl
theorem Try.laidOut : laidOutB Try.prog = true := by kernel_rfl
end Go.Proofs.Ytcapbfhiiiggdaa
