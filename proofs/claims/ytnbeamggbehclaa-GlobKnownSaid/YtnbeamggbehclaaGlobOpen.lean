/- Opening the arguments of the seat's laws. No conditions beyond those that each statement types. -/
import Derived.Test.YtnbeamggbehclaaOpenInts
namespace Go.Proofs.Ytnbeamggbehclaa
open Go.RowKit Go.ChangeShapes Go.WideShapes Go.ChangeAt
theorem Try.own : ownKnob Try.prog.godebug = none := by kernel_rfl
theorem Try.laidOut : laidOutB Try.prog = true := by kernel_rfl
end Go.Proofs.Ytnbeamggbehclaa
