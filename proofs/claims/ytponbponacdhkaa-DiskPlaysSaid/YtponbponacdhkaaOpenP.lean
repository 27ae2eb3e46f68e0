/-
  From what a row reads to the walks' words.
-/
import Derived.Test.YtponbponacdhkaaRows
import Derived.Test.YtponbponacdhkaaLib
import Derived.ProofKit
import Derived.SizedLaws
import Derived.OpenShut
import Derived.ShutString
import Derived.ChangeOld
import Derived.LaidMore
import Derived.Lib.LaidTab
namespace Go.Proofs.Ytponbponacdhkaa
open Go.ChangeShapes Go.WideShapes Go.ChangeAt Go.RowKit

theorem own : ownKnob Try.prog.godebug = none := by kernel_rfl
theorem laidOut : laidOutB Try.prog = true := by kernel_rfl

end Go.Proofs.Ytponbponacdhkaa
