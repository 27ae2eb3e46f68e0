/-
  DiskPlays' walk, in a parameter's words.
-/
import Derived.Test.YtponbponacdhkaaDkPlays
import Derived.Test.YtponbponacdhkaaOpenDk
namespace Go.Proofs.Ytponbponacdhkaa
open Go.RowKit Go.ChangeShapes Go.WideShapes Go.ChangeAt

theorem plays_walk (a : Option Addr) (n c : Nat) (M : List Sh) (q : Int) (w : World) (hs : Steps w a n c M) (hq : (Lit.int .u8 q).wf = true) :
    Calls Try.prog 4 #[.slice a n c, .int .u8 q] w fun e w' => e = .returned (.bool true) ∧ Ext w w' := by
  have := wf_u8 hq
  exact plays_calls a n c M q (by omega) (by omega) w hs
end Go.Proofs.Ytponbponacdhkaa
