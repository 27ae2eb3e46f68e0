/-
  DERIVED. GIVEN WITH THE SEED: THE CARDS: each row of YtkflikfcpdekdaaDoorRows.lean that lists a variable, with what it lists TIED to the program's text (the seventh form; the later family's looks); each row that meets fmt, with fmt's text TOLD by the authors' own Lean function (tested against real Go, not proved from fmt's source: count such statements apart). THE CARD IS WHAT COUNTS. Prove the row's statement (the work); the ties are given (YtkflikfcpdekdaaDoorTie.lean); close each card by the builder's one call (the guide's Derived/Test/ToyasCard.lean, 'card_holds'). Laid BY PROGRAM, IN A SANDBOX (cutbox-door.mjs). By AI agents, Wed Nov 11 2026. No macro, syntax, notation, axiom, sorry.
-/
import Derived.Test.YtkflikfcpdekdaaDoorRows
import GoSem.ClaimSeven
namespace Go.Proofs.YtkflikfcpdekdaaDoor
namespace Rows

/-- THE TIED CARD OF 'isobarlaw05.CrcSums'. -/
def crcSumsCard : Claim7 := { stood := { row := crcSumsRow, standIns := [], harness := (true, "fdeb624a58fd5831c65887f87a4184b37b04e3d5925c0a5654449ff787bb18d3"), looks := false }, kinds := [], alts := [], laidByText := true, laidKinds := [.data], laidTests := true, laidLooks := .later }
def CrcSumsCardSaid : Prop := Claim7.holds Tryd.pinned (.plain (OpenSpec.ofChange crcSumsSpec)) crcSumsCard

/-- THE TIED CARD OF 'isobarlaw05.CrcPuts'. -/
def crcPutsCard : Claim7 := { stood := { row := crcPutsRow, standIns := [], harness := (true, "fdeb624a58fd5831c65887f87a4184b37b04e3d5925c0a5654449ff787bb18d3"), looks := false }, kinds := [], alts := [], laidByText := true, laidKinds := [.data], laidTests := true, laidLooks := .later }
def CrcPutsCardSaid : Prop := Claim7.holds Tryd.pinned (.plain (OpenSpec.ofChange crcPutsSpec)) crcPutsCard

/-- THE TIED CARD OF 'isobarlaw05.CrcTold'. -/
def crcToldCard : Claim7 := { stood := { row := crcToldRow, standIns := [], harness := (true, "fdeb624a58fd5831c65887f87a4184b37b04e3d5925c0a5654449ff787bb18d3"), looks := false }, kinds := [], alts := [], laidByText := true, laidKinds := [.data], laidTests := true, laidLooks := .later }
def CrcToldCardSaid : Prop := Claim7.holds Tryd.pinned (.plain (OpenSpec.ofChange crcToldSpec)) crcToldCard

/-- THE TIED CARD OF 'isobarlaw07.FramePuts'. -/
def framePutsCard : Claim7 := { stood := { row := framePutsRow, standIns := [], harness := (true, "fdeb624a58fd5831c65887f87a4184b37b04e3d5925c0a5654449ff787bb18d3"), looks := false }, kinds := [], alts := [], laidByText := true, laidKinds := [.data], laidTests := true, laidLooks := .later }
def FramePutsCardSaid : Prop := Claim7.holds Tryd.pinned (.plain (OpenSpec.ofChange framePutsSpec)) framePutsCard

/-- THE TIED CARD OF 'isobarlaw07.FrameTakes'. -/
def frameTakesCard : Claim7 := { stood := { row := frameTakesRow, standIns := [], harness := (true, "fdeb624a58fd5831c65887f87a4184b37b04e3d5925c0a5654449ff787bb18d3"), looks := false }, kinds := [], alts := [], laidByText := true, laidKinds := [.data], laidTests := true, laidLooks := .later }
def FrameTakesCardSaid : Prop := Claim7.holds Tryd.pinned (.plain (OpenSpec.ofChange frameTakesSpec)) frameTakesCard

/-- THE TIED CARD OF 'isobarlaw07.FrameCuts'. -/
def frameCutsCard : Claim7 := { stood := { row := frameCutsRow, standIns := [], harness := (true, "fdeb624a58fd5831c65887f87a4184b37b04e3d5925c0a5654449ff787bb18d3"), looks := false }, kinds := [], alts := [], laidByText := true, laidKinds := [.data], laidTests := true, laidLooks := .later }
def FrameCutsCardSaid : Prop := Claim7.holds Tryd.pinned (.plain (OpenSpec.ofChange frameCutsSpec)) frameCutsCard

/-- THE TIED CARD OF 'isobarlaw07.FrameTorn'. -/
def frameTornCard : Claim7 := { stood := { row := frameTornRow, standIns := [], harness := (true, "fdeb624a58fd5831c65887f87a4184b37b04e3d5925c0a5654449ff787bb18d3"), looks := false }, kinds := [], alts := [], laidByText := true, laidKinds := [.data], laidTests := true, laidLooks := .later }
def FrameTornCardSaid : Prop := Claim7.holds Tryd.pinned (.plain (OpenSpec.ofChange frameTornSpec)) frameTornCard

/-- THE TIED CARD OF 'isobarlaw07.FrameBack'. -/
def frameBackCard : Claim7 := { stood := { row := frameBackRow, standIns := [], harness := (true, "fdeb624a58fd5831c65887f87a4184b37b04e3d5925c0a5654449ff787bb18d3"), looks := false }, kinds := [], alts := [], laidByText := true, laidKinds := [.data], laidTests := true, laidLooks := .later }
def FrameBackCardSaid : Prop := Claim7.holds Tryd.pinned (.plain (OpenSpec.ofChange frameBackSpec)) frameBackCard

/-- THE TIED CARD OF 'isobarlaw08.SegmentPuts'. -/
def segmentPutsCard : Claim7 := { stood := { row := segmentPutsRow, standIns := [], harness := (true, "fdeb624a58fd5831c65887f87a4184b37b04e3d5925c0a5654449ff787bb18d3"), looks := false }, kinds := [], alts := [], laidByText := true, laidKinds := [.data], laidTests := true, laidLooks := .later }
def SegmentPutsCardSaid : Prop := Claim7.holds Tryd.pinned (.plain (OpenSpec.ofChange segmentPutsSpec)) segmentPutsCard

/-- THE TIED CARD OF 'isobarlaw08.SegmentScans'. -/
def segmentScansCard : Claim7 := { stood := { row := segmentScansRow, standIns := [], harness := (true, "fdeb624a58fd5831c65887f87a4184b37b04e3d5925c0a5654449ff787bb18d3"), looks := false }, kinds := [], alts := [], laidByText := true, laidKinds := [.data], laidTests := true, laidLooks := .later }
def SegmentScansCardSaid : Prop := Claim7.holds Tryd.pinned (.plain (OpenSpec.ofChange segmentScansSpec)) segmentScansCard

/-- THE TIED CARD OF 'isobarlaw08.SegmentBack'. -/
def segmentBackCard : Claim7 := { stood := { row := segmentBackRow, standIns := [], harness := (true, "fdeb624a58fd5831c65887f87a4184b37b04e3d5925c0a5654449ff787bb18d3"), looks := false }, kinds := [], alts := [], laidByText := true, laidKinds := [.data], laidTests := true, laidLooks := .later }
def SegmentBackCardSaid : Prop := Claim7.holds Tryd.pinned (.plain (OpenSpec.ofChange segmentBackSpec)) segmentBackCard

/-- THE SECOND FORM's CARD OF 'isobarlaw05.CrcSums'. -/
def crcSumsUptoCard : Claim7 := { stood := { row := crcSumsUptoRow, standIns := [], harness := (true, "fdeb624a58fd5831c65887f87a4184b37b04e3d5925c0a5654449ff787bb18d3"), looks := false }, kinds := [], alts := [], laidByText := true, laidKinds := [.data], laidTests := true, laidLooks := .later }
def CrcSumsUptoCardSaid : Prop := Claim7.holds Tryd.pinned (.plain (OpenSpec.upto crcSumsSpec)) crcSumsUptoCard

/-- THE SECOND FORM's CARD OF 'isobarlaw05.CrcPuts'. -/
def crcPutsUptoCard : Claim7 := { stood := { row := crcPutsUptoRow, standIns := [], harness := (true, "fdeb624a58fd5831c65887f87a4184b37b04e3d5925c0a5654449ff787bb18d3"), looks := false }, kinds := [], alts := [], laidByText := true, laidKinds := [.data], laidTests := true, laidLooks := .later }
def CrcPutsUptoCardSaid : Prop := Claim7.holds Tryd.pinned (.plain (OpenSpec.upto crcPutsSpec)) crcPutsUptoCard

/-- THE SECOND FORM's CARD OF 'isobarlaw05.CrcTold'. -/
def crcToldUptoCard : Claim7 := { stood := { row := crcToldUptoRow, standIns := [], harness := (true, "fdeb624a58fd5831c65887f87a4184b37b04e3d5925c0a5654449ff787bb18d3"), looks := false }, kinds := [], alts := [], laidByText := true, laidKinds := [.data], laidTests := true, laidLooks := .later }
def CrcToldUptoCardSaid : Prop := Claim7.holds Tryd.pinned (.plain (OpenSpec.upto crcToldSpec)) crcToldUptoCard

/-- THE SECOND FORM's CARD OF 'isobarlaw07.FramePuts'. -/
def framePutsUptoCard : Claim7 := { stood := { row := framePutsUptoRow, standIns := [], harness := (true, "fdeb624a58fd5831c65887f87a4184b37b04e3d5925c0a5654449ff787bb18d3"), looks := false }, kinds := [], alts := [], laidByText := true, laidKinds := [.data], laidTests := true, laidLooks := .later }
def FramePutsUptoCardSaid : Prop := Claim7.holds Tryd.pinned (.plain (OpenSpec.upto framePutsSpec)) framePutsUptoCard

/-- THE SECOND FORM's CARD OF 'isobarlaw07.FrameTakes'. -/
def frameTakesUptoCard : Claim7 := { stood := { row := frameTakesUptoRow, standIns := [], harness := (true, "fdeb624a58fd5831c65887f87a4184b37b04e3d5925c0a5654449ff787bb18d3"), looks := false }, kinds := [], alts := [], laidByText := true, laidKinds := [.data], laidTests := true, laidLooks := .later }
def FrameTakesUptoCardSaid : Prop := Claim7.holds Tryd.pinned (.plain (OpenSpec.upto frameTakesSpec)) frameTakesUptoCard

/-- THE SECOND FORM's CARD OF 'isobarlaw07.FrameCuts'. -/
def frameCutsUptoCard : Claim7 := { stood := { row := frameCutsUptoRow, standIns := [], harness := (true, "fdeb624a58fd5831c65887f87a4184b37b04e3d5925c0a5654449ff787bb18d3"), looks := false }, kinds := [], alts := [], laidByText := true, laidKinds := [.data], laidTests := true, laidLooks := .later }
def FrameCutsUptoCardSaid : Prop := Claim7.holds Tryd.pinned (.plain (OpenSpec.upto frameCutsSpec)) frameCutsUptoCard

/-- THE SECOND FORM's CARD OF 'isobarlaw07.FrameTorn'. -/
def frameTornUptoCard : Claim7 := { stood := { row := frameTornUptoRow, standIns := [], harness := (true, "fdeb624a58fd5831c65887f87a4184b37b04e3d5925c0a5654449ff787bb18d3"), looks := false }, kinds := [], alts := [], laidByText := true, laidKinds := [.data], laidTests := true, laidLooks := .later }
def FrameTornUptoCardSaid : Prop := Claim7.holds Tryd.pinned (.plain (OpenSpec.upto frameTornSpec)) frameTornUptoCard

/-- THE SECOND FORM's CARD OF 'isobarlaw07.FrameBack'. -/
def frameBackUptoCard : Claim7 := { stood := { row := frameBackUptoRow, standIns := [], harness := (true, "fdeb624a58fd5831c65887f87a4184b37b04e3d5925c0a5654449ff787bb18d3"), looks := false }, kinds := [], alts := [], laidByText := true, laidKinds := [.data], laidTests := true, laidLooks := .later }
def FrameBackUptoCardSaid : Prop := Claim7.holds Tryd.pinned (.plain (OpenSpec.upto frameBackSpec)) frameBackUptoCard

/-- THE SECOND FORM's CARD OF 'isobarlaw08.SegmentPuts'. -/
def segmentPutsUptoCard : Claim7 := { stood := { row := segmentPutsUptoRow, standIns := [], harness := (true, "fdeb624a58fd5831c65887f87a4184b37b04e3d5925c0a5654449ff787bb18d3"), looks := false }, kinds := [], alts := [], laidByText := true, laidKinds := [.data], laidTests := true, laidLooks := .later }
def SegmentPutsUptoCardSaid : Prop := Claim7.holds Tryd.pinned (.plain (OpenSpec.upto segmentPutsSpec)) segmentPutsUptoCard

/-- THE SECOND FORM's CARD OF 'isobarlaw08.SegmentScans'. -/
def segmentScansUptoCard : Claim7 := { stood := { row := segmentScansUptoRow, standIns := [], harness := (true, "fdeb624a58fd5831c65887f87a4184b37b04e3d5925c0a5654449ff787bb18d3"), looks := false }, kinds := [], alts := [], laidByText := true, laidKinds := [.data], laidTests := true, laidLooks := .later }
def SegmentScansUptoCardSaid : Prop := Claim7.holds Tryd.pinned (.plain (OpenSpec.upto segmentScansSpec)) segmentScansUptoCard

/-- THE SECOND FORM's CARD OF 'isobarlaw08.SegmentBack'. -/
def segmentBackUptoCard : Claim7 := { stood := { row := segmentBackUptoRow, standIns := [], harness := (true, "fdeb624a58fd5831c65887f87a4184b37b04e3d5925c0a5654449ff787bb18d3"), looks := false }, kinds := [], alts := [], laidByText := true, laidKinds := [.data], laidTests := true, laidLooks := .later }
def SegmentBackUptoCardSaid : Prop := Claim7.holds Tryd.pinned (.plain (OpenSpec.upto segmentBackSpec)) segmentBackUptoCard
end Rows
end Go.Proofs.YtkflikfcpdekdaaDoor
