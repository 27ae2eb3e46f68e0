/-
  Layer 6 without the program: an elder file, a newer one, a rename, a crash.
-/
import Derived.Test.YtponbponacdhkaaDkAlive
namespace Go.Proofs.Ytponbponacdhkaa
open Go.RowKit

theorem one1 : createD ⟨1000, [], [], [], [], 1⟩ [97] = (⟨1000, [⟨1, [], 0⟩], [([97], 1)], [], [⟨1, [97], [], 1⟩], 2⟩, 0) := rfl
theorem one2 (old : List UInt8) (h : old.length ≤ 400) : appendD ⟨1000, [⟨1, [], 0⟩], [([97], 1)], [], [⟨1, [97], [], 1⟩], 2⟩ [97] old = (⟨1000, [⟨1, old, 0⟩], [([97], 1)], [], [⟨1, [97], [], 1⟩], 2⟩, 0) := by
  have h1 : ¬ (1000 : Int) - ((0 : Nat) : Int) < (old.length : Int) := by omega
  show (if (1000 : Int) - ((0 : Nat) : Int) < (old.length : Int) then _ else _) = _
  rw [if_neg h1]
  rfl
theorem one3 (old : List UInt8) : syncD ⟨1000, [⟨1, old, 0⟩], [([97], 1)], [], [⟨1, [97], [], 1⟩], 2⟩ [97] = (⟨1000, [⟨1, old, old.length⟩], [([97], 1)], [], [⟨1, [97], [], 1⟩], 2⟩, 0) := rfl
theorem one4 (old : List UInt8) : syncdirD ⟨1000, [⟨1, old, old.length⟩], [([97], 1)], [], [⟨1, [97], [], 1⟩], 2⟩ = (⟨1000, [⟨1, old, old.length⟩], [([97], 1)], [([97], 1)], [], 2⟩, 0) := rfl
theorem one5 (old : List UInt8) : createD ⟨1000, [⟨1, old, old.length⟩], [([97], 1)], [([97], 1)], [], 2⟩ [98] = (⟨1000, [⟨1, old, old.length⟩, ⟨2, [], 0⟩], [([97], 1), ([98], 2)], [([97], 1)], [⟨1, [98], [], 2⟩], 3⟩, 0) := rfl
theorem one6 (old young : List UInt8) (h : old.length ≤ 400) (h2 : young.length ≤ 400) : appendD ⟨1000, [⟨1, old, old.length⟩, ⟨2, [], 0⟩], [([97], 1), ([98], 2)], [([97], 1)], [⟨1, [98], [], 2⟩], 3⟩ [98] young = (⟨1000, [⟨1, old, old.length⟩, ⟨2, young, 0⟩], [([97], 1), ([98], 2)], [([97], 1)], [⟨1, [98], [], 2⟩], 3⟩, 0) := by
  have h1 : ¬ (1000 : Int) - ((old.length + (0 + 0) : Nat) : Int) < (young.length : Int) := by omega
  show (if (1000 : Int) - ((old.length + (0 + 0) : Nat) : Int) < (young.length : Int) then _ else _) = _
  rw [if_neg h1]
  rfl
theorem one7 (old young : List UInt8) : syncD ⟨1000, [⟨1, old, old.length⟩, ⟨2, young, 0⟩], [([97], 1), ([98], 2)], [([97], 1)], [⟨1, [98], [], 2⟩], 3⟩ [98] = (⟨1000, [⟨1, old, old.length⟩, ⟨2, young, young.length⟩], [([97], 1), ([98], 2)], [([97], 1)], [⟨1, [98], [], 2⟩], 3⟩, 0) := rfl
theorem one8 (old young : List UInt8) : renameD ⟨1000, [⟨1, old, old.length⟩, ⟨2, young, young.length⟩], [([97], 1), ([98], 2)], [([97], 1)], [⟨1, [98], [], 2⟩], 3⟩ [98] [97] = (⟨1000, [⟨1, old, old.length⟩, ⟨2, young, young.length⟩], [([97], 2)], [([97], 1)], [⟨1, [98], [], 2⟩, ⟨3, [98], [97], 0⟩], 3⟩, 0) := rfl
theorem one9 (old young : List UInt8) : syncdirD ⟨1000, [⟨1, old, old.length⟩, ⟨2, young, young.length⟩], [([97], 2)], [([97], 1)], [⟨1, [98], [], 2⟩, ⟨3, [98], [97], 0⟩], 3⟩ = (⟨1000, [⟨2, young, young.length⟩], [([97], 2)], [([97], 2)], [], 3⟩, 0) := rfl
theorem crashF_nil (f : Fl) : crashF [] f = ⟨f.id, f.bytes.take f.sure.toNat, f.sure⟩ := by unfold crashF keepN; simp
theorem take_sure (l : List UInt8) : l.take ((l.length : Int)).toNat = l := by rw [Int.toNat_natCast, List.take_length]
theorem one_read {D : Dk} {id : Int} {l rl : List UInt8} {rerr : Int} (h : ReadPost D [97] rl rerr) (hn : findN [97] D.names = some ([97], id)) (hf : ∀ (t : Nat) (ht : t < D.files.length), D.files[t].id = id → D.files[t].bytes = l) : rl = l ∧ rerr = 0 := by
  rcases h with ⟨h, _, _⟩ | ⟨z, t, ht, h1, h2, h3, h4⟩
  · rw [hn] at h; cases h
  · rw [hn] at h1
    obtain rfl : id = z := by simpa using h1
    exact ⟨h3.trans (hf t ht h2), h4⟩
theorem one_end9 (_old young rl : List UInt8) (rerr : Int) (h : ReadPost (crashD ⟨1000, [⟨2, young, young.length⟩], [([97], 2)], [([97], 2)], [], 3⟩ [([97], 2)] []) [97] rl rerr) : rl = young ∧ rerr = 0 := by
  refine one_read h rfl fun t ht he => ?_
  have h1 : t < 1 := ht
  obtain rfl : t = 0 := by omega
  show (crashF [] ⟨2, young, young.length⟩).bytes = young
  rw [crashF_nil]
  exact take_sure young
theorem one_end0 (old young rl : List UInt8) (rerr : Int) (h : ReadPost (crashD ⟨1000, [⟨1, old, old.length⟩, ⟨2, young, young.length⟩], [([97], 2)], [([97], 1)], [⟨1, [98], [], 2⟩, ⟨3, [98], [97], 0⟩], 3⟩ [([97], 1)] []) [97] rl rerr) : rl = old ∧ rerr = 0 := by
  refine one_read h rfl fun t ht he => ?_
  have h1 : t < 1 := ht
  obtain rfl : t = 0 := by omega
  show (crashF [] ⟨1, old, old.length⟩).bytes = old
  rw [crashF_nil]
  exact take_sure old
theorem one_end1 (old young rl : List UInt8) (rerr : Int) (h : ReadPost (crashD ⟨1000, [⟨1, old, old.length⟩, ⟨2, young, young.length⟩], [([97], 2)], [([97], 1)], [⟨1, [98], [], 2⟩, ⟨3, [98], [97], 0⟩], 3⟩ [([97], 1), ([98], 2)] []) [97] rl rerr) : rl = old ∧ rerr = 0 := by
  refine one_read h rfl fun t ht he => ?_
  have h1 : t < 2 := ht
  obtain rfl | rfl : t = 0 ∨ t = 1 := by omega
  · show (crashF [] ⟨1, old, old.length⟩).bytes = old
    rw [crashF_nil]
    exact take_sure old
  · exact absurd (show (2 : Int) = 1 from he) (by decide)
theorem one_end2 (old young rl : List UInt8) (rerr : Int) (h : ReadPost (crashD ⟨1000, [⟨1, old, old.length⟩, ⟨2, young, young.length⟩], [([97], 2)], [([97], 1)], [⟨1, [98], [], 2⟩, ⟨3, [98], [97], 0⟩], 3⟩ [([97], 2)] []) [97] rl rerr) : rl = young ∧ rerr = 0 := by
  refine one_read h rfl fun t ht he => ?_
  have h1 : t < 1 := ht
  obtain rfl : t = 0 := by omega
  show (crashF [] ⟨2, young, young.length⟩).bytes = young
  rw [crashF_nil]
  exact take_sure young
end Go.Proofs.Ytponbponacdhkaa
