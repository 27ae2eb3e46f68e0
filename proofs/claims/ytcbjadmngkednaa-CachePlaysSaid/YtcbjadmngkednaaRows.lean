/-
  No cell of these rows narrows 'for every input' (looked for: loops, veiled, ifaces, maps, wideKeys, modest, calm, conditions, laid).
  DERIVED. THE GIVEN ROWS OF THIS SEAT. 5 by the template 'for every input the law returns true; each argument reads behind the call as it read before'; 0 by the template 'total and deterministic' (their statements: YtcbjadmngkednaaTotals.lean).
  GIVEN WITH THE SEED: the statements are not yours to turn. If you find one false, say at which input.
  Laid BY PROGRAM, IN A SANDBOX (cutbox-rows.mjs): the forced cells as the released guide's own fill.sh prints them over the translation 49e7df132d7fd6af… (all of the seat's roots in one cut). By AI agents, Wed Nov 11 2026. No macro, syntax, notation, axiom, sorry.
-/
import Derived.Test.YtcbjadmngkednaaChecked
import GoSem.Claim
import GoSem.ClaimJoined
import GoSem.ClaimMapViews
import Derived.JoinedTies
import Derived.KernelRfl
namespace Go.Proofs.Ytcbjadmngkednaa
/- THE CELL 'sum', in the pinned program and in every row, IS THE sha256 OF THE DUMP (.gsa) THAT YtcbjadmngkednaaProg.lean LOADS. Nothing in Lean hashes anything: it is a label: what it is worth is what the hold of that sum in a sandbox is worth. -/
noncomputable def Try.pinned : Pinned := { name := "ytcbjadmngkednaa", sum := "49e7df132d7fd6af0259169ec8ba6055944627acb24c2814e6a35128174dff5c", checked := Try.checked }
namespace Rows
def none {H : Type} : Left H := { results := [], args := [] }

/-- 'isobarlaw20.CacheAdds': WHATEVER THE INPUT: true; the input reads as it did. -/
def cacheAddsSpec : ChangeSpec := { name := "cacheAdds", fn := fun _ => fun
  | [d1, d2, d3] => { results := [.lit (.bool true)], args := [d1, d2, d3] }
  | _ => none }
def cacheAddsRow : OpenClaim := { program := "ytcbjadmngkednaa", sum := "49e7df132d7fd6af0259169ec8ba6055944627acb24c2814e6a35128174dff5c", func := "isobar/isobarlaw20.CacheAdds", spec := "cacheAdds", inPlace := ["internal/bytealg.abigen_runtime_cmpstring", "slices.overlaps[isobar/api.Wait]"], unfollowed := true, recurses := true, apart := false }
def CacheAddsSaid : Prop := cacheAddsRow.holds Try.pinned (OpenSpec.ofChange cacheAddsSpec)

/-- ITS FALSE NEIGHBOUR: 'it returns false'. Refute it at one input. -/
def cacheAddsWrong : ChangeSpec := { name := "cacheAdds", fn := fun _ => fun
  | [d1, d2, d3] => { results := [.lit (.bool false)], args := [d1, d2, d3] }
  | _ => none }
def CacheAddsWrongFalsely : Prop := cacheAddsRow.holds Try.pinned (OpenSpec.ofChange cacheAddsWrong)

/-- 'isobarlaw20.CacheNew': WHATEVER THE INPUT: true; the input reads as it did. -/
def cacheNewSpec : ChangeSpec := { name := "cacheNew", fn := fun _ => fun
  | [d] => { results := [.lit (.bool true)], args := [d] }
  | _ => none }
def cacheNewRow : OpenClaim := { program := "ytcbjadmngkednaa", sum := "49e7df132d7fd6af0259169ec8ba6055944627acb24c2814e6a35128174dff5c", func := "isobar/isobarlaw20.CacheNew", spec := "cacheNew", inPlace := ["internal/bytealg.abigen_runtime_cmpstring", "slices.overlaps[isobar/api.Wait]"], unfollowed := true, recurses := true, apart := false }
def CacheNewSaid : Prop := cacheNewRow.holds Try.pinned (OpenSpec.ofChange cacheNewSpec)

/-- ITS FALSE NEIGHBOUR: 'it returns false'. Refute it at one input. -/
def cacheNewWrong : ChangeSpec := { name := "cacheNew", fn := fun _ => fun
  | [d] => { results := [.lit (.bool false)], args := [d] }
  | _ => none }
def CacheNewWrongFalsely : Prop := cacheNewRow.holds Try.pinned (OpenSpec.ofChange cacheNewWrong)

/-- 'isobarlaw20.CachePlays': WHATEVER THE INPUT: true; the input reads as it did. -/
def cachePlaysSpec : ChangeSpec := { name := "cachePlays", fn := fun _ => fun
  | [d1, d2] => { results := [.lit (.bool true)], args := [d1, d2] }
  | _ => none }
def cachePlaysRow : OpenClaim := { program := "ytcbjadmngkednaa", sum := "49e7df132d7fd6af0259169ec8ba6055944627acb24c2814e6a35128174dff5c", func := "isobar/isobarlaw20.CachePlays", spec := "cachePlays", inPlace := ["internal/bytealg.abigen_runtime_cmpstring", "slices.overlaps[isobar/api.Wait]"], unfollowed := true, recurses := true, apart := false }
def CachePlaysSaid : Prop := cachePlaysRow.holds Try.pinned (OpenSpec.ofChange cachePlaysSpec)

/-- ITS FALSE NEIGHBOUR: 'it returns false'. Refute it at one input. -/
def cachePlaysWrong : ChangeSpec := { name := "cachePlays", fn := fun _ => fun
  | [d1, d2] => { results := [.lit (.bool false)], args := [d1, d2] }
  | _ => none }
def CachePlaysWrongFalsely : Prop := cachePlaysRow.holds Try.pinned (OpenSpec.ofChange cachePlaysWrong)

/-- 'isobarlaw20.CacheTakes': WHATEVER THE INPUT: true; the input reads as it did. -/
def cacheTakesSpec : ChangeSpec := { name := "cacheTakes", fn := fun _ => fun
  | [d1, d2, d3] => { results := [.lit (.bool true)], args := [d1, d2, d3] }
  | _ => none }
def cacheTakesRow : OpenClaim := { program := "ytcbjadmngkednaa", sum := "49e7df132d7fd6af0259169ec8ba6055944627acb24c2814e6a35128174dff5c", func := "isobar/isobarlaw20.CacheTakes", spec := "cacheTakes", inPlace := ["internal/bytealg.abigen_runtime_cmpstring", "slices.overlaps[isobar/api.Wait]"], unfollowed := true, recurses := true, apart := false }
def CacheTakesSaid : Prop := cacheTakesRow.holds Try.pinned (OpenSpec.ofChange cacheTakesSpec)

/-- ITS FALSE NEIGHBOUR: 'it returns false'. Refute it at one input. -/
def cacheTakesWrong : ChangeSpec := { name := "cacheTakes", fn := fun _ => fun
  | [d1, d2, d3] => { results := [.lit (.bool false)], args := [d1, d2, d3] }
  | _ => none }
def CacheTakesWrongFalsely : Prop := cacheTakesRow.holds Try.pinned (OpenSpec.ofChange cacheTakesWrong)

/-- 'isobarlaw20.CacheTaken': WHATEVER THE INPUT: true; the input reads as it did. -/
def cacheTakenSpec : ChangeSpec := { name := "cacheTaken", fn := fun _ => fun
  | [d1, d2, d3] => { results := [.lit (.bool true)], args := [d1, d2, d3] }
  | _ => none }
def cacheTakenRow : OpenClaim := { program := "ytcbjadmngkednaa", sum := "49e7df132d7fd6af0259169ec8ba6055944627acb24c2814e6a35128174dff5c", func := "isobar/isobarlaw20.CacheTaken", spec := "cacheTaken", inPlace := ["internal/bytealg.abigen_runtime_cmpstring", "slices.overlaps[isobar/api.Wait]"], unfollowed := true, recurses := true, apart := false }
def CacheTakenSaid : Prop := cacheTakenRow.holds Try.pinned (OpenSpec.ofChange cacheTakenSpec)

/-- ITS FALSE NEIGHBOUR: 'it returns false'. Refute it at one input. -/
def cacheTakenWrong : ChangeSpec := { name := "cacheTaken", fn := fun _ => fun
  | [d1, d2, d3] => { results := [.lit (.bool false)], args := [d1, d2, d3] }
  | _ => none }
def CacheTakenWrongFalsely : Prop := cacheTakenRow.holds Try.pinned (OpenSpec.ofChange cacheTakenWrong)

/- THE SECOND FORM. 'bulk': how many values and letters a reading holds, each counted each time it is reached (what is shared counts as often as it is met; a slice's spare places count too). A statement '..UptoSaid' is the law's where the arguments, and the package variables that the reading takes, are together of bulk at most 1048576: NARROWER than '..Said'. Prove '..Said' where nothing that the law and all that it calls make is longer than what came in: it says more and counts as full. Else prove '..UptoSaid'. A law counts once. -/
mutual
def uptoBulk {H : Type} : DataW H → Nat
  | .lit (.string bytes) => bytes.length + 1
  | .lit _ => 1
  | .nil => 1
  | .ptr d => uptoBulk d + 1
  | .slice elems spare => uptoBulkAll elems + uptoBulkAll spare + 1
  | .agg parts => uptoBulkAll parts + 1
  | .iface _ d => uptoBulk d + 1
  | .map entries => uptoBulkEntries entries + 1
  | .held _ => 1
def uptoBulkAll {H : Type} : List (DataW H) → Nat
  | [] => 0
  | d :: r => uptoBulk d + uptoBulkAll r
def uptoBulkEntries {H : Type} : List (Lit × DataW H) → Nat
  | [] => 0
  | x :: r => uptoBulkEntry x + uptoBulkEntries r
def uptoBulkEntry {H : Type} : Lit × DataW H → Nat
  | (.string bytes, d) => bytes.length + uptoBulk d + 1
  | (_, d) => uptoBulk d + 1
 end
def uptoSmall : (H : Type) → List (DataW H) → Bool := fun _ ds => decide (uptoBulkAll ds ≤ 1048576)
def OpenSpec.upto (s : _root_.Go.ChangeSpec) : _root_.Go.OpenSpec := { _root_.Go.OpenSpec.ofChange s with cond := some uptoSmall }

/-- 'isobarlaw20.CacheAdds', WHERE WHAT IT READS IS OF BULK AT MOST 1048576: true; the input reads as it did. -/
def cacheAddsUptoRow : OpenClaim := { program := "ytcbjadmngkednaa", sum := "49e7df132d7fd6af0259169ec8ba6055944627acb24c2814e6a35128174dff5c", func := "isobar/isobarlaw20.CacheAdds", spec := "cacheAdds", inPlace := ["internal/bytealg.abigen_runtime_cmpstring", "slices.overlaps[isobar/api.Wait]"], unfollowed := true, recurses := true, apart := false, narrowed := true }
def CacheAddsUptoSaid : Prop := cacheAddsUptoRow.holds Try.pinned (OpenSpec.upto cacheAddsSpec)

/-- 'isobarlaw20.CacheNew', WHERE WHAT IT READS IS OF BULK AT MOST 1048576: true; the input reads as it did. -/
def cacheNewUptoRow : OpenClaim := { program := "ytcbjadmngkednaa", sum := "49e7df132d7fd6af0259169ec8ba6055944627acb24c2814e6a35128174dff5c", func := "isobar/isobarlaw20.CacheNew", spec := "cacheNew", inPlace := ["internal/bytealg.abigen_runtime_cmpstring", "slices.overlaps[isobar/api.Wait]"], unfollowed := true, recurses := true, apart := false, narrowed := true }
def CacheNewUptoSaid : Prop := cacheNewUptoRow.holds Try.pinned (OpenSpec.upto cacheNewSpec)

/-- 'isobarlaw20.CachePlays', WHERE WHAT IT READS IS OF BULK AT MOST 1048576: true; the input reads as it did. -/
def cachePlaysUptoRow : OpenClaim := { program := "ytcbjadmngkednaa", sum := "49e7df132d7fd6af0259169ec8ba6055944627acb24c2814e6a35128174dff5c", func := "isobar/isobarlaw20.CachePlays", spec := "cachePlays", inPlace := ["internal/bytealg.abigen_runtime_cmpstring", "slices.overlaps[isobar/api.Wait]"], unfollowed := true, recurses := true, apart := false, narrowed := true }
def CachePlaysUptoSaid : Prop := cachePlaysUptoRow.holds Try.pinned (OpenSpec.upto cachePlaysSpec)

/-- 'isobarlaw20.CacheTakes', WHERE WHAT IT READS IS OF BULK AT MOST 1048576: true; the input reads as it did. -/
def cacheTakesUptoRow : OpenClaim := { program := "ytcbjadmngkednaa", sum := "49e7df132d7fd6af0259169ec8ba6055944627acb24c2814e6a35128174dff5c", func := "isobar/isobarlaw20.CacheTakes", spec := "cacheTakes", inPlace := ["internal/bytealg.abigen_runtime_cmpstring", "slices.overlaps[isobar/api.Wait]"], unfollowed := true, recurses := true, apart := false, narrowed := true }
def CacheTakesUptoSaid : Prop := cacheTakesUptoRow.holds Try.pinned (OpenSpec.upto cacheTakesSpec)

/-- 'isobarlaw20.CacheTaken', WHERE WHAT IT READS IS OF BULK AT MOST 1048576: true; the input reads as it did. -/
def cacheTakenUptoRow : OpenClaim := { program := "ytcbjadmngkednaa", sum := "49e7df132d7fd6af0259169ec8ba6055944627acb24c2814e6a35128174dff5c", func := "isobar/isobarlaw20.CacheTaken", spec := "cacheTaken", inPlace := ["internal/bytealg.abigen_runtime_cmpstring", "slices.overlaps[isobar/api.Wait]"], unfollowed := true, recurses := true, apart := false, narrowed := true }
def CacheTakenUptoSaid : Prop := cacheTakenUptoRow.holds Try.pinned (OpenSpec.upto cacheTakenSpec)

end Rows
end Go.Proofs.Ytcbjadmngkednaa
