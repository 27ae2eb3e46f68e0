/-
  From what a row reads to the walks' words: slices of bytes; the table.
-/
import Derived.Test.YtbekhbgeghhcaaaRows
import Derived.Test.YtbekhbgeghhcaaaLib
import Derived.ProofKit
import Derived.SizedLaws
import Derived.OpenShut
import Derived.ShutString
import Derived.ChangeOld
import Derived.LaidMore
import Derived.Lib.LaidTab
namespace Go.Proofs.Ytbekhbgeghhcaaa
open Go.ChangeShapes Go.WideShapes Go.ChangeAt Go.RowKit

theorem own : ownKnob Try.prog.godebug = none := by kernel_rfl
theorem laidOut : laidOutB Try.prog = true := by kernel_rfl

theorem bs_of_ints {W : World} {a : Addr} {len cap : Nat} {zs : List Int} (hl : len ≤ cap) (hm : cap ≤ maxLen) (hz : len ≤ zs.length)
    (hcell : ∀ i, i < zs.length → W.cell? (a.add i) = some (.int .u8 (zs.getD i 0))) (hwz : ∀ n ∈ zs, (Lit.int .u8 n).wf = true) :
    Bs W (some a) len cap ((zs.take len).map fun z => UInt8.ofNat z.toNat) := by
  refine ⟨by rw [bvs_length]; simp; omega, hl, hm, (fun h => by cases h), fun hn => ?_⟩
  obtain ⟨b, off, spot⟩ := a
  have hspot : spot = none := by simpa [Addr.add] using World.cell?_spot (hcell 0 (by omega))
  subst hspot
  refine ⟨b, off, rfl, fun i hi => ?_⟩
  rw [bvs_length, List.length_map, List.length_take] at hi
  have h1 := hcell i (by omega)
  rw [show (⟨b, off, none⟩ : Addr).add i = ⟨b, off + i, none⟩ by unfold Addr.add; split <;> simp_all] at h1
  rw [h1]
  have hw := hwz zs[i] (List.getElem_mem (by omega))
  have hb := bounds_u8 hw
  simp only [bvs, bv, List.getElem_map, List.getElem_take, List.getD, List.getElem?_eq_getElem (show i < zs.length by omega), Option.getD_some]
  congr 2
  simp
  omega

/-- A parameter that is a slice of bytes; how many its datum has. -/
theorem open_bs_d {H : Type} {enc : TypeId × Value → H} {W : World} {sp : Nat → Bool} {held : Bool} {base : Nat} {v : Value} {d : DataW H} {p : List MemPlace}
    (hok : Value.okWide Try.prog W .any base 22 v) (h : DataW.Trod enc Try.prog W 0 sp held 22 v d p) :
    ∃ a n c l, v = .slice a n c ∧ Bs W a n c l ∧ (n = 0 ∨ ∃ elems spare, d = .slice elems spare ∧ n = elems.length) := by
  obtain ⟨a, n, c, rfl⟩ := okWide_slice Try.underlying22 hok
  obtain ⟨fuel, hf⟩ := h
  rcases open_ints Try.underlying22 Try.underlying5 (by kernel_rfl) hf with ⟨hcs, _⟩ | ⟨x, l, c', zs, hcs, _, hl, hm, hz, hx, hcell, hwz⟩
  · simp [Value.cells] at hcs
    obtain ⟨rfl, rfl, rfl⟩ := hcs
    exact ⟨none, 0, 0, [], rfl, bs_nil _, .inl rfl⟩
  · simp [Value.cells] at hcs
    obtain ⟨rfl, rfl, rfl⟩ := hcs
    have hln : n ≤ zs.length := by rw [hz]; split <;> omega
    refine ⟨_, _, _, _, rfl, bs_of_ints hl hm hln hcell hwz, .inr ⟨_, _, (Prod.mk.inj hx).1, ?_⟩⟩
    simp [lits]
    omega
theorem open_bs {H : Type} {enc : TypeId × Value → H} {W : World} {sp : Nat → Bool} {held : Bool} {base : Nat} {v : Value} {d : DataW H} {p : List MemPlace}
    (hok : Value.okWide Try.prog W .any base 22 v) (h : DataW.Trod enc Try.prog W 0 sp held 22 v d p) :
    ∃ a n c l, v = .slice a n c ∧ Bs W a n c l := by
  obtain ⟨a, n, c, l, h1, h2, _⟩ := open_bs_d hok h
  exact ⟨a, n, c, l, h1, h2⟩
/-- The reach bounds it. -/
theorem open_bs_reach {H : Type} {ts : List TypeId} {ds : List (DataW H)} (hw : (DataW.weightsEach Try.prog ts ds).all (· ≤ reachBytes) = true) {j n : Nat} {d : DataW H} (ht : ts[j]? = some 22) (hd : ds[j]? = some d)
    (h : n = 0 ∨ ∃ elems spare, d = .slice elems spare ∧ n = elems.length) : n ≤ 140737488355328 := by
  rcases h with rfl | ⟨el, sp, rfl, rfl⟩
  · omega
  · have h1 := sized_slice hw ht hd Try.underlying22
    rw [show Try.prog.bytesOf 5 = 1 by kernel_rfl, show reachBytes = 140737488351232 from rfl] at h1
    omega
end Go.Proofs.Ytbekhbgeghhcaaa
