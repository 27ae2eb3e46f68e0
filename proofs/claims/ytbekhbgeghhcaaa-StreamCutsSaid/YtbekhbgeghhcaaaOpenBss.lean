/-
  A parameter that is a slice of slices of bytes.
-/
import Derived.Test.YtbekhbgeghhcaaaOpen
import Derived.Deep.Matrix
namespace Go.Proofs.Ytbekhbgeghhcaaa
open Go.ChangeShapes Go.WideShapes Go.ChangeAt Go.RowKit

theorem open_bss {H : Type} {enc : TypeId × Value → H} {W : World} {held : Bool} {base : Nat} {v : Value} {d : DataW H} {p : List MemPlace}
    (hok : Value.okWide Try.prog W .any base 38 v) (h : DataW.Trod enc Try.prog W 0 (fun _ => true) held 38 v d p) :
    ∃ a n c L, v = .slice a n c ∧ Bss W a n c L := by
  obtain ⟨a, n, c, rfl⟩ := okWide_slice Try.underlying38 hok
  obtain ⟨fuel, hf⟩ := h
  rcases Deep.open_int_rows Try.underlying38 Try.underlying22 Try.underlying5 (by kernel_rfl) (by kernel_rfl) hf with ⟨hcs, _⟩ | ⟨x, len, cap, A, Ln, C, Z, hcs, _, hl, hm, _, hrow⟩
  · simp [Value.cells] at hcs
    obtain ⟨rfl, rfl, rfl⟩ := hcs
    exact ⟨none, 0, 0, [], rfl, [], ⟨rfl, Nat.le_refl _, Nat.zero_le _, fun _ => rfl, fun h => absurd h (by omega)⟩, rfl, fun i hi => by simp at hi⟩
  · simp [Value.cells] at hcs
    obtain ⟨rfl, rfl, rfl⟩ := hcs
    refine ⟨_, _, _, (List.range n).map fun r => ((Z r).take (Ln r)).map fun z => UInt8.ofNat z.toNat, rfl, (List.range n).map fun r => .slice (A r) (Ln r) (C r), ?_, ?_⟩
    · refine ⟨by simp, hl, hm, (fun h => by cases h), fun hn => ?_⟩
      obtain ⟨b, off, spot⟩ := x
      have hspot : spot = none := by simpa [Addr.add] using World.cell?_spot (hrow 0 (by omega)).1
      subst hspot
      refine ⟨b, off, rfl, fun i hi => ?_⟩
      simp at hi
      have h1 := (hrow i (by omega)).1
      rw [show (⟨b, off, none⟩ : Addr).add i = ⟨b, off + i, none⟩ by unfold Addr.add; split <;> simp_all] at h1
      rw [h1]
      simp
    · refine ⟨by simp, fun i hi => ?_⟩
      simp at hi
      obtain ⟨_, h2, h3, h4, h5, h6, h7⟩ := hrow i (by omega)
      refine ⟨A i, Ln i, C i, by simp [hi], ?_⟩
      have hgoal : Bs W (A i) (Ln i) (C i) (((Z i).take (Ln i)).map fun z => UInt8.ofNat z.toNat) := by
        cases hA : A i with
        | none =>
          have hc0 := h6 hA
          have hl0 : Ln i = 0 := by omega
          rw [hl0, hc0]
          exact bs_nil _
        | some y =>
          exact bs_of_ints h2 h3 (by omega) (fun j hj => (h7 y hA).2 j (by omega)) h5
      simpa using hgoal
end Go.Proofs.Ytbekhbgeghhcaaa
