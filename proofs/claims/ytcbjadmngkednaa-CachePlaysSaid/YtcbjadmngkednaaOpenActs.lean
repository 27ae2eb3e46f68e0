/-
  A parameter that is a list of acts.
-/
import Derived.Test.YtcbjadmngkednaaOpenCache
import Derived.Test.YtcbjadmngkednaaLaw20f
namespace Go.Proofs.Ytcbjadmngkednaa
open Go.ChangeShapes Go.WideShapes Go.ChangeAt Go.RowKit Go.Deep

theorem wf_u8 {n : Int} (h : (Lit.int .u8 n).wf = true) : 0 ≤ n ∧ n < 256 := by
  have := bounds_u8 h
  omega
/-- A parameter that is a list of acts. -/
theorem open_acts {H : Type} {enc : TypeId × Value → H} {W : World} {spare : Nat → Bool} {held : Bool} {base : Nat} {v : Value} {d : DataW H} {p : List MemPlace}
    (hok : Value.okWide Try.prog W .any base 38 v) (h : DataW.Trod enc Try.prog W 0 spare held 38 v d p) :
    ∃ a n c L, v = .slice a n c ∧ Pas W a n c L ∧ ∀ x ∈ L, 0 ≤ x.path ∧ x.path < 256 ∧ 0 ≤ x.pol ∧ x.pol < 256 := by
  obtain ⟨fuel, hf⟩ := h
  obtain ⟨a0, n0, c0, rfl⟩ := okWide_slice Try.underlying38 hok
  rcases open_slice_fields (cs := [.slice a0 n0 c0]) Try.underlying38 Try.underlying42 (by kernel_rfl) (by kernel_rfl) (by simpa [Value.cells] using hf) with ⟨hcs, _⟩ | ⟨a, len, cap, m, D, Pl, hcs, _, hl, hm, hmm, hxx, hi⟩
  · simp at hcs
    obtain ⟨rfl, rfl, rfl⟩ := hcs
    exact ⟨none, 0, 0, [], rfl, Row.nil _ _ _, fun _ h => by cases h⟩
  · simp at hcs
    obtain ⟨rfl, rfl, rfl⟩ := hcs
    have hlm : n0 ≤ m := by rw [hmm]; split <;> omega
    have hel : ∀ i, i < n0 → ∃ x : Pa, (∀ j, j < 4 → W.cell? (a.add (i * 4 + j)) = (pac x)[j]?) ∧ 0 ≤ x.path ∧ x.path < 256 ∧ 0 ≤ x.pol ∧ x.pol < 256 := by
      intro i hil
      obtain ⟨ys, n, _, _, _, hf⟩ := hi i (by omega)
      obtain ⟨v0, y0, hc0, _, ht0⟩ := hf 0 _ rfl
      obtain ⟨v1, y1, hc1, _, ht1⟩ := hf 1 _ rfl
      obtain ⟨v2, y2, hc2, _, ht2⟩ := hf 2 _ rfl
      obtain ⟨v3, y3, hc3, _, ht3⟩ := hf 3 _ rfl
      obtain ⟨z0, e0, _⟩ := DataW.trod_bool Try.underlying4 ht0
      obtain ⟨z1, e1, _, b1⟩ := DataW.trod_int (k := .u8) Try.underlying5 ht1
      obtain ⟨z2, e2, _, _⟩ := DataW.trod_int (k := .i64) Try.underlying2 ht2
      obtain ⟨z3, e3, _, b3⟩ := DataW.trod_int (k := .u8) Try.underlying5 ht3
      simp only [List.cons.injEq, and_true] at e0 e1 e2 e3
      subst e0 e1 e2 e3
      refine ⟨⟨z0, z1, z2, z3⟩, fun j hj => ?_, (wf_u8 b1).1, (wf_u8 b1).2, (wf_u8 b3).1, (wf_u8 b3).2⟩
      match j, hj with
      | 0, _ => exact hc0
      | 1, _ => exact hc1
      | 2, _ => exact hc2
      | 3, _ => exact hc3
    obtain ⟨l, hlen, hl2⟩ := list_of _ n0 hel
    refine ⟨_, _, _, l, rfl, row_of pac_len (by decide) hlen hl hm (fun i hi => (hl2 i hi).1), fun x hx => ?_⟩
    obtain ⟨i, hi, rfl⟩ := List.getElem_of_mem hx
    exact (hl2 i hi).2
end Go.Proofs.Ytcbjadmngkednaa
