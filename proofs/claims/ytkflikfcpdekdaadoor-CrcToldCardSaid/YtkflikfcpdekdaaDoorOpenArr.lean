/-
  A parameter that is an array of four bytes.
-/
import Derived.Test.YtkflikfcpdekdaaDoorOpen
namespace Go.Proofs.YtkflikfcpdekdaaDoor
open Go.ChangeShapes Go.WideShapes Go.ChangeAt Go.RowKit

theorem okWide_arr {P : Program} {w : World} {base : Nat} {t e : TypeId} {v : Value} {n : Nat} (ht : P.underlying t = some (.array n e)) (h : Value.okWide P w .any base t v) : ∃ cs, v = .agg cs ∧ cs.size = P.cellsOf t := by
  simp only [Value.okWide, ht] at h
  obtain ⟨cs, h1, h2, _⟩ := h
  exact ⟨cs, h1, h2⟩

theorem byte_of_int {z : Int} (h : (Lit.int .u8 z).wf = true) : ∃ x : UInt8, Value.int .u8 z = bv x := by
  have hb := bounds_u8 h
  refine ⟨UInt8.ofNat z.toNat, ?_⟩
  unfold bv
  congr 1
  simp
  omega

theorem open_arr4 {H : Type} {enc : TypeId × Value → H} {W : World} {sp : Nat → Bool} {held : Bool} {base : Nat} {v : Value} {d : DataW H} {p : List MemPlace}
    (hok : Value.okWide Tryd.prog W .any base 34 v) (h : DataW.Trod enc Tryd.prog W 0 sp held 34 v d p) :
    ∃ y0 y1 y2 y3, v = .agg #[bv y0, bv y1, bv y2, bv y3] := by
  obtain ⟨cs, rfl, hsz⟩ := okWide_arr Tryd.underlying34 hok
  obtain ⟨fuel, hf⟩ := h
  have hc4 : Tryd.prog.cellsOf 34 = 4 := by kernel_rfl
  have hc1 : Tryd.prog.cellsOf 5 = 1 := by kernel_rfl
  obtain ⟨xs, m, rfl, _, _, hx, hel⟩ := DataW.trod_array Tryd.underlying34 hf
  obtain ⟨l⟩ := cs
  rw [hc4] at hsz
  simp only [List.size_toArray] at hsz
  match l, hsz with
  | [c0, c1, c2, c3], _ =>
    simp only [Value.cells, hc1] at hel
    have h0 := hel 0 (by decide)
    have h1 := hel 1 (by decide)
    have h2 := hel 2 (by decide)
    have h3 := hel 3 (by decide)
    simp at h0 h1 h2 h3
    rw [List.getElem?_eq_getElem (by omega)] at h0 h1 h2 h3
    obtain ⟨z0, e0, _, w0⟩ := DataW.trod_int Tryd.underlying5 h0
    obtain ⟨z1, e1, _, w1⟩ := DataW.trod_int Tryd.underlying5 h1
    obtain ⟨z2, e2, _, w2⟩ := DataW.trod_int Tryd.underlying5 h2
    obtain ⟨z3, e3, _, w3⟩ := DataW.trod_int Tryd.underlying5 h3
    simp at e0 e1 e2 e3
    subst e0 e1 e2 e3
    obtain ⟨y0, f0⟩ := byte_of_int w0
    obtain ⟨y1, f1⟩ := byte_of_int w1
    obtain ⟨y2, f2⟩ := byte_of_int w2
    obtain ⟨y3, f3⟩ := byte_of_int w3
    exact ⟨y0, y1, y2, y3, by rw [f0, f1, f2, f3]⟩
end Go.Proofs.YtkflikfcpdekdaaDoor
