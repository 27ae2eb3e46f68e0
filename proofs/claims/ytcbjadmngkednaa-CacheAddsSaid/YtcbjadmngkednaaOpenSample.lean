/-
  A parameter that is a sample.
-/
import Derived.Test.YtcbjadmngkednaaOpenCache
namespace Go.Proofs.Ytcbjadmngkednaa
open Go.ChangeShapes Go.WideShapes Go.ChangeAt Go.RowKit Go.Deep

theorem open_agg3 {H : Type} {enc : TypeId × Value → H} {P : Program} {w : World} {base : Nat} {spare : Nat → Bool} {held : Bool} {r : Reach} {b0 : Nat} {t : TypeId} {f0 f1 f2 : Field} {v : Value} {d : DataW H} {p : List MemPlace} (hs : P.underlying t = some (.struct #[f0, f1, f2])) (hone : oneCellFields P #[f0, f1, f2] = true) (hC : P.cellsOf t = 3)
    (hv : Value.okWide P w r b0 t v) (h : DataW.Trod enc P w base spare held t v d p) :
    ∃ (v0 v1 v2 : Value) (y0 y1 y2 : DataW H × List MemPlace) (n : Nat), v = .agg #[v0, v1, v2] ∧ d = .agg [y0.1, y1.1, y2.1] ∧
      DataW.trod enc P w base spare held n f0.type [v0] = some y0 ∧ DataW.trod enc P w base spare held n f1.type [v1] = some y1 ∧ DataW.trod enc P w base spare held n f2.type [v2] = some y2 := by
  obtain ⟨cs, rfl, hsz⟩ := okWide_struct hs hv
  obtain ⟨l⟩ := cs
  match l, hsz.trans hC with
  | [c0, c1, c2], _ =>
    obtain ⟨fuel, hf⟩ := h
    obtain ⟨xs, n, _, hx, _, hlen, hg⟩ := DataW.trod_struct hs hf
    obtain ⟨o0, k0⟩ := hone_of hone 0 f0 rfl
    obtain ⟨o1, k1⟩ := hone_of hone 1 f1 rfl
    obtain ⟨o2, k2⟩ := hone_of hone 2 f2 rfl
    match xs, hlen with
    | [y0, y1, y2], _ =>
      simp only [Prod.mk.injEq] at hx
      exact ⟨c0, c1, c2, y0, y1, y2, n, rfl, by simpa using hx.1, by simpa [Value.cells, o0, k0] using hg 0 f0 rfl, by simpa [Value.cells, o1, k1] using hg 1 f1 rfl, by simpa [Value.cells, o2, k2] using hg 2 f2 rfl⟩
/-- A parameter that is a sample. -/
theorem open_sample {H : Type} {enc : TypeId × Value → H} {W : World} {spare : Nat → Bool} {held : Bool} {base : Nat} {v : Value} {d : DataW H} {p : List MemPlace} {ts : List TypeId} {ds : List (DataW H)}
    (hok : Value.okWide Try.prog W .any base 26 v) (h : DataW.Trod enc Try.prog W 0 spare held 26 v d p) (hw : (DataW.weightsEach Try.prog ts ds).all (· ≤ reachBytes) = true) {j : Nat} (ht : ts[j]? = some 26) (hd : ds[j]? = some d) :
    ∃ (s : List UInt8) (val tim : Int), v = .agg #[.string ⟨s.toArray⟩, .int .i64 val, .int .i64 tim] ∧ s.length ≤ 140737488355328 := by
  obtain ⟨v0, v1, v2, y0, y1, y2, m, rfl, hdd, t0, t1, t2⟩ := open_agg3 Try.underlying26 (by kernel_rfl) (by kernel_rfl) hok h
  have hsub : ∀ k ∈ d.weights Try.prog 26, k ≤ reachBytes := fun k hk => by
    have := List.all_eq_true.1 hw _ (DataW.weights_mem_each ht hd k hk)
    simpa using this
  have hsub2 : ∀ k ∈ DataW.weightsEach Try.prog [9, 2, 3] [y0.1, y1.1, y2.1], k ≤ reachBytes := fun k hk => hsub k (by
    rw [hdd]
    simp only [DataW.weights, Try.underlying26]
    exact hk)
  obtain ⟨s0, e0, es0, _⟩ := DataW.trod_string Try.underlying9 t0
  obtain ⟨z1, e1, _, _⟩ := DataW.trod_int (k := .i64) Try.underlying2 t1
  obtain ⟨z2, e2, _, _⟩ := DataW.trod_int (k := .i64) Try.underlying3 t2
  simp only [List.cons.injEq, and_true] at e0 e1 e2
  subst e0 e1 e2
  have hsl : s0.data.toList.length ≤ reachBytes := hsub2 _ (by rw [es0]; simp [DataW.weightsEach, DataW.weights])
  rw [show reachBytes = 140737488351232 from rfl] at hsl
  exact ⟨s0.data.toList, z1, z2, by simp, by omega⟩
end Go.Proofs.Ytcbjadmngkednaa
