/-
  A parameter that is a list of records.
-/
import Derived.Test.YtkflikfcpdekdaaDoorOpenRec
import Derived.Test.YtkflikfcpdekdaaDoorRecs
namespace Go.Proofs.YtkflikfcpdekdaaDoor
open Go.ChangeShapes Go.WideShapes Go.ChangeAt Go.RowKit Go.Deep

theorem list_of {α : Type} (Q : Nat → α → Prop) : ∀ len, (∀ i, i < len → ∃ e, Q i e) → ∃ l : List α, l.length = len ∧ ∀ i (hi : i < l.length), Q i l[i]
  | 0, _ => ⟨[], rfl, fun i hi => by simp at hi⟩
  | k + 1, h => by
    obtain ⟨l, h1, h2⟩ := list_of Q k (fun i hi => h i (by omega))
    obtain ⟨x, hx⟩ := h k (by omega)
    refine ⟨l ++ [x], by simp [h1], fun i hi => ?_⟩
    by_cases hlt : i < l.length
    · rw [List.getElem_append_left hlt]; exact h2 i hlt
    · have : i = k := by simp at hi; omega
      subst this
      have e : (l ++ [x])[i] = x := by rw [List.getElem_append_right (by omega)]; simp [h1]
      rw [e]; exact hx

theorem open_recs {H : Type} {enc : TypeId × Value → H} {W : World} {spare : Nat → Bool} {held : Bool} {base : Nat} {v : Value} {d : DataW H} {p : List MemPlace}
    (hok : Value.okWide Tryd.prog W .any base 51 v) (h : DataW.Trod enc Tryd.prog W 0 spare held 51 v d p) :
    ∃ a n c M, v = .slice a n c ∧ Rcs W a n c M ∧ ∀ e ∈ M, valued e.1 := by
  obtain ⟨a, n, c, rfl⟩ := okWide_slice Tryd.underlying51 hok
  obtain ⟨fuel, hf⟩ := h
  rcases open_slice_fields Tryd.underlying51 Tryd.underlying48 (by kernel_rfl) (by kernel_rfl) hf with ⟨hcs, _⟩ | ⟨x, len, cap, m, D, Pl, hcs, _, hl, hm, hmm, hxx, hi⟩
  · simp [Value.cells] at hcs
    obtain ⟨rfl, rfl, rfl⟩ := hcs
    exact ⟨none, 0, 0, [], rfl, ⟨⟨rfl, Nat.le_refl _, Nat.zero_le _, fun _ => rfl, fun h => absurd h (by omega)⟩, fun _ h => by cases h⟩, fun _ h => by cases h⟩
  · simp [Value.cells] at hcs
    obtain ⟨rfl, rfl, rfl⟩ := hcs
    have hlm : n ≤ m := by rw [hmm]; split <;> omega
    have hel : ∀ i, i < n → ∃ e : El, (∀ j, j < 9 → W.cell? (x.add (i * 9 + j)) = (ecells e)[j]?) ∧ Rg W e.2.1 e.2.2.1 e.2.2.2 e.1.rungs ∧ valued e.1 := by
      intro i hil
      obtain ⟨ys, k, _, _, _, hg⟩ := hi i (by omega)
      obtain ⟨v0, y0, hc0, _, t0⟩ := hg 0 _ rfl
      obtain ⟨v1, y1, hc1, _, t1⟩ := hg 1 _ rfl
      obtain ⟨v2, y2, hc2, _, t2⟩ := hg 2 _ rfl
      obtain ⟨v3, y3, hc3, _, t3⟩ := hg 3 _ rfl
      obtain ⟨v4, y4, hc4, _, t4⟩ := hg 4 _ rfl
      obtain ⟨v5, y5, hc5, _, t5⟩ := hg 5 _ rfl
      obtain ⟨v6, y6, hc6, _, t6⟩ := hg 6 _ rfl
      obtain ⟨v7, y7, hc7, _, t7⟩ := hg 7 _ rfl
      obtain ⟨v8, y8, hc8, _, t8⟩ := hg 8 _ rfl
      obtain ⟨z0, e0, _, _⟩ := DataW.trod_int (k := .i64) Tryd.underlying3 t0
      obtain ⟨s1, e1, _, _⟩ := DataW.trod_string Tryd.underlying9 t1
      obtain ⟨z2, e2, _, _⟩ := DataW.trod_int (k := .i64) Tryd.underlying3 t2
      obtain ⟨z3, e3, _, _⟩ := DataW.trod_int (k := .i64) Tryd.underlying2 t3
      obtain ⟨a, n, c, l, e4, hr⟩ := rg_of_trod t4
      obtain ⟨z5, e5, _, _⟩ := DataW.trod_int (k := .i64) Tryd.underlying3 t5
      obtain ⟨z6, e6, _, _⟩ := DataW.trod_int (k := .i64) Tryd.underlying3 t6
      obtain ⟨z7, e7, _, _⟩ := DataW.trod_int (k := .i64) Tryd.underlying3 t7
      obtain ⟨z8, e8, _, w8⟩ := DataW.trod_int (k := .i64) Tryd.underlying2 t8
      simp only [List.cons.injEq, and_true] at e0 e1 e2 e3 e5 e6 e7 e8
      subst e0 e1 e2 e3 e4 e5 e6 e7 e8
      have hb := bounds_i64 w8
      refine ⟨(⟨z0, s1.data.toList, z2, z3, l, z5, z6, z7, z8⟩, a, n, c), ?_, hr, ⟨by dsimp only; omega, by dsimp only; omega⟩⟩
      intro j hj
      match j, hj with
      | 0, _ => exact hc0
      | 1, _ => refine hc1.trans ?_; simp [ecells, recCells]
      | 2, _ => exact hc2
      | 3, _ => exact hc3
      | 4, _ => exact hc4
      | 5, _ => exact hc5
      | 6, _ => exact hc6
      | 7, _ => exact hc7
      | 8, _ => exact hc8
    obtain ⟨M, hlen, hM⟩ := list_of _ n hel
    refine ⟨_, _, _, M, rfl, ⟨⟨by rw [lcells_length, hlen], hl, hm, (fun h => by cases h), fun hn => ?_⟩, fun e he => ?_⟩, fun e he => ?_⟩
    · obtain ⟨b, off, spot⟩ := x
      have hspot : spot = none := by
        have h1 := (hM 0 (by omega)).1 0 (by omega)
        obtain ⟨q, h2⟩ : ∃ q, (ecells (M[0]'(by omega)))[0]? = some q := ⟨_, rfl⟩
        rw [h2] at h1
        simpa [Addr.add] using World.cell?_spot h1
      subst hspot
      refine ⟨b, off, rfl, fun i hi => ?_⟩
      have hi9 := hi
      rw [lcells_length] at hi9
      have hadd : ∀ j, (⟨b, off, none⟩ : Addr).add j = ⟨b, off + j, none⟩ := fun j => by unfold Addr.add; split <;> simp_all
      have hq := (hM (i / 9) (by omega)).1 (i % 9) (by omega)
      rw [← lcells_get M (i / 9) (i % 9) (by omega) (by omega), hadd, show i / 9 * 9 + i % 9 = i by omega, List.getElem?_eq_getElem hi] at hq
      exact hq
    · obtain ⟨i, hi, rfl⟩ := List.getElem_of_mem he
      exact (hM i hi).2.1
    · obtain ⟨i, hi, rfl⟩ := List.getElem_of_mem he
      exact (hM i hi).2.2
end Go.Proofs.YtkflikfcpdekdaaDoor
