/-
  Parameters: a list of steps, a list of what is kept, two slices of bytes.
-/
import Derived.Test.YtponbponacdhkaaOpenP
import Derived.Test.YtponbponacdhkaaDkSureP
import Derived.Deep.Slices
import Derived.Deep.Fields
import Derived.ChangeSame
import Derived.Lib.SmallJoins
namespace Go.Proofs.Ytponbponacdhkaa
open Go.ChangeShapes Go.WideShapes Go.ChangeAt Go.RowKit Go.Deep Go.Joins

section
variable {H : Type} {enc : TypeId × Value → H} {P : Program} {w : World} {base : Nat} {spare : Nat → Bool} {held : Bool}
set_option maxRecDepth 100000 in
theorem open_slice_fields {t e : TypeId} {fs : Array Field} {fuel : Nat} {cs : List Value} {x : DataW H × List MemPlace} (ht : P.underlying t = some (.slice e)) (he : P.underlying e = some (.struct fs))
    (hone : oneCellFields P fs = true) (hC : P.cellsOf e = fs.size) (h : DataW.trod enc P w base spare held fuel t cs = some x) :
    (cs = [.slice none 0 0] ∧ x = (.nil, [])) ∨
    ∃ (a : Addr) (len cap m : Nat) (D : Nat → DataW H) (Pl : Nat → List MemPlace), cs = [.slice (some a) len cap] ∧ base ≤ a.block ∧ len ≤ cap ∧ cap ≤ maxLen ∧ m = (if spare a.block then cap else len) ∧
      x = (.slice ((List.range len).map D) ((List.range (m - len)).map fun j => D (len + j)), MemPlace.row a (m * fs.size) ++ (List.range m).flatMap Pl) ∧
      ∀ i, i < m → ∃ (ys : List (DataW H × List MemPlace)) (n : Nat), D i = .agg (ys.map (·.1)) ∧ Pl i = ys.flatMap (·.2) ∧ ys.length = fs.size ∧
        ∀ (j : Nat) (f : Field), fs[j]? = some f → ∃ (v : Value) (y : DataW H × List MemPlace), w.cell? (a.add (i * fs.size + j)) = some v ∧ ys[j]? = some y ∧ DataW.trod enc P w base spare held n f.type [v] = some y := by
  rcases open_slice ht h with h0 | ⟨a, len, cap, m, n, D, Pl, hcs, hb, hl, hm, hmm, hx, hi⟩
  · exact .inl h0
  · refine .inr ⟨a, len, cap, m, D, Pl, hcs, hb, hl, hm, hmm, by rw [hC] at hx; exact hx, fun i him => ?_⟩
    obtain ⟨cs', hc, ht'⟩ := hi i him
    rw [hC] at hc
    obtain ⟨ys, n', hn', hy, hlen, hyl, hf⟩ := DataW.trod_struct he ht'
    obtain ⟨_, hcl, hat⟩ := World.cells?_some hc
    simp only [Prod.mk.injEq] at hy
    refine ⟨ys, n', hy.1, hy.2, hyl, fun j f hj => ?_⟩
    obtain ⟨ho, hk⟩ := hone_of hone j f hj
    have hjl : j < fs.size := (Array.getElem?_eq_some_iff.1 hj).1
    have hcell := hat j hjl
    have hv : cs'[j]? = some (cs'[j]'(by omega)) := List.getElem?_eq_getElem (by omega)
    have h1 := hf j f hj
    rw [ho, hk] at h1
    have hone' : (cs'.drop j).take 1 = [cs'[j]'(by omega)] := by
      rw [List.drop_eq_getElem_cons (by omega)]
      rfl
    rw [hone'] at h1
    have hys : ys[j]? = some (ys[j]'(by omega)) := List.getElem?_eq_getElem (by omega)
    refine ⟨_, _, ?_, hys, h1.trans hys⟩
    rw [← Go.Deep.add_add, hcell, hv]
end
theorem list_of {α : Type} (Q : Nat → α → Prop) : ∀ len, (∀ i, i < len → ∃ e, Q i e) → ∃ l : List α, l.length = len ∧ ∀ i (hi : i < l.length), Q i l[i]
  | 0, _ => ⟨[], rfl, fun i hi => by simp at hi⟩
  | k + 1, h => by
    obtain ⟨l, h1, h2⟩ := list_of Q k (fun i hi => h i (by omega))
    obtain ⟨x, hx⟩ := h k (by omega)
    refine ⟨l ++ [x], by simp [h1], fun i hi => ?_⟩
    by_cases hlt : i < l.length
    · rw [List.getElem_append_left hlt]; exact h2 i hlt
    · have : i = k := by simp at hi; omega
      subst this
      have e : (l ++ [x])[i] = x := by rw [List.getElem_append_right (by omega)]; simp [h1]
      rw [e]; exact hx
theorem row_of {α : Type} {enc : α → List Value} {s : Nat} (hs : ∀ x, (enc x).length = s) (h0 : 0 < s) {W : World} {x : Addr} {n c : Nat} {l : List α} (hl : l.length = n) (hle : n ≤ c) (hm : c ≤ maxLen)
    (hc : ∀ i (hi : i < l.length), ∀ j, j < s → W.cell? (x.add (i * s + j)) = (enc l[i])[j]?) : Row enc s W (some x) n c l := by
  refine ⟨by rw [rcells_length enc s hs, hl], hle, hm, (fun h => by cases h), fun hn => ?_⟩
  obtain ⟨b, off, spot⟩ := x
  have hspot : spot = none := by
    have h1 := hc 0 (by omega) 0 h0
    have hlp : 0 < l.length := by omega
    have hel0 : 0 < (enc l[0]).length := by rw [hs]; exact h0
    have h2 : (enc l[0])[0]? = some (enc l[0])[0] := List.getElem?_eq_getElem hel0
    rw [h2] at h1
    simpa [Addr.add] using World.cell?_spot h1
  subst hspot
  refine ⟨b, off, rfl, fun i hi => ?_⟩
  have hi9 := hi
  rw [rcells_length enc s hs] at hi9
  have hadd : ∀ j, (⟨b, off, none⟩ : Addr).add j = ⟨b, off + j, none⟩ := fun j => by unfold Addr.add; split <;> simp_all
  have hq := hc (i / s) (by rw [Nat.div_lt_iff_lt_mul h0]; exact hi9) (i % s) (Nat.mod_lt _ h0)
  rw [← rcells_at enc s hs l (i / s) (by rw [Nat.div_lt_iff_lt_mul h0]; exact hi9) (i % s) (Nat.mod_lt _ h0), hadd, show i / s * s + i % s = i by rw [Nat.mul_comm]; exact Nat.div_add_mod i s, List.getElem?_eq_getElem hi] at hq
  exact hq

theorem bs_of_ints {W : World} {a : Addr} {len cap : Nat} {zs : List Int} (hl : len ≤ cap) (hm : cap ≤ maxLen) (hz : len ≤ zs.length)
    (hcell : ∀ i, i < zs.length → W.cell? (a.add i) = some (.int .u8 (zs.getD i 0))) (hwz : ∀ n ∈ zs, (Lit.int .u8 n).wf = true) :
    Bs W (some a) len cap ((zs.take len).map fun z => UInt8.ofNat z.toNat) := by
  refine ⟨by rw [bvs_length]; simp; omega, hl, hm, (fun h => by cases h), fun hn => ?_⟩
  obtain ⟨b, off, spot⟩ := a
  have hspot : spot = none := by simpa [Addr.add] using World.cell?_spot (hcell 0 (by omega))
  subst hspot
  refine ⟨b, off, rfl, fun i hi => ?_⟩
  rw [bvs_length, List.length_map, List.length_take] at hi
  have h1 := hcell i (by omega)
  rw [show (⟨b, off, none⟩ : Addr).add i = ⟨b, off + i, none⟩ by unfold Addr.add; split <;> simp_all] at h1
  rw [h1]
  have hw := hwz zs[i] (List.getElem_mem (by omega))
  have hb := bounds_u8 hw
  simp only [bvs, bv, List.getElem_map, List.getElem_take, List.getD, List.getElem?_eq_getElem (show i < zs.length by omega), Option.getD_some]
  congr 2
  simp
  omega

set_option maxRecDepth 100000 in
theorem bs_of_trod {H : Type} {enc : TypeId × Value → H} {W : World} {sp : Nat → Bool} {held : Bool} {fuel : Nat} {v : Value} {x : DataW H × List MemPlace} (hf : DataW.trod enc Try.prog W 0 sp held fuel 22 [v] = some x) :
    ∃ a n c l, v = .slice a n c ∧ Bs W a n c l := by
  rcases open_ints Try.underlying22 Try.underlying5 (by kernel_rfl) hf with ⟨hcs, _⟩ | ⟨x, l, c', zs, hcs, _, hl, hm, hz, hx, hcell, hwz⟩
  · simp at hcs
    subst hcs
    exact ⟨none, 0, 0, [], rfl, bs_nil _⟩
  · simp at hcs
    subst hcs
    have hln : l ≤ zs.length := by rw [hz]; split <;> omega
    exact ⟨_, _, _, _, rfl, bs_of_ints hl hm hln hcell hwz⟩
theorem okWide_arr {P : Program} {w : World} {base : Nat} {t e : TypeId} {v : Value} {n : Nat} (ht : P.underlying t = some (.array n e)) (h : Value.okWide P w .any base t v) : ∃ cs, v = .agg cs ∧ cs.size = P.cellsOf t := by
  simp only [Value.okWide, ht] at h
  obtain ⟨cs, h1, h2, _⟩ := h
  exact ⟨cs, h1, h2⟩

theorem wf_u8 {n : Int} (h : (Lit.int .u8 n).wf = true) : 0 ≤ n ∧ n < 256 := by
  have := bounds_u8 h
  omega
set_option maxRecDepth 100000 in
/-- A parameter that is a list of steps. -/
theorem open_steps {H : Type} {enc : TypeId × Value → H} {W : World} {spare : Nat → Bool} {held : Bool} {base : Nat} {v : Value} {d : DataW H} {p : List MemPlace}
    (hok : Value.okWide Try.prog W .any base 42 v) (h : DataW.Trod enc Try.prog W 0 spare held 42 v d p) :
    ∃ a n c L, v = .slice a n c ∧ Steps W a n c L := by
  obtain ⟨fuel, hf⟩ := h
  obtain ⟨a0, n0, c0, rfl⟩ := okWide_slice Try.underlying42 hok
  rcases open_slice_fields (cs := [.slice a0 n0 c0]) Try.underlying42 Try.underlying46 (by kernel_rfl) (by kernel_rfl) (by simpa [Value.cells] using hf) with ⟨hcs, _⟩ | ⟨a, len, cap, m, D, Pl, hcs, _, hl, hm, hmm, hxx, hi⟩
  · simp at hcs
    obtain ⟨rfl, rfl, rfl⟩ := hcs
    exact ⟨none, 0, 0, [], rfl, Row.nil _ _ _, (fun _ h => by cases h), fun _ h => by cases h⟩
  · simp at hcs
    obtain ⟨rfl, rfl, rfl⟩ := hcs
    have hlm : n0 ≤ m := by rw [hmm]; split <;> omega
    have hel : ∀ i, i < n0 → ∃ x : Sh, (∀ j, j < 4 → W.cell? (a.add (i * 4 + j)) = (scl x)[j]?) ∧ Bs W x.2.1 x.2.2.1 x.2.2.2 x.1.data ∧ x.1.kind < 256 ∧ x.1.nm < 256 ∧ x.1.dst < 256 := by
      intro i hil
      obtain ⟨ys, n, _, _, _, hf⟩ := hi i (by omega)
      obtain ⟨v0, y0, hc0, _, ht0⟩ := hf 0 _ rfl
      obtain ⟨v1, y1, hc1, _, ht1⟩ := hf 1 _ rfl
      obtain ⟨v2, y2, hc2, _, ht2⟩ := hf 2 _ rfl
      obtain ⟨v3, y3, hc3, _, ht3⟩ := hf 3 _ rfl
      obtain ⟨z0, e0, _, b0⟩ := DataW.trod_int (k := .u8) Try.underlying5 ht0
      obtain ⟨z1, e1, _, b1⟩ := DataW.trod_int (k := .u8) Try.underlying5 ht1
      obtain ⟨z2, e2, _, b2⟩ := DataW.trod_int (k := .u8) Try.underlying5 ht2
      obtain ⟨pa, pn, pc, l, e3, hb⟩ := bs_of_trod ht3
      simp only [List.cons.injEq, and_true] at e0 e1 e2
      subst e0 e1 e2 e3
      have k0 := wf_u8 b0
      have k1 := wf_u8 b1
      have k2 := wf_u8 b2
      refine ⟨(⟨z0.toNat, z1.toNat, z2.toNat, l⟩, pa, pn, pc), fun j hj => ?_, hb, by dsimp only; omega, by dsimp only; omega, by dsimp only; omega⟩
      have q0 : ((z0.toNat : Nat) : Int) = z0 := by omega
      have q1 : ((z1.toNat : Nat) : Int) = z1 := by omega
      have q2 : ((z2.toNat : Nat) : Int) = z2 := by omega
      unfold scl
      dsimp only
      rw [q0, q1, q2]
      match j, hj with
      | 0, _ => exact hc0
      | 1, _ => exact hc1
      | 2, _ => exact hc2
      | 3, _ => exact hc3
    obtain ⟨l, hlen, hl2⟩ := list_of _ n0 hel
    refine ⟨_, _, _, l, rfl, row_of scl_len (by decide) hlen hl hm (fun i hi => (hl2 i hi).1), fun x hx => ?_, fun x hx => ?_⟩
    · obtain ⟨i, hi, rfl⟩ := List.getElem_of_mem hx
      exact (hl2 i hi).2.1
    · obtain ⟨i, hi, rfl⟩ := List.getElem_of_mem hx
      exact (hl2 i hi).2.2
set_option maxRecDepth 100000 in
/-- A parameter that is a list of what is kept. -/
theorem open_keeps {H : Type} {enc : TypeId × Value → H} {W : World} {spare : Nat → Bool} {held : Bool} {base : Nat} {v : Value} {d : DataW H} {p : List MemPlace}
    (hok : Value.okWide Try.prog W .any base 51 v) (h : DataW.Trod enc Try.prog W 0 spare held 51 v d p) :
    ∃ a n c L, v = .slice a n c ∧ Row kcl 2 W a n c L := by
  obtain ⟨fuel, hf⟩ := h
  obtain ⟨a0, n0, c0, rfl⟩ := okWide_slice Try.underlying51 hok
  rcases open_slice_fields (cs := [.slice a0 n0 c0]) Try.underlying51 Try.underlying61 (by kernel_rfl) (by kernel_rfl) (by simpa [Value.cells] using hf) with ⟨hcs, _⟩ | ⟨a, len, cap, m, D, Pl, hcs, _, hl, hm, hmm, hxx, hi⟩
  · simp at hcs
    obtain ⟨rfl, rfl, rfl⟩ := hcs
    exact ⟨none, 0, 0, [], rfl, Row.nil _ _ _⟩
  · simp at hcs
    obtain ⟨rfl, rfl, rfl⟩ := hcs
    have hlm : n0 ≤ m := by rw [hmm]; split <;> omega
    have hel : ∀ i, i < n0 → ∃ x : Kp, ∀ j, j < 2 → W.cell? (a.add (i * 2 + j)) = (kcl x)[j]? := by
      intro i hil
      obtain ⟨ys, n, _, _, _, hf⟩ := hi i (by omega)
      obtain ⟨v0, y0, hc0, _, ht0⟩ := hf 0 _ rfl
      obtain ⟨v1, y1, hc1, _, ht1⟩ := hf 1 _ rfl
      obtain ⟨z0, e0, _, _⟩ := DataW.trod_int (k := .i64) Try.underlying3 ht0
      obtain ⟨z1, e1, _, _⟩ := DataW.trod_int (k := .i64) Try.underlying3 ht1
      simp only [List.cons.injEq, and_true] at e0 e1
      subst e0 e1
      refine ⟨(z0, z1), fun j hj => ?_⟩
      match j, hj with
      | 0, _ => exact hc0
      | 1, _ => exact hc1
    obtain ⟨l, hlen, hl2⟩ := list_of _ n0 hel
    exact ⟨_, _, _, l, rfl, row_of kcl_len (by decide) hlen hl hm (fun i hi => hl2 i hi)⟩
set_option maxRecDepth 100000 in
/-- A parameter that is two slices of bytes. -/
theorem open_two {H : Type} {enc : TypeId × Value → H} {W : World} {sp : Nat → Bool} {held : Bool} {base : Nat} {v : Value} {d : DataW H} {p : List MemPlace}
    (hok : Value.okWide Try.prog W .any base 23 v) (h : DataW.Trod enc Try.prog W 0 sp held 23 v d p) :
    ∃ a n c l a2 n2 c2 l2, v = .agg #[.slice a n c, .slice a2 n2 c2] ∧ Bs W a n c l ∧ Bs W a2 n2 c2 l2 := by
  obtain ⟨cs, rfl, hsz⟩ := okWide_arr Try.underlying23 hok
  obtain ⟨fuel, hf⟩ := h
  have hc2 : Try.prog.cellsOf 23 = 2 := by kernel_rfl
  have hc1 : Try.prog.cellsOf 22 = 1 := by kernel_rfl
  obtain ⟨xs, m, rfl, _, _, hx, hel⟩ := DataW.trod_array Try.underlying23 hf
  obtain ⟨l⟩ := cs
  rw [hc2] at hsz
  simp only [List.size_toArray] at hsz
  match l, hsz with
  | [c0, c1], _ =>
    simp only [Value.cells, hc1] at hel
    have h0 := hel 0 (by decide)
    have h1 := hel 1 (by decide)
    simp at h0 h1
    rw [List.getElem?_eq_getElem (by omega)] at h0 h1
    obtain ⟨a, n, c, l, rfl, hb⟩ := bs_of_trod h0
    obtain ⟨a2, n2, c2, l2, rfl, hb2⟩ := bs_of_trod h1
    exact ⟨a, n, c, l, a2, n2, c2, l2, rfl, hb, hb2⟩
end Go.Proofs.Ytponbponacdhkaa
