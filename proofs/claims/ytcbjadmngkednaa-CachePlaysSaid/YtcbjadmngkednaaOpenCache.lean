/-
  A parameter that is a cache.
-/
import Derived.Test.YtcbjadmngkednaaOpenP
import Derived.Test.YtcbjadmngkednaaCacheMem
import Derived.Deep.Slices
import Derived.Deep.Fields
import Derived.ChangeSame
import Derived.Lib.SmallJoins
namespace Go.Proofs.Ytcbjadmngkednaa
open Go.ChangeShapes Go.WideShapes Go.ChangeAt Go.RowKit Go.Deep Go.Joins

section
variable {H : Type} {enc : TypeId × Value → H} {P : Program} {w : World} {base : Nat} {spare : Nat → Bool} {held : Bool}
theorem open_agg4 {r : Reach} {b0 : Nat} {t : TypeId} {f0 f1 f2 f3 : Field} {v : Value} {d : DataW H} {p : List MemPlace} (hs : P.underlying t = some (.struct #[f0, f1, f2, f3])) (hone : oneCellFields P #[f0, f1, f2, f3] = true) (hC : P.cellsOf t = 4)
    (hv : Value.okWide P w r b0 t v) (h : DataW.Trod enc P w base spare held t v d p) :
    ∃ (v0 v1 v2 v3 : Value) (y0 y1 y2 y3 : DataW H × List MemPlace) (n : Nat), v = .agg #[v0, v1, v2, v3] ∧ d = .agg [y0.1, y1.1, y2.1, y3.1] ∧
      DataW.trod enc P w base spare held n f0.type [v0] = some y0 ∧ DataW.trod enc P w base spare held n f1.type [v1] = some y1 ∧ DataW.trod enc P w base spare held n f2.type [v2] = some y2 ∧ DataW.trod enc P w base spare held n f3.type [v3] = some y3 := by
  obtain ⟨cs, rfl, hsz⟩ := okWide_struct hs hv
  obtain ⟨l⟩ := cs
  match l, hsz.trans hC with
  | [c0, c1, c2, c3], _ =>
    obtain ⟨fuel, hf⟩ := h
    obtain ⟨xs, n, _, hx, _, hlen, hg⟩ := DataW.trod_struct hs hf
    obtain ⟨o0, k0⟩ := hone_of hone 0 f0 rfl
    obtain ⟨o1, k1⟩ := hone_of hone 1 f1 rfl
    obtain ⟨o2, k2⟩ := hone_of hone 2 f2 rfl
    obtain ⟨o3, k3⟩ := hone_of hone 3 f3 rfl
    match xs, hlen with
    | [y0, y1, y2, y3], _ =>
      simp only [Prod.mk.injEq] at hx
      exact ⟨c0, c1, c2, c3, y0, y1, y2, y3, n, rfl, by simpa using hx.1, by simpa [Value.cells, o0, k0] using hg 0 f0 rfl, by simpa [Value.cells, o1, k1] using hg 1 f1 rfl, by simpa [Value.cells, o2, k2] using hg 2 f2 rfl, by simpa [Value.cells, o3, k3] using hg 3 f3 rfl⟩
theorem open_slice_fields {t e : TypeId} {fs : Array Field} {fuel : Nat} {cs : List Value} {x : DataW H × List MemPlace} (ht : P.underlying t = some (.slice e)) (he : P.underlying e = some (.struct fs))
    (hone : oneCellFields P fs = true) (hC : P.cellsOf e = fs.size) (h : DataW.trod enc P w base spare held fuel t cs = some x) :
    (cs = [.slice none 0 0] ∧ x = (.nil, [])) ∨
    ∃ (a : Addr) (len cap m : Nat) (D : Nat → DataW H) (Pl : Nat → List MemPlace), cs = [.slice (some a) len cap] ∧ base ≤ a.block ∧ len ≤ cap ∧ cap ≤ maxLen ∧ m = (if spare a.block then cap else len) ∧
      x = (.slice ((List.range len).map D) ((List.range (m - len)).map fun j => D (len + j)), MemPlace.row a (m * fs.size) ++ (List.range m).flatMap Pl) ∧
      ∀ i, i < m → ∃ (ys : List (DataW H × List MemPlace)) (n : Nat), D i = .agg (ys.map (·.1)) ∧ Pl i = ys.flatMap (·.2) ∧ ys.length = fs.size ∧
        ∀ (j : Nat) (f : Field), fs[j]? = some f → ∃ (v : Value) (y : DataW H × List MemPlace), w.cell? (a.add (i * fs.size + j)) = some v ∧ ys[j]? = some y ∧ DataW.trod enc P w base spare held n f.type [v] = some y := by
  rcases open_slice ht h with h0 | ⟨a, len, cap, m, n, D, Pl, hcs, hb, hl, hm, hmm, hx, hi⟩
  · exact .inl h0
  · refine .inr ⟨a, len, cap, m, D, Pl, hcs, hb, hl, hm, hmm, by rw [hC] at hx; exact hx, fun i him => ?_⟩
    obtain ⟨cs', hc, ht'⟩ := hi i him
    rw [hC] at hc
    obtain ⟨ys, n', hn', hy, hlen, hyl, hf⟩ := DataW.trod_struct he ht'
    obtain ⟨_, hcl, hat⟩ := World.cells?_some hc
    simp only [Prod.mk.injEq] at hy
    refine ⟨ys, n', hy.1, hy.2, hyl, fun j f hj => ?_⟩
    obtain ⟨ho, hk⟩ := hone_of hone j f hj
    have hjl : j < fs.size := (Array.getElem?_eq_some_iff.1 hj).1
    have hcell := hat j hjl
    have hv : cs'[j]? = some (cs'[j]'(by omega)) := List.getElem?_eq_getElem (by omega)
    have h1 := hf j f hj
    rw [ho, hk] at h1
    have hone' : (cs'.drop j).take 1 = [cs'[j]'(by omega)] := by
      rw [List.drop_eq_getElem_cons (by omega)]
      rfl
    rw [hone'] at h1
    have hys : ys[j]? = some (ys[j]'(by omega)) := List.getElem?_eq_getElem (by omega)
    refine ⟨_, _, ?_, hys, h1.trans hys⟩
    rw [← Go.Deep.add_add, hcell, hv]
end
theorem list_of {α : Type} (Q : Nat → α → Prop) : ∀ len, (∀ i, i < len → ∃ e, Q i e) → ∃ l : List α, l.length = len ∧ ∀ i (hi : i < l.length), Q i l[i]
  | 0, _ => ⟨[], rfl, fun i hi => by simp at hi⟩
  | k + 1, h => by
    obtain ⟨l, h1, h2⟩ := list_of Q k (fun i hi => h i (by omega))
    obtain ⟨x, hx⟩ := h k (by omega)
    refine ⟨l ++ [x], by simp [h1], fun i hi => ?_⟩
    by_cases hlt : i < l.length
    · rw [List.getElem_append_left hlt]; exact h2 i hlt
    · have : i = k := by simp at hi; omega
      subst this
      have e : (l ++ [x])[i] = x := by rw [List.getElem_append_right (by omega)]; simp [h1]
      rw [e]; exact hx
theorem row_of {α : Type} {enc : α → List Value} {s : Nat} (hs : ∀ x, (enc x).length = s) (h0 : 0 < s) {W : World} {x : Addr} {n c : Nat} {l : List α} (hl : l.length = n) (hle : n ≤ c) (hm : c ≤ maxLen)
    (hc : ∀ i (hi : i < l.length), ∀ j, j < s → W.cell? (x.add (i * s + j)) = (enc l[i])[j]?) : Row enc s W (some x) n c l := by
  refine ⟨by rw [rcells_length enc s hs, hl], hle, hm, (fun h => by cases h), fun hn => ?_⟩
  obtain ⟨b, off, spot⟩ := x
  have hspot : spot = none := by
    have h1 := hc 0 (by omega) 0 h0
    have hlp : 0 < l.length := by omega
    have hel0 : 0 < (enc l[0]).length := by rw [hs]; exact h0
    have h2 : (enc l[0])[0]? = some (enc l[0])[0] := List.getElem?_eq_getElem hel0
    rw [h2] at h1
    simpa [Addr.add] using World.cell?_spot h1
  subst hspot
  refine ⟨b, off, rfl, fun i hi => ?_⟩
  have hi9 := hi
  rw [rcells_length enc s hs] at hi9
  have hadd : ∀ j, (⟨b, off, none⟩ : Addr).add j = ⟨b, off + j, none⟩ := fun j => by unfold Addr.add; split <;> simp_all
  have hq := hc (i / s) (by rw [Nat.div_lt_iff_lt_mul h0]; exact hi9) (i % s) (Nat.mod_lt _ h0)
  rw [← rcells_at enc s hs l (i / s) (by rw [Nat.div_lt_iff_lt_mul h0]; exact hi9) (i % s) (Nat.mod_lt _ h0), hadd, show i / s * s + i % s = i by rw [Nat.mul_comm]; exact Nat.div_add_mod i s, List.getElem?_eq_getElem hi] at hq
  exact hq

theorem all_mem {H : Type} {P : Program} {e : TypeId} {d : DataW H} {n : Nat} : ∀ {L : List (DataW H)}, d ∈ L → n ∈ d.weights P e → n ∈ DataW.weightsAll P e L
  | x :: L, hd, hn => by
    simp only [DataW.weightsAll, List.mem_append]
    rcases List.mem_cons.1 hd with rfl | hd
    · exact .inl hn
    · exact .inr (all_mem hd hn)
theorem as_of_trod {H : Type} {enc : TypeId × Value → H} {W : World} {spare : Nat → Bool} {held : Bool} {fuel : Nat} {v : Value} {x : DataW H × List MemPlace} (h : DataW.trod enc Try.prog W 0 spare held fuel 46 [v] = some x) (hw : ∀ k ∈ x.1.weights Try.prog 46, k ≤ reachBytes) :
    ∃ a n c l, v = .slice a n c ∧ As W a n c l ∧ n ≤ 1152921504606846976 := by
  rcases open_slice_fields Try.underlying46 Try.underlying50 (by kernel_rfl) (by kernel_rfl) h with ⟨hcs, _⟩ | ⟨a, len, cap, m, D, Pl, hcs, _, hl, hm, hmm, hxx, hi⟩
  · simp at hcs
    subst hcs
    exact ⟨none, 0, 0, [], rfl, Row.nil _ _ _, by omega⟩
  · simp at hcs
    subst hcs
    have hlm : len ≤ m := by rw [hmm]; split <;> omega
    have hel : ∀ i, i < len → ∃ p : Ar, ∀ j, j < 4 → W.cell? (a.add (i * 4 + j)) = (ac p)[j]? := by
      intro i hil
      obtain ⟨ys, n, _, _, _, hf⟩ := hi i (by omega)
      obtain ⟨v0, y0, hc0, _, ht0⟩ := hf 0 _ rfl
      obtain ⟨v1, y1, hc1, _, ht1⟩ := hf 1 _ rfl
      obtain ⟨v2, y2, hc2, _, ht2⟩ := hf 2 _ rfl
      obtain ⟨v3, y3, hc3, _, ht3⟩ := hf 3 _ rfl
      obtain ⟨z0, e0, _, _⟩ := DataW.trod_int (k := .i64) Try.underlying3 ht0
      obtain ⟨z1, e1, _, _⟩ := DataW.trod_int (k := .i64) Try.underlying2 ht1
      obtain ⟨z2, e2, _, _⟩ := DataW.trod_int (k := .i64) Try.underlying3 ht2
      obtain ⟨z3, e3, _, _⟩ := DataW.trod_int (k := .i64) Try.underlying3 ht3
      simp only [List.cons.injEq, and_true] at e0 e1 e2 e3
      subst e0 e1 e2 e3
      refine ⟨⟨z0, z1, z2, z3⟩, fun j hj => ?_⟩
      match j, hj with
      | 0, _ => exact hc0
      | 1, _ => exact hc1
      | 2, _ => exact hc2
      | 3, _ => exact hc3
    obtain ⟨l, hlen, hl2⟩ := list_of _ len hel
    refine ⟨_, _, _, l, rfl, row_of ac_len (by decide) hlen hl hm hl2, ?_⟩
    have h1 := hw ((len + (m - len)) * Try.prog.bytesOf 50) (by rw [hxx]; simp [DataW.weights, Try.underlying46])
    rw [show Try.prog.bytesOf 50 = 32 by kernel_rfl, show reachBytes = 140737488351232 from rfl] at h1
    omega
theorem ws_of_trod {H : Type} {enc : TypeId × Value → H} {W : World} {spare : Nat → Bool} {held : Bool} {fuel : Nat} {v : Value} {x : DataW H × List MemPlace} (h : DataW.trod enc Try.prog W 0 spare held fuel 22 [v] = some x) (hw : ∀ k ∈ x.1.weights Try.prog 22, k ≤ reachBytes) :
    ∃ a n c M, v = .slice a n c ∧ Ws W a n c M ∧ n ≤ 1152921504606846976 ∧ (∀ x ∈ M, x.2.2.1 ≤ 1152921504606846976) ∧ ∀ x ∈ M, x.1.1.length ≤ 140737488355328 := by
  rcases open_slice_fields Try.underlying22 Try.underlying59 (by kernel_rfl) (by kernel_rfl) h with ⟨hcs, _⟩ | ⟨a, len, cap, m, D, Pl, hcs, _, hl, hm, hmm, hxx, hi⟩
  · simp at hcs
    subst hcs
    exact ⟨none, 0, 0, [], rfl, ⟨Row.nil _ _ _, (fun _ h => by cases h)⟩, by omega, (fun _ h => by cases h), (fun _ h => by cases h)⟩
  · simp at hcs
    subst hcs
    have hlm : len ≤ m := by rw [hmm]; split <;> omega
    have hel : ∀ i, i < len → ∃ y : Wh, (∀ j, j < 2 → W.cell? (a.add (i * 2 + j)) = (wc y)[j]?) ∧ As W y.2.1 y.2.2.1 y.2.2.2 y.1.2 ∧ y.2.2.1 ≤ 1152921504606846976 ∧ y.1.1.length ≤ 140737488355328 := by
      intro i hil
      obtain ⟨ys, n, hD, _, hyl, hf⟩ := hi i (by omega)
      obtain ⟨v0, y0, hc0, hy0, ht0⟩ := hf 0 _ rfl
      obtain ⟨v1, y1, hc1, hy1, ht1⟩ := hf 1 _ rfl
      have hmemD : D i ∈ (List.range len).map D := List.mem_map.2 ⟨i, List.mem_range.2 hil, rfl⟩
      have hsub : ∀ k ∈ (D i).weights Try.prog 59, k ≤ reachBytes := fun k hk => hw k (by
        rw [hxx]
        simp only [DataW.weights, Try.underlying22]
        exact List.mem_cons_of_mem _ (List.mem_append_left _ (all_mem hmemD hk)))
      obtain ⟨q0, q1, rfl⟩ : ∃ q0 q1, ys = [q0, q1] := by
        match ys, hyl with
        | [q0, q1], _ => exact ⟨q0, q1, rfl⟩
      simp only [List.getElem?_cons_zero, List.getElem?_cons_succ, Option.some.injEq] at hy0 hy1
      subst hy0 hy1
      have hsub2 : ∀ k ∈ DataW.weightsEach Try.prog [9, 46] [q0.1, q1.1], k ≤ reachBytes := fun k hk => hsub k (by
        rw [hD]
        simp only [DataW.weights, Try.underlying59]
        exact hk)
      obtain ⟨s0, e0, es0, _⟩ := DataW.trod_string Try.underlying9 ht0
      obtain ⟨pa, pn, pc, l, e1, hr, hb1⟩ := as_of_trod ht1 (fun k hk => hsub2 k (by simp only [DataW.weightsEach, List.mem_append]; exact .inr (.inl hk)))
      simp only [List.cons.injEq, and_true] at e0
      subst e0 e1
      have hsl : s0.data.toList.length ≤ reachBytes := hsub2 _ (by rw [es0]; simp [DataW.weightsEach, DataW.weights])
      rw [show reachBytes = 140737488351232 from rfl] at hsl
      refine ⟨((s0.data.toList, l), (pa, pn, pc)), fun j hj => ?_, hr, hb1, by dsimp only; omega⟩
      match j, hj with
      | 0, _ => refine hc0.trans ?_; simp [wc]
      | 1, _ => exact hc1
    obtain ⟨M, hlen, hl2⟩ := list_of _ len hel
    have h1 := hw ((len + (m - len)) * Try.prog.bytesOf 59) (by rw [hxx]; simp [DataW.weights, Try.underlying22])
    rw [show Try.prog.bytesOf 59 = 40 by kernel_rfl, show reachBytes = 140737488351232 from rfl] at h1
    refine ⟨_, _, _, M, rfl, ⟨row_of wc_len (by decide) hlen hl hm (fun i hi => (hl2 i hi).1), fun y hy => ?_⟩, by omega, fun y hy => ?_, fun y hy => ?_⟩
    · obtain ⟨i, hi, rfl⟩ := List.getElem_of_mem hy
      exact (hl2 i hi).2.1
    · obtain ⟨i, hi, rfl⟩ := List.getElem_of_mem hy
      exact (hl2 i hi).2.2.1
    · obtain ⟨i, hi, rfl⟩ := List.getElem_of_mem hy
      exact (hl2 i hi).2.2.2
/-- A parameter that is a string. -/
theorem open_str {H : Type} {enc : TypeId × Value → H} {W : World} {spare : Nat → Bool} {held : Bool} {base : Nat} {v : Value} {d : DataW H} {p : List MemPlace}
    (hok : Value.okWide Try.prog W .any base 9 v) (h : DataW.Trod enc Try.prog W 0 spare held 9 v d p) : ∃ s : List UInt8, v = .string ⟨s.toArray⟩ ∧ d = .lit (.string s) := by
  obtain ⟨s, rfl⟩ := okWide_string Try.underlying9 hok
  obtain ⟨fuel, hf⟩ := h
  obtain ⟨s', h1, hx, _⟩ := DataW.trod_string Try.underlying9 hf
  simp [Value.cells] at h1
  subst h1
  exact ⟨s.data.toList, by simp, congrArg Prod.fst hx⟩
/-- A parameter that is a cache. -/
theorem open_cache {H : Type} {enc : TypeId × Value → H} {W : World} {spare : Nat → Bool} {held : Bool} {base : Nat} {v : Value} {d : DataW H} {p : List MemPlace} {ts : List TypeId} {ds : List (DataW H)}
    (hok : Value.okWide Try.prog W .any base 24 v) (h : DataW.Trod enc Try.prog W 0 spare held 24 v d p) (hw : (DataW.weightsEach Try.prog ts ds).all (· ≤ reachBytes) = true) {j : Nat} (ht : ts[j]? = some 24) (hd : ds[j]? = some d) :
    ∃ m a n c came dropped M, v = cav m a n c came dropped ∧ Ws W a n c M ∧ n ≤ 1152921504606846976 ∧ (∀ x ∈ M, x.2.2.1 ≤ 1152921504606846976) ∧ ∀ x ∈ M, x.1.1.length ≤ 140737488355328 := by
  obtain ⟨v0, v1, v2, v3, y0, y1, y2, y3, m, rfl, hdd, t0, t1, t2, t3⟩ := open_agg4 Try.underlying24 (by kernel_rfl) (by kernel_rfl) hok h
  have hsub : ∀ k ∈ d.weights Try.prog 24, k ≤ reachBytes := fun k hk => by
    have := List.all_eq_true.1 hw _ (DataW.weights_mem_each ht hd k hk)
    simpa using this
  have hsub2 : ∀ k ∈ DataW.weightsEach Try.prog [3, 22, 3, 3] [y0.1, y1.1, y2.1, y3.1], k ≤ reachBytes := fun k hk => hsub k (by
    rw [hdd]
    simp only [DataW.weights, Try.underlying24]
    exact hk)
  obtain ⟨z0, e0, _, _⟩ := DataW.trod_int (k := .i64) Try.underlying3 t0
  obtain ⟨a, n, c, M, e1, hr, h1, h2, h3⟩ := ws_of_trod t1 (fun k hk => hsub2 k (by simp only [DataW.weightsEach, List.mem_append]; exact .inr (.inl hk)))
  obtain ⟨z2, e2, _, _⟩ := DataW.trod_int (k := .i64) Try.underlying3 t2
  obtain ⟨z3, e3, _, _⟩ := DataW.trod_int (k := .i64) Try.underlying3 t3
  simp only [List.cons.injEq, and_true] at e0 e2 e3
  subst e0 e1 e2 e3
  exact ⟨z0, a, n, c, z2, z3, M, rfl, hr, h1, h2, h3⟩
end Go.Proofs.Ytcbjadmngkednaa
