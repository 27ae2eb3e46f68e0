/-
  Layer 6: a map of the numbers that were met, as a list; how many.
-/
import Derived.Test.YtponbponacdhkaaDkRow
import Derived.Maps.Views
import Derived.Maps.OwnSet
namespace Go.Proofs.Ytponbponacdhkaa
open Go.RowKit

/-- Block b is a map that holds just these. -/
def Met (w : World) (b : Nat) (met : List Int) : Prop :=
  ∃ (n : Nat) (D : DataW Unit), n ≤ met.length ∧ w.ownsMap Try.prog 3 (plainElem Try.prog 4) b n D ∧ (∀ z : Int, (Lit.int .i64 z).wf = true → D.atKey (.int .i64 z) (.lit (.bool false)) = .lit (.bool (decide (z ∈ met)))) ∧ (∀ z : Int, Maps.has D (.int .i64 z) = decide (z ∈ met)) ∧ (met.Nodup → Maps.size D = met.length)
theorem met_made (w : World) : Met (w.alloc (.map #[] 0)) w.heap.size [] :=
  ⟨0, .map [], Nat.le_refl _, World.ownsMap_made w _ _ _, fun z _ => by simp [DataW.atKey], fun z => by simp [Maps.has_eq], fun _ => by simp [Maps.size_eq]⟩
theorem Met.kept {w w' : World} {b : Nat} {met : List Int} {row : Option Nat} (h : Met w b met) (hg : w.grownBy w' row) (hne : some b ≠ row) : Met w' b met := by
  obtain ⟨n, D, h1, h2, h3⟩ := h
  exact ⟨n, D, h1, h2.kept hg hne, h3⟩
theorem Met.block {w : World} {b : Nat} {met : List Int} (h : Met w b met) : ∃ es clock, w.heap[b]? = some (.map es clock) := by
  obtain ⟨n, D, _, ⟨es, clock, hb, _⟩, _⟩ := h
  exact ⟨es, clock, hb⟩
theorem Met.len {w : World} {b : Nat} {met : List Int} (h : Met w b met) (hn : met.Nodup) {t e : TypeId} (ht : Try.prog.underlying t = some (.map 3 e)) (ty : TypeId) : (Builtin.len_ #[t] ty #[.map (some b)]).run Try.prog w = .ok (.int .i64 (met.length : Int)) w := by
  obtain ⟨n, D, _, h2, _, _, h5⟩ := h
  rw [← h5 hn]
  exact World.ownsMap.len h2 ht ty
theorem Met.ext {w w' : World} {b : Nat} {met : List Int} (h : Met w b met) (hx : Ext w w') : Met w' b met :=
  h.kept (row := none) ⟨hx.os, hx.tape, hx.output, hx.size, fun k hk _ => hx.block k hk⟩ (by simp)
theorem keyI (z : Int) (hz : (Lit.int .i64 z).wf = true) : keyOf Try.prog 3 (.int .i64 z) = some (.int .i64 z) := Maps.keyOf_int_mk Try.underlying3 hz
set_option maxRecDepth 100000 in
theorem Met.lookup {w : World} {b : Nat} {met : List Int} (h : Met w b met) (z : Int) (hz : (Lit.int .i64 z).wf = true) :
    (Instr.lookup 79 (.map (some b)) (.int .i64 z) false).run Try.prog w = .ok (.bool (decide (z ∈ met))) w := by
  obtain ⟨n, D, _, ho, hat, _⟩ := h
  obtain ⟨v, ps, hrun, hv⟩ := ho.lookup (Maps.int_keyed Try.underlying3) Try.underlying79 (z := .bool false) (by kernel_rfl) (zd := .lit (.bool false)) (zp := []) (plainElem_bool Try.underlying4 false) (keyI z hz)
  rw [hat z hz] at hv
  have hvb : v = .bool (decide (z ∈ met)) := by
    unfold plainElem at hv
    rw [Try.underlying4] at hv
    cases v <;> simp at hv
    rename_i x
    rw [hv.1]
  rw [hrun, hvb]
theorem Met.update {w : World} {b : Nat} {met : List Int} (h : Met w b met) (z : Int) (hz : (Lit.int .i64 z).wf = true) (hl : met.length < 1000000) :
    ∃ w', (Instr.mapUpdate 79 (.map (some b)) (.int .i64 z) (.bool true)).run Try.prog w = .ok () w' ∧ Met w' b (met ++ [z]) ∧ w.grownBy w' (some b) := by
  obtain ⟨n, D, hn, ho, hat, hhas, hsize⟩ := h
  obtain ⟨w', hrun, ho2, hg⟩ := ho.update (Maps.int_keyed Try.underlying3) Try.underlying79 (by unfold maxLen; omega) (keyI z hz) (val := .bool true) (d := .lit (.bool true)) (ps := []) (plainElem_bool Try.underlying4 true)
  refine ⟨w', hrun, ⟨n + 1, _, by simp; omega, ho2, fun y hy => ?_, fun y => ?_, fun hnd => ?_⟩, hg⟩
  rotate_left
  · by_cases hyz : y = z
    · subst hyz
      rw [Maps.has_put_same ho.isMap (show WideAt.IsKeyLit (.int .i64 y) from trivial)]
      simp
    · rw [Maps.has_put_other (by intro e; injection e with _ e2; exact hyz e2), hhas y]
      simp [hyz]
  · rw [List.nodup_append] at hnd
    have hz2 : z ∉ met := fun hm => hnd.2.2 z hm z (by simp) rfl
    rw [Maps.size_put (ho.tidy (Maps.int_keyed Try.underlying3)), hhas z, decide_eq_false hz2, hsize hnd.1]
    simp
  by_cases hyz : y = z
  · subst hyz
    rw [Maps.atKey_put_same ho.isMap (show WideAt.IsKeyLit (.int .i64 y) from trivial)]
    simp
  · rw [Maps.atKey_put_other (by intro e; injection e with _ e2; exact hyz e2), hat y hy]
    simp [hyz]
theorem wf_small (z : Int) (h0 : 0 ≤ z) (h1 : z ≤ 1099511627776) : (Lit.int .i64 z).wf = true := by
  have e1 : IntKind.i64.min = -9223372036854775808 := by decide
  have e2 : IntKind.i64.max = 9223372036854775807 := by decide
  simp [Lit.wf, e1, e2]
  omega
end Go.Proofs.Ytponbponacdhkaa
