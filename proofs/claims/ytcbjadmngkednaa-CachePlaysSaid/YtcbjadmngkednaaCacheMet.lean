/-
  Layer 20: a map of the orders that were met, as a list.
-/
import Derived.Test.YtcbjadmngkednaaCacheMem
import Derived.Maps.OwnSet
namespace Go.Proofs.Ytcbjadmngkednaa
open Go.RowKit

/-- Block b is a map that holds just these. -/
def Met (w : World) (b : Nat) (met : List Int) : Prop :=
  ∃ (n : Nat) (D : DataW Unit), n ≤ met.length ∧ w.ownsMap Try.prog 3 (plainElem Try.prog 4) b n D ∧ ∀ z : Int, (Lit.int .i64 z).wf = true → D.atKey (.int .i64 z) (.lit (.bool false)) = .lit (.bool (decide (z ∈ met)))
theorem met_made (w : World) : Met (w.alloc (.map #[] 0)) w.heap.size [] :=
  ⟨0, .map [], Nat.le_refl _, World.ownsMap_made w _ _ _, fun z _ => by simp [DataW.atKey]⟩
theorem Met.kept {w w' : World} {b : Nat} {met : List Int} {row : Option Nat} (h : Met w b met) (hg : w.grownBy w' row) (hne : some b ≠ row) : Met w' b met := by
  obtain ⟨n, D, h1, h2, h3⟩ := h
  exact ⟨n, D, h1, h2.kept hg hne, h3⟩
theorem Met.ext {w w' : World} {b : Nat} {met : List Int} (h : Met w b met) (hx : Ext w w') : Met w' b met :=
  h.kept (row := none) ⟨hx.os, hx.tape, hx.output, hx.size, fun k hk _ => hx.block k hk⟩ (by simp)
theorem keyI (z : Int) (hz : (Lit.int .i64 z).wf = true) : keyOf Try.prog 3 (.int .i64 z) = some (.int .i64 z) := Maps.keyOf_int_mk Try.underlying3 hz
theorem Met.lookup {w : World} {b : Nat} {met : List Int} (h : Met w b met) (z : Int) (hz : (Lit.int .i64 z).wf = true) :
    (Instr.lookup 66 (.map (some b)) (.int .i64 z) false).run Try.prog w = .ok (.bool (decide (z ∈ met))) w := by
  obtain ⟨n, D, _, ho, hat⟩ := h
  obtain ⟨v, ps, hrun, hv⟩ := ho.lookup (Maps.int_keyed Try.underlying3) Try.underlying66 (z := .bool false) (by kernel_rfl) (zd := .lit (.bool false)) (zp := []) (plainElem_bool Try.underlying4 false) (keyI z hz)
  rw [hat z hz] at hv
  have hvb : v = .bool (decide (z ∈ met)) := by
    unfold plainElem at hv
    rw [Try.underlying4] at hv
    cases v <;> simp at hv
    rename_i x
    rw [hv.1]
  rw [hrun, hvb]
theorem Met.update {w : World} {b : Nat} {met : List Int} (h : Met w b met) (z : Int) (hz : (Lit.int .i64 z).wf = true) (hl : met.length < 1000000) :
    ∃ w', (Instr.mapUpdate 66 (.map (some b)) (.int .i64 z) (.bool true)).run Try.prog w = .ok () w' ∧ Met w' b (met ++ [z]) ∧ w.grownBy w' (some b) := by
  obtain ⟨n, D, hn, ho, hat⟩ := h
  obtain ⟨w', hrun, ho2, hg⟩ := ho.update (Maps.int_keyed Try.underlying3) Try.underlying66 (by unfold maxLen; omega) (keyI z hz) (val := .bool true) (d := .lit (.bool true)) (ps := []) (plainElem_bool Try.underlying4 true)
  refine ⟨w', hrun, ⟨n + 1, _, by simp; omega, ho2, fun y hy => ?_⟩, hg⟩
  by_cases hyz : y = z
  · subst hyz
    rw [Maps.atKey_put_same ho.isMap (show WideAt.IsKeyLit (.int .i64 y) from trivial)]
    simp
  · rw [Maps.atKey_put_other (by intro e; injection e with _ e2; exact hyz e2), hat y hy]
    simp [hyz]
theorem wf_small (z : Int) (h0 : 0 ≤ z) (h1 : z ≤ 1099511627776) : (Lit.int .i64 z).wf = true := by
  have e1 : IntKind.i64.min = -9223372036854775808 := by decide
  have e2 : IntKind.i64.max = 9223372036854775807 := by decide
  simp [Lit.wf, e1, e2]
  omega
end Go.Proofs.Ytcbjadmngkednaa
