/-
  Layer 20: waits whose points lie in rows of the call's own, each in a block by itself.
-/
import Derived.Test.YtcbjadmngkednaaCacheRref
import Derived.Test.YtcbjadmngkednaaCacheInsert
import Derived.Test.YtcbjadmngkednaaRegPlan
namespace Go.Proofs.Ytcbjadmngkednaa
open Go.RowKit

theorem at_setCell {w : World} {b : Nat} {cs : Array Value} {t : TypeId} (h : w.heap[b]? = some (.cells cs t (0, 0))) (k : Nat) (u : Value) : (w.setCell ⟨b, k, none⟩ u).heap[b]? = some (.cells (cs.setIfInBounds k u) t (0, 0)) := by
  unfold World.setCell
  simp [h, Array.getElem?_modify]
theorem owns_apart {W : World} {b1 b2 : Nat} {e1 e2 : TypeId} {s1 s2 : Nat} {v1 v2 : Value} {n1 n2 : Nat} {x1 x2 : List Value} (h1 : W.ownsRow b1 e1 s1 v1 n1 x1) (h2 : W.ownsRow b2 e2 s2 v2 n2 x2) (hne : e1 ≠ e2) : v1.ownBlock = none ∨ v1.ownBlock ≠ v2.ownBlock := by
  cases h : v1.ownBlock with
  | none => exact .inl rfl
  | some k =>
    refine .inr fun he => hne ?_
    obtain ⟨c1, f1, g1⟩ := owns_block h1 k h
    obtain ⟨c2, f2, g2⟩ := owns_block h2 k he.symm
    rw [g1] at g2
    cases g2; rfl
theorem owns_other {W : World} {b : Nat} {e e2 : TypeId} {s : Nat} {v : Value} {n : Nat} {xs : List Value} (h : W.ownsRow b e s v n xs) {B : Nat} {cs : Array Value} {fr : Nat × Nat} (hB : W.heap[B]? = some (.cells cs e2 fr)) (hne : e ≠ e2) : v.ownBlock ≠ some B := fun he => by
  obtain ⟨c1, f1, g1⟩ := owns_block h B he
  rw [g1] at hB
  cases hB
  exact hne rfl
theorem put_grownBy (W : World) (B k : Nat) (u : Value) : W.grownBy (W.setCell ⟨B, k, none⟩ u) (some B) := ⟨rfl, rfl, rfl, by simp [World.setCell], fun j _ hj => Below.heap_setCell _ _ _ _ (fun e => hj (by rw [e]))⟩
theorem owns_put {W : World} {b : Nat} {e : TypeId} {s : Nat} {v : Value} {n : Nat} {xs : List Value} (h : W.ownsRow b e s v n xs) {B : Nat} (hB : v.ownBlock ≠ some B) (k : Nat) (u : Value) : (W.setCell ⟨B, k, none⟩ u).ownsRow b e s v n xs :=
  h.kept (row := some B) (put_grownBy _ _ _ _) (.inr hB)
theorem owns_mono {w : World} {base base' : Nat} {e : TypeId} {size : Nat} {v : Value} {n : Nat} {xs : List Value} (h : w.ownsRow base e size v n xs) (hb : base' ≤ base) : w.ownsRow base' e size v n xs := by
  refine ⟨h.1, ?_⟩
  rcases h.2 with h | ⟨g, cap, cur, hv, hg, r⟩
  · exact .inl h
  · exact .inr ⟨g, cap, cur, hv, Nat.le_trans hb hg, r⟩

def wsl (x : Wh) : Value := .slice x.2.1 x.2.2.1 x.2.2.2
/-- Each wait's points lie in a row of the call's own, no two in one block. -/
structure Wo (w : World) (base : Nat) (M : List Wh) : Prop where
  own : ∀ x ∈ M, ORow ac 4 w base 50 (wsl x) x.1.2
  apart : M.Pairwise fun x y => (wsl y).ownBlock = none ∨ (wsl y).ownBlock ≠ (wsl x).ownBlock
theorem Wo.nil (w : World) (base : Nat) : Wo w base [] := ⟨by simp, .nil⟩
theorem Wo.ext {w w' : World} {base : Nat} {M : List Wh} (h : Wo w base M) (hx : Ext w w') : Wo w' base M := ⟨fun x hm => owns_ext (h.own x hm) hx, h.apart⟩
theorem Wo.mono {w : World} {base base' : Nat} {M : List Wh} (h : Wo w base M) (hb : base' ≤ base) : Wo w base' M := ⟨fun x hm => owns_mono (h.own x hm) hb, h.apart⟩
/-- A row of other cells grows. -/
theorem Wo.grown {w w' : World} {base b2 : Nat} {M : List Wh} {e : TypeId} {s n : Nat} {v : Value} {xs : List Value} (h : Wo w base M) (hv : w.ownsRow b2 e s v n xs) (hne : 50 ≠ e) (hg : w.grownBy w' v.ownBlock) : Wo w' base M :=
  ⟨fun x hm => World.ownsRow.kept (h.own x hm) hg (owns_apart (h.own x hm) hv hne), h.apart⟩
/-- A cell of another block is written. -/
theorem Wo.put {w : World} {base : Nat} {M : List Wh} {B : Nat} {cs : Array Value} {e : TypeId} {fr : Nat × Nat} (h : Wo w base M) (hB : w.heap[B]? = some (.cells cs e fr)) (hne : 50 ≠ e) (k : Nat) (u : Value) : Wo (w.setCell ⟨B, k, none⟩ u) base M :=
  ⟨fun x hm => owns_put (h.own x hm) (owns_other (h.own x hm) hB hne) k u, h.apart⟩
theorem Wo.as {w : World} {base : Nat} {M : List Wh} (h : Wo w base M) : ∀ x ∈ M, As w x.2.1 x.2.2.1 x.2.2.2 x.1.2 := fun x hm => by
  obtain ⟨a, c, hv, hr⟩ := (h.own x hm).row
  injection hv with h1 h2 h3
  rw [h1, h2, h3]
  exact hr
theorem Wo.ws {w : World} {base b2 : Nat} {M : List Wh} {a : Option Addr} {n c : Nat} (h : Wo w base M) (hr : ORow wc 2 w b2 59 (.slice a n c) M) : Ws w a n c M := by
  obtain ⟨a', c', hv, hr2⟩ := hr.row
  cases hv
  exact ⟨hr2, h.as⟩
/-- One more, in a block that is new. -/
theorem Wo.snoc {w w0 : World} {base : Nat} {M : List Wh} (h0 : Wo w0 base M) (h : Wo w base M) {x : Wh} (hx : ORow ac 4 w w0.heap.size 50 (wsl x) x.1.2) (hb : base ≤ w0.heap.size) : Wo w base (M ++ [x]) := by
  refine ⟨fun y hm => ?_, ?_⟩
  · rcases List.mem_append.1 hm with hm | hm
    · exact h.own y hm
    · obtain rfl : y = x := by simpa using hm
      exact owns_mono hx hb
  · rw [List.pairwise_append]
    refine ⟨h.apart, by simp, fun y hy z hz => ?_⟩
    obtain rfl : z = x := by simpa using hz
    cases hbl : (wsl z).ownBlock with
    | none => exact .inl rfl
    | some k =>
      refine .inr fun he => ?_
      have h1 := (World.ownsRow.lt hx k hbl).1
      have h2 := (World.ownsRow.lt (h0.own y hy) k he.symm).2
      omega
theorem rcells_one (x : Wh) : rcells wc [x] = wc x := by simp [rcells]
/-- A struct of four fields is written. -/
def put4 (w : World) (b : Nat) (u0 u1 u2 u3 : Value) : World := (((w.setCell ⟨b, 0, none⟩ u0).setCell ⟨b, 1, none⟩ u1).setCell ⟨b, 2, none⟩ u2).setCell ⟨b, 3, none⟩ u3
theorem put4_block {w : World} {b : Nat} {v0 v1 v2 v3 : Value} {t : TypeId} (h : w.heap[b]? = some (.cells #[v0, v1, v2, v3] t (0, 0))) (u0 u1 u2 u3 : Value) : (put4 w b u0 u1 u2 u3).heap[b]? = some (.cells #[u0, u1, u2, u3] t (0, 0)) := by
  have h0 := at_setCell h 0 u0
  have h1 := at_setCell h0 1 u1
  have h2 := at_setCell h1 2 u2
  have h3 := at_setCell h2 3 u3
  simpa [put4] using h3
theorem put4_grownBy (w : World) (b : Nat) (u0 u1 u2 u3 : Value) : w.grownBy (put4 w b u0 u1 u2 u3) (some b) :=
  grownBy_trans (grownBy_trans (grownBy_trans (put_grownBy w b 0 u0) (put_grownBy _ b 1 u1)) (put_grownBy _ b 2 u2)) (put_grownBy _ b 3 u3)
theorem owns_beside {W W' : World} {b : Nat} {e : TypeId} {s : Nat} {v : Value} {n : Nat} {xs : List Value} {B : Nat} (h : W.ownsRow b e s v n xs) (hB : v.ownBlock ≠ some B) (hg : W.grownBy W' (some B)) : W'.ownsRow b e s v n xs := h.kept hg (.inr hB)
theorem Wo.beside {w w' : World} {base : Nat} {M : List Wh} {B : Nat} {cs : Array Value} {e : TypeId} {fr : Nat × Nat} (h : Wo w base M) (hB : w.heap[B]? = some (.cells cs e fr)) (hne : 50 ≠ e) (hg : w.grownBy w' (some B)) : Wo w' base M :=
  ⟨fun x hm => World.ownsRow.kept (h.own x hm) hg (.inr (owns_other (h.own x hm) hB hne)), h.apart⟩
end Go.Proofs.Ytcbjadmngkednaa
