/-
  Rows in memory: elements of so many cells; rows of the call's own; strings in their order. No program's function in sight.
-/
import Derived.Test.YtponbponacdhkaaProg
import Derived.Test.YtponbponacdhkaaLib
import Derived.KernelRfl
import GoSem.Op.String
import Derived.Lib.AppendZerosOnto
import Derived.Lib.Overlaps
import Derived.Laws.CopyRow
import Derived.Shelf.Spec.SlicesInsert
import Derived.Maps.AppendAt
namespace Go.Proofs.Ytponbponacdhkaa
open Go.RowKit

/-- One string ahead of another one. -/
abbrev bl : List UInt8 → List UInt8 → Bool := Op.bytesLess
theorem bl_irrefl : ∀ a : List UInt8, bl a a = false
  | [] => rfl
  | x :: a => by simp [bl, Op.bytesLess, UInt8.lt_irrefl]; exact bl_irrefl a
theorem bl_trans : ∀ a b c : List UInt8, bl a b = true → bl b c = true → bl a c = true
  | [], [], _, h, _ => by simp [bl, Op.bytesLess] at h
  | [], _ :: _, [], _, h => by simp [bl, Op.bytesLess] at h
  | [], _ :: _, _ :: _, _, _ => rfl
  | _ :: _, [], _, h, _ => by simp [bl, Op.bytesLess] at h
  | _ :: _, _ :: _, [], _, h => by simp [bl, Op.bytesLess] at h
  | x :: a, y :: b, z :: c, h1, h2 => by
    have ih := bl_trans a b c
    simp only [bl, Op.bytesLess, Bool.or_eq_true, Bool.and_eq_true, decide_eq_true_eq, beq_iff_eq] at h1 h2 ih ⊢
    rcases h1 with h1 | ⟨rfl, h1⟩
    · rcases h2 with h2 | ⟨rfl, h2⟩
      · exact .inl (UInt8.lt_trans h1 h2)
      · exact .inl h1
    · rcases h2 with h2 | ⟨rfl, h2⟩
      · exact .inl h2
      · exact .inr ⟨rfl, ih h1 h2⟩
theorem bl_total : ∀ a b : List UInt8, bl a b = true ∨ a = b ∨ bl b a = true
  | [], [] => .inr (.inl rfl)
  | [], _ :: _ => .inl rfl
  | _ :: _, [] => .inr (.inr rfl)
  | x :: a, y :: b => by
    have ih := bl_total a b
    simp only [bl, Op.bytesLess, Bool.or_eq_true, Bool.and_eq_true, decide_eq_true_eq, beq_iff_eq] at ih ⊢
    by_cases hxy : x = y
    · subst hxy
      rcases ih with h | rfl | h
      · exact .inl (.inr ⟨rfl, h⟩)
      · exact .inr (.inl rfl)
      · exact .inr (.inr (.inr ⟨rfl, h⟩))
    · by_cases h : x < y
      · exact .inl (.inl h)
      · exact .inr (.inr (.inl (UInt8.lt_of_le_of_ne (UInt8.not_lt.1 h) (Ne.symm hxy))))
theorem bl_asymm (a b : List UInt8) (h : bl a b = true) : bl b a = false := by
  cases h2 : bl b a with
  | false => rfl
  | true => have := bl_trans a b a h h2; rw [bl_irrefl] at this; cases this
theorem bl_ne (a b : List UInt8) (h : bl a b = true) : a ≠ b := fun e => by subst e; rw [bl_irrefl] at h; cases h

theorem lt_of_block {w : World} {b : Nat} {o : Obj} (h : w.heap[b]? = some o) : b < w.heap.size := (Array.getElem?_eq_some_iff.1 h).1
/-! ### Rows of elements of so many cells -/
section
variable {α : Type} (enc : α → List Value) (s : Nat)
def rcells (l : List α) : List Value := l.flatMap enc
theorem rcells_cons (x : α) (l : List α) : rcells enc (x :: l) = enc x ++ rcells enc l := rfl
theorem rcells_append (l m : List α) : rcells enc (l ++ m) = rcells enc l ++ rcells enc m := by simp [rcells]
theorem rcells_length (hs : ∀ x, (enc x).length = s) (l : List α) : (rcells enc l).length = l.length * s := by
  induction l with
  | nil => simp [rcells]
  | cons x l ih => rw [rcells_cons, List.length_append, ih, hs, List.length_cons, Nat.succ_mul]; omega
theorem rcells_at (hs : ∀ x, (enc x).length = s) : ∀ (l : List α) (k : Nat) (h : k < l.length) (j : Nat), j < s → (rcells enc l)[k * s + j]? = (enc l[k])[j]?
  | x :: l, 0, _, j, hj => by
    rw [rcells_cons, Nat.zero_mul, Nat.zero_add, List.getElem?_append_left (by rw [hs]; exact hj)]; rfl
  | x :: l, k + 1, h, j, hj => by
    have ih := rcells_at hs l k (by simpa using h) j hj
    rw [rcells_cons, List.getElem?_append_right (by rw [hs, Nat.succ_mul]; omega), hs, show (k + 1) * s + j - s = k * s + j by rw [Nat.succ_mul]; omega, ih]
    rfl
end
/-- In w, '.slice a n c' reads as these elements. -/
def Row {α : Type} (enc : α → List Value) (s : Nat) (w : World) (a : Option Addr) (n c : Nat) (l : List α) : Prop := Sl w a n c s (rcells enc l)
theorem Row.ext {α : Type} {enc : α → List Value} {s : Nat} {w w' : World} {a : Option Addr} {n c : Nat} {l : List α} (h : Row enc s w a n c l) (hx : Ext w w') : Row enc s w' a n c l := Sl.ext h hx
theorem Row.nil {α : Type} (enc : α → List Value) (s : Nat) (w : World) : Row enc s w none 0 0 ([] : List α) := ⟨by simp [rcells], Nat.le_refl _, Nat.zero_le _, fun _ => rfl, fun h => absurd h (by omega)⟩
theorem Row.len {α : Type} {enc : α → List Value} {s : Nat} (hs : ∀ x, (enc x).length = s) (h0 : 0 < s) {w : World} {a : Option Addr} {n c : Nat} {l : List α} (h : Row enc s w a n c l) : l.length = n := by
  have := Sl.len h
  rw [rcells_length enc s hs] at this
  exact Nat.eq_of_mul_eq_mul_right h0 this
theorem Row.at {α : Type} {enc : α → List Value} {s : Nat} (hs : ∀ x, (enc x).length = s) {w : World} {a : Option Addr} {n c : Nat} {l : List α} (h : Row enc s w a n c l) (hn : 0 < n) :
    ∃ b o, a = some ⟨b, o, none⟩ ∧ ∀ k (hk : k < l.length) j v, (enc l[k])[j]? = some v → w.cell? ⟨b, o + k * s + j, none⟩ = some v := by
  obtain ⟨b, o, ha, hc⟩ := Sl.at_ h hn
  refine ⟨b, o, ha, fun k hk j v hv => ?_⟩
  have hj : j < s := by have := (List.getElem?_eq_some_iff.1 hv).1; rwa [hs] at this
  rw [← rcells_at enc s hs l k hk j hj] at hv
  obtain ⟨h1, h2⟩ := List.getElem?_eq_some_iff.1 hv
  rw [Nat.add_assoc, hc _ h1, h2]
/-- A row of the call's own. -/
def ORow {α : Type} (enc : α → List Value) (s : Nat) (w : World) (base : Nat) (e : TypeId) (v : Value) (l : List α) : Prop := w.ownsRow base e s v l.length (rcells enc l)
theorem ORow.row {α : Type} {enc : α → List Value} {s : Nat} {w : World} {base : Nat} {e : TypeId} {v : Value} {l : List α} (h : ORow enc s w base e v l) : ∃ a c, v = .slice a l.length c ∧ Row enc s w a l.length c l := Sl.of_owns h
theorem ORow.ext {α : Type} {enc : α → List Value} {s : Nat} {w w' : World} {base : Nat} {e : TypeId} {v : Value} {l : List α} (h : ORow enc s w base e v l) (hx : Ext w w') : ORow enc s w' base e v l := owns_ext h hx

theorem grownBy_trans {w w1 w2 : World} {row : Option Nat} (h : w.grownBy w1 row) (h2 : w1.grownBy w2 row) : w.grownBy w2 row :=
  ⟨h2.os.trans h.os, h2.tape.trans h.tape, h2.output.trans h.output, Nat.le_trans h.size h2.size, fun k hk hne => (h2.block k (Nat.lt_of_lt_of_le hk h.size) hne).trans (h.block k hk hne)⟩
theorem at_setCell {w : World} {b : Nat} {cs : Array Value} {t : TypeId} (h : w.heap[b]? = some (.cells cs t (0, 0))) (k : Nat) (u : Value) : (w.setCell ⟨b, k, none⟩ u).heap[b]? = some (.cells (cs.setIfInBounds k u) t (0, 0)) := by
  unfold World.setCell
  simp [h, Array.getElem?_modify]
theorem owns_apart {W : World} {b1 b2 : Nat} {e1 e2 : TypeId} {s1 s2 : Nat} {v1 v2 : Value} {n1 n2 : Nat} {x1 x2 : List Value} (h1 : W.ownsRow b1 e1 s1 v1 n1 x1) (h2 : W.ownsRow b2 e2 s2 v2 n2 x2) (hne : e1 ≠ e2) : v1.ownBlock = none ∨ v1.ownBlock ≠ v2.ownBlock := by
  cases h : v1.ownBlock with
  | none => exact .inl rfl
  | some k =>
    refine .inr fun he => hne ?_
    obtain ⟨c1, f1, g1⟩ := owns_block h1 k h
    obtain ⟨c2, f2, g2⟩ := owns_block h2 k he.symm
    rw [g1] at g2
    cases g2; rfl
theorem owns_other {W : World} {b : Nat} {e e2 : TypeId} {s : Nat} {v : Value} {n : Nat} {xs : List Value} (h : W.ownsRow b e s v n xs) {B : Nat} {cs : Array Value} {fr : Nat × Nat} (hB : W.heap[B]? = some (.cells cs e2 fr)) (hne : e ≠ e2) : v.ownBlock ≠ some B := fun he => by
  obtain ⟨c1, f1, g1⟩ := owns_block h B he
  rw [g1] at hB
  cases hB
  exact hne rfl
theorem put_grownBy (W : World) (B k : Nat) (u : Value) : W.grownBy (W.setCell ⟨B, k, none⟩ u) (some B) := ⟨rfl, rfl, rfl, by simp [World.setCell], fun j _ hj => Below.heap_setCell _ _ _ _ (fun e => hj (by rw [e]))⟩
theorem owns_put {W : World} {b : Nat} {e : TypeId} {s : Nat} {v : Value} {n : Nat} {xs : List Value} (h : W.ownsRow b e s v n xs) {B : Nat} (hB : v.ownBlock ≠ some B) (k : Nat) (u : Value) : (W.setCell ⟨B, k, none⟩ u).ownsRow b e s v n xs :=
  h.kept (row := some B) (put_grownBy _ _ _ _) (.inr hB)
theorem owns_mono {w : World} {base base' : Nat} {e : TypeId} {size : Nat} {v : Value} {n : Nat} {xs : List Value} (h : w.ownsRow base e size v n xs) (hb : base' ≤ base) : w.ownsRow base' e size v n xs := by
  refine ⟨h.1, ?_⟩
  rcases h.2 with h | ⟨g, cap, cur, hv, hg, r⟩
  · exact .inl h
  · exact .inr ⟨g, cap, cur, hv, Nat.le_trans hb hg, r⟩

theorem owns_beside {W W' : World} {b : Nat} {e : TypeId} {s : Nat} {v : Value} {n : Nat} {xs : List Value} {B : Nat} (h : W.ownsRow b e s v n xs) (hB : v.ownBlock ≠ some B) (hg : W.grownBy W' (some B)) : W'.ownsRow b e s v n xs := h.kept hg (.inr hB)
/-- A struct of four fields is written. -/
def put4 (w : World) (b : Nat) (u0 u1 u2 u3 : Value) : World := (((w.setCell ⟨b, 0, none⟩ u0).setCell ⟨b, 1, none⟩ u1).setCell ⟨b, 2, none⟩ u2).setCell ⟨b, 3, none⟩ u3
theorem put4_block {w : World} {b : Nat} {v0 v1 v2 v3 : Value} {t : TypeId} (h : w.heap[b]? = some (.cells #[v0, v1, v2, v3] t (0, 0))) (u0 u1 u2 u3 : Value) : (put4 w b u0 u1 u2 u3).heap[b]? = some (.cells #[u0, u1, u2, u3] t (0, 0)) := by
  have h0 := at_setCell h 0 u0
  have h1 := at_setCell h0 1 u1
  have h2 := at_setCell h1 2 u2
  have h3 := at_setCell h2 3 u3
  simpa [put4] using h3
theorem put4_grownBy (w : World) (b : Nat) (u0 u1 u2 u3 : Value) : w.grownBy (put4 w b u0 u1 u2 u3) (some b) :=
  grownBy_trans (grownBy_trans (grownBy_trans (put_grownBy w b 0 u0) (put_grownBy _ b 1 u1)) (put_grownBy _ b 2 u2)) (put_grownBy _ b 3 u3)
theorem sl_block {w : World} {b : Nat} {cs : List Value} {e : TypeId} {n s : Nat} (h : w.heap[b]? = some (.cells cs.toArray e (0, 0))) (hl : cs.length = n * s) (hn : n ≤ maxLen) : Sl w (some ⟨b, 0, none⟩) n n s cs :=
  ⟨hl, Nat.le_refl _, hn, (fun h => by cases h), fun _ => ⟨b, 0, rfl, fun i hi => by simp [World.cell?, h, hi]⟩⟩

theorem subA_some (b o c l s : Nat) (h : c ≠ l) : subA (some ⟨b, o, none⟩) c l s = some ⟨b, o + l * s, none⟩ := by
  unfold subA
  rw [if_neg h]
  simp only [Option.map_some, Addr.add]
  split
  · rename_i h0; rw [h0, Nat.add_zero]
  · rfl
theorem add_at (b o j : Nat) : (⟨b, o, none⟩ : Addr).add j = ⟨b, o + j, none⟩ := by unfold Addr.add; split <;> simp_all
/-- 'copy(d, s)' into a row, elements of so many cells. -/
theorem run_copy_rows {P : Program} (w : World) (dT sT ty elem : TypeId) (i : TypeInfo) (g o dLen dCap : Nat) (a : Addr) (sLen sCap : Nat) (cur : Array Value) (t : TypeId) (cs : List Value) (k : Nat)
    (hu : P.underlying dT = some (.slice elem)) (hi : P.info? elem = some i)
    (hg : w.heap[g]? = some (.cells cur t (0, 0))) (hk : Nat.min sLen dLen = k) (hn : cs.length = k * i.size)
    (hsrc : ∀ j v, cs[j]? = some v → w.cell? (a.add j) = some v) (hfit : o + cs.length ≤ cur.size) (h1 : ∀ v ∈ cs, v.oneCell' = true) :
    (Builtin.copy_ #[dT, sT] ty #[.slice (some ⟨g, o, none⟩) dLen dCap, .slice (some a) sLen sCap]).run P w =
      .ok (goInt k) (w.setRow g (cur.toList.take o ++ cs ++ cur.toList.drop (o + cs.length)).toArray) := by
  have hl := run_loadCells_list (P := P) w a cs hsrc
  have hst := run_storeCells_at P g o t cs 0 cur w hg (by simpa using hfit) h1
  simp only [Nat.add_zero] at hst
  subst hk
  simp [Builtin.copy_, run_underlying hu, Builtin.lenOf, Builtin.firstCells, sizeOf, typeInfo, hi, ← hn, hl, hst]
theorem heap_setRow {w : World} {g : Nat} {cur : Array Value} {e : TypeId} (h : w.heap[g]? = some (.cells cur e (0, 0))) (r : Array Value) : (w.setRow g r).heap[g]? = some (.cells r e (0, 0)) := setRow_heap w g cur r e _ h
theorem heap_setRow_other {w : World} {g k : Nat} (r : Array Value) (h : k ≠ g) : (w.setRow g r).heap[k]? = w.heap[k]? := by
  unfold World.setRow
  simp [Array.getElem?_modify, Ne.symm h]

theorem rcells_take {α : Type} (enc : α → List Value) (s : Nat) (hs : ∀ x, (enc x).length = s) (l : List α) (i : Nat) : rcells enc (l.take i) = (rcells enc l).take (i * s) := by
  by_cases h : i ≤ l.length
  · have e : rcells enc l = rcells enc (l.take i) ++ rcells enc (l.drop i) := by rw [← rcells_append, List.take_append_drop]
    rw [e, List.take_left' (by rw [rcells_length enc s hs, List.length_take, Nat.min_eq_left h])]
  · rw [List.take_of_length_le (by omega), List.take_of_length_le (by rw [rcells_length enc s hs]; exact Nat.mul_le_mul_right _ (by omega))]
theorem rcells_drop {α : Type} (enc : α → List Value) (s : Nat) (hs : ∀ x, (enc x).length = s) (l : List α) (i : Nat) : rcells enc (l.drop i) = (rcells enc l).drop (i * s) := by
  by_cases h : i ≤ l.length
  · have e : rcells enc l = rcells enc (l.take i) ++ rcells enc (l.drop i) := by rw [← rcells_append, List.take_append_drop]
    rw [e, List.drop_left' (by rw [rcells_length enc s hs, List.length_take, Nat.min_eq_left h])]
  · rw [List.drop_of_length_le (by omega), List.drop_of_length_le (by rw [rcells_length enc s hs]; exact Nat.mul_le_mul_right _ (by omega))]
    rfl

theorem owns_made (w : World) (e : TypeId) (s : Nat) : (w.alloc (.cells #[] e)).ownsRow w.heap.size e s (.slice (some ⟨w.heap.size, 0, none⟩) 0 0) 0 [] := World.ownsRow_made w #[] 0 (Nat.le_refl _) (Nat.zero_le _) (by simp)
/-- A struct of four fields that lies in a block of its own: the block, its cells. -/
theorem cells_four {w : World} {b : Nat} {v0 v1 v2 v3 : Value} {t : TypeId} (h : w.heap[b]? = some (.cells #[v0, v1, v2, v3] t (0, 0))) :
    (w.cell? ⟨b, 0, none⟩ = some v0 ∧ w.cell? ⟨b, 1, none⟩ = some v1 ∧ w.cell? ⟨b, 2, none⟩ = some v2 ∧ w.cell? ⟨b, 3, none⟩ = some v3) ∧
    (w.frozen? ⟨b, 0, none⟩ = false ∧ w.frozen? ⟨b, 1, none⟩ = false ∧ w.frozen? ⟨b, 2, none⟩ = false ∧ w.frozen? ⟨b, 3, none⟩ = false) :=
  ⟨⟨by simp [World.cell?, h], by simp [World.cell?, h], by simp [World.cell?, h], by simp [World.cell?, h]⟩, ⟨by simp [World.frozen?, h], by simp [World.frozen?, h], by simp [World.frozen?, h], by simp [World.frozen?, h]⟩⟩
/-- Two structs of four fields in new blocks. -/
theorem two_blocks {w W : World} {o1 o2 : Obj} (h : Ext ((w.alloc o1).alloc o2) W) : W.heap[w.heap.size]? = some o1 ∧ W.heap[w.heap.size + 1]? = some o2 := by
  constructor
  · refine (h.block _ (by simp; omega)).trans ?_
    exact ((Ext.alloc (w.alloc o1) o2).block _ (by simp)).trans (heap_alloc_new w o1)
  · refine (h.block _ (by simp)).trans ?_
    have := heap_alloc_new (w.alloc o1) o2
    simpa using this
theorem three_blocks {w W : World} {o1 o2 o3 : Obj} (h : Ext (((w.alloc o1).alloc o2).alloc o3) W) : W.heap[w.heap.size]? = some o1 ∧ W.heap[w.heap.size + 1]? = some o2 ∧ W.heap[w.heap.size + 1 + 1]? = some o3 := by
  obtain ⟨h1, h2⟩ := two_blocks ((Ext.alloc ((w.alloc o1).alloc o2) o3).trans h)
  refine ⟨h1, h2, (h.block _ (by simp)).trans ?_⟩
  have := heap_alloc_new ((w.alloc o1).alloc o2) o3
  simpa using this
theorem cells_three {w : World} {b : Nat} {v0 v1 v2 : Value} {t : TypeId} (h : w.heap[b]? = some (.cells #[v0, v1, v2] t (0, 0))) : w.cell? ⟨b, 0, none⟩ = some v0 ∧ w.cell? ⟨b, 1, none⟩ = some v1 ∧ w.cell? ⟨b, 2, none⟩ = some v2 :=
  ⟨by simp [World.cell?, h], by simp [World.cell?, h], by simp [World.cell?, h]⟩
theorem own_block {α : Type} {enc : α → List Value} {s : Nat} {w : World} {base : Nat} {e : TypeId} {v : Value} {l : List α} (h : ORow enc s w base e v l) (h0 : 0 < l.length) :
    ∃ g cap cur, v = .slice (some ⟨g, 0, none⟩) l.length cap ∧ w.heap[g]? = some (.cells cur e (0, 0)) := by
  rcases h.2 with ⟨_, hn⟩ | ⟨g, cap, cur, hv, _, hg, _⟩
  · omega
  · exact ⟨g, cap, cur, hv, hg⟩
theorem own_cell {α : Type} {enc : α → List Value} {s : Nat} (hs : ∀ x, (enc x).length = s) {w : World} {base : Nat} {e : TypeId} {g n c : Nat} {l : List α} (h : ORow enc s w base e (.slice (some ⟨g, 0, none⟩) n c) l) (i : Nat) (hi : i < l.length) (j : Nat) (v : Value) (hv : (enc l[i])[j]? = some v) :
    w.cell? ⟨g, i * s + j, none⟩ = some v := by
  have hj : j < s := by have := (List.getElem?_eq_some_iff.1 hv).1; rwa [hs] at this
  rw [← rcells_at enc s hs l i hi j hj] at hv
  have := World.ownsRow.cells (g := g) h rfl (i * s + j) v hv
  rwa [add_at, Nat.zero_add] at this
theorem rcells_set {α : Type} (enc : α → List Value) (s : Nat) (hs : ∀ x, (enc x).length = s) : ∀ (l : List α) (i : Nat) (hi : i < l.length) (j : Nat) (v : Value) (x : α), j < s → enc x = (enc l[i]).set j v → (rcells enc l).set (i * s + j) v = rcells enc (l.set i x)
  | y :: l, 0, _, j, v, x, hj, hx => by
    rw [rcells_cons, Nat.zero_mul, Nat.zero_add, List.set_append_left _ _ (by rw [hs]; exact hj), List.set_cons_zero, rcells_cons, hx]; rfl
  | y :: l, i + 1, hi, j, v, x, hj, hx => by
    have ih := rcells_set enc s hs l i (by simpa using hi) j v x hj hx
    rw [rcells_cons, List.set_append_right _ _ (by rw [hs, Nat.succ_mul]; omega), hs, show (i + 1) * s + j - s = i * s + j by rw [Nat.succ_mul]; omega, ih, List.set_cons_succ, rcells_cons]
/-- A block of other cells than the row's is as it was behind an append. -/
theorem block_beside {w w' : World} {base : Nat} {e e2 : TypeId} {size : Nat} {v : Value} {n : Nat} {xs : List Value} (h : w.ownsRow base e size v n xs) (hg : w.grownBy w' v.ownBlock) {p : Nat} {cur : Array Value} {fr : Nat × Nat}
    (hp : w.heap[p]? = some (.cells cur e2 fr)) (hne : e ≠ e2) : w'.heap[p]? = some (.cells cur e2 fr) := by
  refine (hg.block p (lt_of_block hp) (fun hk => ?_)).trans hp
  obtain ⟨c2, f2, h2⟩ := owns_block h p hk.symm
  rw [hp] at h2
  cases h2
  exact hne rfl
theorem wpList_append_sl_at {P : Program} {w : World} {ops : Array Oper} {rest : List Oper} {o : Oper} {a : Act} {Q : Exit → Act → World → Prop} (hgd : o.guard = none) (s x : Operand) (t : TypeId)
    (ho : o.op = .call { callee := .builtin .append, args := #[s, x], argTypes := #[t, t] })
    (base : Nat) (e : TypeId) {z : Value} {size bytes : Nat} (ht : P.underlying t = some (.slice e)) (hi : (P.info? e).map (fun i => (i.zero, i.size, i.bytes)) = some (some z, size, bytes))
    (hzs : z.cells.size = size) (hsz : 0 < size)
    (v : Value) (n : Nat) (xs : List Value) (hs : a.eval s = v) (hown : w.ownsRow base e size v n xs)
    (ad : Addr) (m c : Nat) (news : List Value) (hx : a.eval x = .slice (some ad) m c) (hsrc : Sl w (some ad) m c size news) (h1 : ∀ u ∈ news, u.oneCell' = true)
    (hbytes : (n + m) * bytes ≤ 140737488355328) (h63 : n + m ≤ maxLen) (hbase : base ≤ w.heap.size)
    (h : ∀ v' w', w'.ownsRow base e size v' (n + m) (xs ++ news) → w.grownBy w' v.ownBlock → (v'.ownBlock = v.ownBlock ∨ v'.ownBlock = some w.heap.size) → wpList P ops Q rest (a.put o.dst v') w') : wpList P ops Q (o :: rest) a w := by
  obtain ⟨i, hi0, hz0, hz1, hz2⟩ := info_parts hi
  refine wpList_append_own_at w hgd s x t ho base e i z size bytes ht hi0 hz0 hz1 hz2 hzs hsz v n xs hs hown ad m c news hx hsrc.len ?_ h1 h63 hbytes hbase (fun v' w' h1 h2 _ h4 => h v' w' h1 h2 h4)
  intro j u hj
  have hlt : j < news.length := (List.getElem?_eq_some_iff.1 hj).1
  have hm : 0 < m := by
    have := hsrc.len
    rcases Nat.eq_zero_or_pos m with h0 | h0
    · subst h0; simp at this; subst this; simp at hlt
    · exact h0
  obtain ⟨b, of, hab, hc⟩ := hsrc.at_ hm
  cases hab
  rw [show (⟨b, of, none⟩ : Addr).add j = ⟨b, of + j, none⟩ by unfold Addr.add; split <;> simp_all]
  rw [hc j hlt, ← hj, List.getElem?_eq_getElem hlt]

end Go.Proofs.Ytponbponacdhkaa
