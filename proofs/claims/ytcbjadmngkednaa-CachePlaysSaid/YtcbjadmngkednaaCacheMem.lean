/-
  Layer 20: how points, waits and caches lie in memory.
-/
import Derived.Test.YtcbjadmngkednaaProg
import Derived.Test.YtcbjadmngkednaaLib
import Derived.Test.YtcbjadmngkednaaCacheLaws
namespace Go.Proofs.Ytcbjadmngkednaa
open Go.RowKit

theorem lt_of_block {w : World} {b : Nat} {o : Obj} (h : w.heap[b]? = some o) : b < w.heap.size := (Array.getElem?_eq_some_iff.1 h).1
/-! ### Rows of elements of so many cells -/
section
variable {α : Type} (enc : α → List Value) (s : Nat)
def rcells (l : List α) : List Value := l.flatMap enc
theorem rcells_cons (x : α) (l : List α) : rcells enc (x :: l) = enc x ++ rcells enc l := rfl
theorem rcells_append (l m : List α) : rcells enc (l ++ m) = rcells enc l ++ rcells enc m := by simp [rcells]
theorem rcells_length (hs : ∀ x, (enc x).length = s) (l : List α) : (rcells enc l).length = l.length * s := by
  induction l with
  | nil => simp [rcells]
  | cons x l ih => rw [rcells_cons, List.length_append, ih, hs, List.length_cons, Nat.succ_mul]; omega
theorem rcells_at (hs : ∀ x, (enc x).length = s) : ∀ (l : List α) (k : Nat) (h : k < l.length) (j : Nat), j < s → (rcells enc l)[k * s + j]? = (enc l[k])[j]?
  | x :: l, 0, _, j, hj => by
    rw [rcells_cons, Nat.zero_mul, Nat.zero_add, List.getElem?_append_left (by rw [hs]; exact hj)]; rfl
  | x :: l, k + 1, h, j, hj => by
    have ih := rcells_at hs l k (by simpa using h) j hj
    rw [rcells_cons, List.getElem?_append_right (by rw [hs, Nat.succ_mul]; omega), hs, show (k + 1) * s + j - s = k * s + j by rw [Nat.succ_mul]; omega, ih]
    rfl
end
/-- In w, '.slice a n c' reads as these elements. -/
def Row {α : Type} (enc : α → List Value) (s : Nat) (w : World) (a : Option Addr) (n c : Nat) (l : List α) : Prop := Sl w a n c s (rcells enc l)
theorem Row.ext {α : Type} {enc : α → List Value} {s : Nat} {w w' : World} {a : Option Addr} {n c : Nat} {l : List α} (h : Row enc s w a n c l) (hx : Ext w w') : Row enc s w' a n c l := Sl.ext h hx
theorem Row.nil {α : Type} (enc : α → List Value) (s : Nat) (w : World) : Row enc s w none 0 0 ([] : List α) := ⟨by simp [rcells], Nat.le_refl _, Nat.zero_le _, fun _ => rfl, fun h => absurd h (by omega)⟩
theorem Row.len {α : Type} {enc : α → List Value} {s : Nat} (hs : ∀ x, (enc x).length = s) (h0 : 0 < s) {w : World} {a : Option Addr} {n c : Nat} {l : List α} (h : Row enc s w a n c l) : l.length = n := by
  have := Sl.len h
  rw [rcells_length enc s hs] at this
  exact Nat.eq_of_mul_eq_mul_right h0 this
theorem Row.at {α : Type} {enc : α → List Value} {s : Nat} (hs : ∀ x, (enc x).length = s) {w : World} {a : Option Addr} {n c : Nat} {l : List α} (h : Row enc s w a n c l) (hn : 0 < n) :
    ∃ b o, a = some ⟨b, o, none⟩ ∧ ∀ k (hk : k < l.length) j v, (enc l[k])[j]? = some v → w.cell? ⟨b, o + k * s + j, none⟩ = some v := by
  obtain ⟨b, o, ha, hc⟩ := Sl.at_ h hn
  refine ⟨b, o, ha, fun k hk j v hv => ?_⟩
  have hj : j < s := by have := (List.getElem?_eq_some_iff.1 hv).1; rwa [hs] at this
  rw [← rcells_at enc s hs l k hk j hj] at hv
  obtain ⟨h1, h2⟩ := List.getElem?_eq_some_iff.1 hv
  rw [Nat.add_assoc, hc _ h1, h2]
/-- A row of the call's own. -/
def ORow {α : Type} (enc : α → List Value) (s : Nat) (w : World) (base : Nat) (e : TypeId) (v : Value) (l : List α) : Prop := w.ownsRow base e s v l.length (rcells enc l)
theorem ORow.row {α : Type} {enc : α → List Value} {s : Nat} {w : World} {base : Nat} {e : TypeId} {v : Value} {l : List α} (h : ORow enc s w base e v l) : ∃ a c, v = .slice a l.length c ∧ Row enc s w a l.length c l := Sl.of_owns h
theorem ORow.ext {α : Type} {enc : α → List Value} {s : Nat} {w w' : World} {base : Nat} {e : TypeId} {v : Value} {l : List α} (h : ORow enc s w base e v l) (hx : Ext w w') : ORow enc s w' base e v l := owns_ext h hx

/-- A point's cells; a wait's: its path, and where its points lie. -/
def ac (p : Ar) : List Value := [.int .i64 p.time, .int .i64 p.value, .int .i64 p.now, .int .i64 p.order]
theorem ac_len (p : Ar) : (ac p).length = 4 := rfl
abbrev As (w : World) (a : Option Addr) (n c : Nat) (l : List Ar) : Prop := Row ac 4 w a n c l
abbrev Wh := Wt × (Option Addr × Nat × Nat)
def wc (x : Wh) : List Value := [.string ⟨x.1.1.toArray⟩, .slice x.2.1 x.2.2.1 x.2.2.2]
theorem wc_len (x : Wh) : (wc x).length = 2 := rfl
/-- In w, '.slice a n c' reads as these waits. -/
def Ws (w : World) (a : Option Addr) (n c : Nat) (M : List Wh) : Prop := Row wc 2 w a n c M ∧ ∀ x ∈ M, As w x.2.1 x.2.2.1 x.2.2.2 x.1.2
theorem Ws.ext {w w' : World} {a : Option Addr} {n c : Nat} {M : List Wh} (h : Ws w a n c M) (hx : Ext w w') : Ws w' a n c M := ⟨h.1.ext hx, fun x hm => (h.2 x hm).ext hx⟩
theorem As.len {w : World} {a : Option Addr} {n c : Nat} {l : List Ar} (h : As w a n c l) : l.length = n := Row.len ac_len (by decide) h
theorem Ws.len {w : World} {a : Option Addr} {n c : Nat} {M : List Wh} (h : Ws w a n c M) : M.length = n := Row.len wc_len (by decide) h.1
abbrev ws (M : List Wh) : List Wt := M.map (·.1)
/-- A cache as a value. -/
def cav (m : Int) (a : Option Addr) (n c : Nat) (came dropped : Int) : Value := .agg #[.int .i64 m, .slice a n c, .int .i64 came, .int .i64 dropped]
theorem box4 {w W : World} {v0 v1 v2 v3 : Value} {t : TypeId} (h : Ext (w.alloc (.cells #[v0, v1, v2, v3] t)) W) :
    W.cell? ⟨w.heap.size, 0, none⟩ = some v0 ∧ W.cell? ⟨w.heap.size, 1, none⟩ = some v1 ∧ W.cell? ⟨w.heap.size, 2, none⟩ = some v2 ∧ W.cell? ⟨w.heap.size, 3, none⟩ = some v3 := by
  have hB := h.block w.heap.size (by simp)
  rw [heap_alloc_new] at hB
  exact ⟨by simp [World.cell?, hB], by simp [World.cell?, hB], by simp [World.cell?, hB], by simp [World.cell?, hB]⟩
theorem As.at {w : World} {a : Option Addr} {n c : Nat} {l : List Ar} (h : As w a n c l) (hn : 0 < n) :
    ∃ b o, a = some ⟨b, o, none⟩ ∧ ∀ k (hk : k < l.length), w.cell? ⟨b, o + k * 4, none⟩ = some (.int .i64 l[k].time) ∧ w.cell? ⟨b, o + k * 4 + 1, none⟩ = some (.int .i64 l[k].value) ∧
      w.cell? ⟨b, o + k * 4 + 2, none⟩ = some (.int .i64 l[k].now) ∧ w.cell? ⟨b, o + k * 4 + 3, none⟩ = some (.int .i64 l[k].order) := by
  obtain ⟨b, o, ha, hc⟩ := Row.at ac_len h hn
  exact ⟨b, o, ha, fun k hk => ⟨hc k hk 0 _ rfl, hc k hk 1 _ rfl, hc k hk 2 _ rfl, hc k hk 3 _ rfl⟩⟩
theorem Ws.at {w : World} {a : Option Addr} {n c : Nat} {M : List Wh} (h : Ws w a n c M) (hn : 0 < n) :
    ∃ b o, a = some ⟨b, o, none⟩ ∧ ∀ k (hk : k < M.length), w.cell? ⟨b, o + k * 2, none⟩ = some (.string ⟨M[k].1.1.toArray⟩) ∧ w.cell? ⟨b, o + k * 2 + 1, none⟩ = some (.slice M[k].2.1 M[k].2.2.1 M[k].2.2.2) := by
  obtain ⟨b, o, ha, hc⟩ := Row.at wc_len h.1 hn
  exact ⟨b, o, ha, fun k hk => ⟨hc k hk 0 _ rfl, hc k hk 1 _ rfl⟩⟩
end Go.Proofs.Ytcbjadmngkednaa
