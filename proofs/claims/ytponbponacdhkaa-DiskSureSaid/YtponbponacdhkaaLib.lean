/-
  Words on memory that the walks use: a slice value that reads as a list of cells, as bytes; what the call's own rows are good for. No program in sight.
-/
import Derived.WalkKit
import Derived.Lib.Hide
import Derived.Lib.AppendZeros
import Derived.Lib.SlBytesConst
import Derived.Laws.AppendOwnNone
import Derived.Deep.QuietTactic
import Derived.BigQuiet
import Derived.WalkSpells
import Derived.WalkLawsBesides
namespace Go.Proofs.Ytponbponacdhkaa
open Go.RowKit

/-- In w, '.slice a n c' reads as these cells, 'size' of them an element. (Of nothing no address is asked.) -/
structure Sl (w : World) (a : Option Addr) (n c size : Nat) (cells : List Value) : Prop where
  len : cells.length = n * size
  le : n ≤ c
  max : c ≤ maxLen
  nil : a = none → c = 0
  at_ : 0 < n → ∃ b o, a = some ⟨b, o, none⟩ ∧ ∀ i (h : i < cells.length), w.cell? ⟨b, o + i, none⟩ = some cells[i]
/-- A byte's cell. -/
def bv (x : UInt8) : Value := .int .u8 (x.toNat : Int)
def bvs (l : List UInt8) : List Value := l.map bv
theorem bvs_length (l : List UInt8) : (bvs l).length = l.length := by simp [bvs]
theorem bvs_append (l m : List UInt8) : bvs (l ++ m) = bvs l ++ bvs m := by simp [bvs]
/-- In w, '.slice a n c' reads as these bytes. -/
def Bs (w : World) (a : Option Addr) (n c : Nat) (l : List UInt8) : Prop := Sl w a n c 1 (bvs l)
/-- What was there stays as it was. -/
abbrev Ext (w w' : World) : Prop := Below w.heap.size w w'

theorem Ext.cell {w w' : World} (h : Ext w w') {a : Addr} {v : Value} (hc : w.cell? a = some v) : w'.cell? a = some v :=
  (Below.cell h (World.block_lt_of_cell? w a hc)).trans hc
theorem Ext.trans {w w1 w2 : World} (h : Ext w w1) (h2 : Ext w1 w2) : Ext w w2 := Below.trans h (Below.mono h2 h.size)
theorem Ext.refl (w : World) : Ext w w := Below.refl _ _
theorem Ext.drewN (w : World) (q : Nat) : Ext w (w.drewN q) := ⟨rfl, rfl, rfl, Nat.le_refl _, fun _ _ => rfl⟩
theorem Ext.alloc (w : World) (o : Obj) : Ext w (w.alloc o) := (Below.refl _ _).alloc (Nat.le_refl _) _
theorem Sl.ext {w w' : World} {a : Option Addr} {n c size : Nat} {cells : List Value} (h : Sl w a n c size cells) (hx : Ext w w') : Sl w' a n c size cells :=
  ⟨h.len, h.le, h.max, h.nil, fun hn => by
    obtain ⟨b, o, ha, hc⟩ := h.at_ hn
    exact ⟨b, o, ha, fun i hi => hx.cell (hc i hi)⟩⟩
theorem Bs.ext {w w' : World} {a : Option Addr} {n c : Nat} {l : List UInt8} (h : Bs w a n c l) (hx : Ext w w') : Bs w' a n c l := Sl.ext h hx
theorem Bs.len {w : World} {a : Option Addr} {n c : Nat} {l : List UInt8} (h : Bs w a n c l) : l.length = n := by
  have := Sl.len h
  rwa [bvs_length, Nat.mul_one] at this
theorem Bs.at {w : World} {a : Option Addr} {n c : Nat} {l : List UInt8} (h : Bs w a n c l) (hn : 0 < n) :
    ∃ b o, a = some ⟨b, o, none⟩ ∧ ∀ i (h : i < l.length), w.cell? ⟨b, o + i, none⟩ = some (.int .u8 (l[i].toNat : Int)) := by
  obtain ⟨b, o, ha, hc⟩ := Sl.at_ h hn
  refine ⟨b, o, ha, fun i hi => ?_⟩
  have := hc i (by rw [bvs_length]; exact hi)
  simpa [bvs, bv] using this

theorem bs_nil (w : World) : Bs w none 0 0 [] := ⟨rfl, Nat.le_refl _, Nat.zero_le _, fun _ => rfl, fun h => absurd h (by omega)⟩
/-- A row of the call's own reads as its cells. -/
theorem Sl.of_owns {w : World} {base : Nat} {e : TypeId} {size : Nat} {v : Value} {n : Nat} {xs : List Value} (h : w.ownsRow base e size v n xs) :
    ∃ a c, v = .slice a n c ∧ Sl w a n c size xs := by
  have hl := h.1
  rcases h.2 with ⟨rfl, rfl⟩ | ⟨g, cap, cur, rfl, hb, hg, hnc, hcm, hcs, htake⟩
  · exact ⟨none, 0, rfl, hl, Nat.le_refl _, Nat.zero_le _, fun _ => rfl, fun h => absurd h (by omega)⟩
  · refine ⟨some ⟨g, 0, none⟩, cap, rfl, hl, hnc, hcm, (fun h => by cases h), fun hn => ⟨g, 0, rfl, fun i hi => ?_⟩⟩
    have := h.cells (g := g) rfl i xs[i] (by simp)
    rw [show (⟨g, 0, none⟩ : Addr).add i = ⟨g, 0 + i, none⟩ by unfold Addr.add; split <;> simp_all] at this
    exact this

/-- Bytes in a row of the call's own. -/
def Own (w : World) (base : Nat) (e : TypeId) (v : Value) (l : List UInt8) : Prop := w.ownsRow base e 1 v l.length (bvs l)
theorem Own.bs {w : World} {base : Nat} {e : TypeId} {v : Value} {l : List UInt8} (h : Own w base e v l) : ∃ a n c, v = .slice a n c ∧ Bs w a n c l := by
  obtain ⟨a, c, h1, h2⟩ := Sl.of_owns h
  exact ⟨a, _, c, h1, h2⟩
theorem Own.addr {w : World} {base : Nat} {e : TypeId} {a : Option Addr} {n c : Nat} {l : List UInt8} (h : Own w base e (.slice a n c) l) (hn : 0 < l.length) :
    ∃ g, a = some ⟨g, 0, none⟩ ∧ base ≤ g ∧ n = l.length := by
  rcases h.2 with ⟨h1, h2⟩ | ⟨g, cap, cur, hv, hb, _⟩
  · omega
  · cases hv; exact ⟨g, rfl, hb, rfl⟩
/-- A store into a byte of the call's own row. -/
theorem Own.stored {w : World} {base : Nat} {e : TypeId} {g n c : Nat} {l : List UInt8} (h : Own w base e (.slice (some ⟨g, 0, none⟩) n c) l) (hn : n = l.length) (j : Nat) (x : UInt8) :
    Own (w.setCell ⟨g, j, none⟩ (bv x)) base e (.slice (some ⟨g, 0, none⟩) n c) (l.set j x) ∧ w.grownBy (w.setCell ⟨g, j, none⟩ (bv x)) (some g) := by
  subst hn
  have := World.ownsRow.stored h j (bv x)
  refine ⟨?_, this.2⟩
  unfold Own bvs
  rw [List.map_set, List.length_set]
  exact this.1
theorem Own.bs_at {w : World} {base : Nat} {e : TypeId} {a : Option Addr} {n c : Nat} {l : List UInt8} (h : Own w base e (.slice a n c) l) : Bs w a n c l := by
  obtain ⟨a', n', c', hv, hb⟩ := h.bs
  cases hv; exact hb
theorem bvs_one (l : List UInt8) : ∀ u ∈ bvs l, u.oneCell' = true := by
  intro u hu
  simp [bvs] at hu
  obtain ⟨x, _, rfl⟩ := hu
  rfl

/-- A literal's row is the call's own. -/
theorem owns_lit (w : World) (cs : List Value) (e : TypeId) (h : cs.length ≤ maxLen) : (w.alloc (.cells cs.toArray e)).ownsRow w.heap.size e 1 (.slice (some ⟨w.heap.size, 0, none⟩) cs.length cs.length) cs.length cs :=
  ⟨by simp, .inr ⟨w.heap.size, cs.length, cs.toArray, rfl, Nat.le_refl _, heap_alloc_new w _, Nat.le_refl _, h, by simp, by simp⟩⟩
theorem Own.lit (w : World) (l : List UInt8) (cs : List Value) (hv : cs = bvs l) (e : TypeId) (h : cs.length ≤ maxLen) : Own (w.alloc (.cells cs.toArray e)) w.heap.size e (.slice (some ⟨w.heap.size, 0, none⟩) cs.length cs.length) l := by
  have := owns_lit w cs e h
  subst hv
  unfold Own
  rw [bvs_length] at this ⊢
  exact this
/-- What an append of the call's own row does to all else. -/
theorem Ext.grown {w0 w w' : World} {row : Option Nat} (h : Ext w0 w) (hg : w.grownBy w' row) (hr : ∀ k, row = some k → w0.heap.size ≤ k) : Ext w0 w' := Below.grown h hg h.size hr
theorem owns_row {w : World} {base : Nat} {e : TypeId} {size : Nat} {v : Value} {n : Nat} {xs : List Value} (h : w.ownsRow base e size v n xs) : ∀ k, v.ownBlock = some k → base ≤ k := fun k hk => (h.lt k hk).1

/-- 'append(v, src...)': v the call's own, src whatever reads as cells. -/
theorem wpList_append_sl {P : Program} {w : World} {ops : Array Oper} {rest : List Oper} {o : Oper} {a : Act} {Q : Exit → Act → World → Prop} (hgd : o.guard = none) (s x : Operand) (t : TypeId)
    (ho : o.op = .call { callee := .builtin .append, args := #[s, x], argTypes := #[t, t] })
    (base : Nat) (e : TypeId) {z : Value} {size bytes : Nat} (ht : P.underlying t = some (.slice e)) (hi : (P.info? e).map (fun i => (i.zero, i.size, i.bytes)) = some (some z, size, bytes))
    (hzs : z.cells.size = size) (hsz : 0 < size)
    (v : Value) (n : Nat) (xs : List Value) (hs : a.eval s = v) (hown : w.ownsRow base e size v n xs)
    (ad : Option Addr) (m c : Nat) (news : List Value) (hx : a.eval x = .slice ad m c) (hsrc : Sl w ad m c size news) (h1 : ∀ u ∈ news, u.oneCell' = true)
    (hbytes : (n + m) * bytes ≤ 140737488355328) (h63 : n + m ≤ maxLen) (hbase : base ≤ w.heap.size)
    (h : ∀ v' w', w'.ownsRow base e size v' (n + m) (xs ++ news) → w.grownBy w' v.ownBlock → wpList P ops Q rest (a.put o.dst v') w') : wpList P ops Q (o :: rest) a w := by
  obtain ⟨i, hi0, hz0, hz1, hz2⟩ := info_parts hi
  cases ad with
  | none =>
    have hc := hsrc.nil rfl
    have hm : m = 0 := by have := hsrc.le; omega
    subst hc hm
    have hn : news = [] := List.eq_nil_of_length_eq_zero (by simpa using hsrc.len)
    subst hn
    exact wpList_append_own_none hgd s x t ho base e i size ht hi0 v n xs hs hown hx (h v w (by simpa using hown) (World.grownBy.refl w _))
  | some ad =>
    refine wpList_append_own w hgd s x t ho base e i z size bytes ht hi0 hz0 hz1 hz2 hzs hsz v n xs hs hown ad m c news hx hsrc.len ?_ h1 h63 hbytes hbase (fun v' w' h1 h2 _ => h v' w' h1 h2)
    intro j u hj
    have hlt : j < news.length := (List.getElem?_eq_some_iff.1 hj).1
    have hm : 0 < m := by
      have := hsrc.len
      rcases Nat.eq_zero_or_pos m with h0 | h0
      · subst h0; simp at this; subst this; simp at hlt
      · exact h0
    obtain ⟨b, of, hab, hc⟩ := hsrc.at_ hm
    cases hab
    rw [show (⟨b, of, none⟩ : Addr).add j = ⟨b, of + j, none⟩ by unfold Addr.add; split <;> simp_all]
    rw [hc j hlt, ← hj, List.getElem?_eq_getElem hlt]

/-- One new cell reads as a slice of one. -/
theorem Sl.one (w : World) (x : Value) (e : TypeId) : Sl (w.alloc (.cells #[x] e)) (some ⟨w.heap.size, 0, none⟩) 1 1 1 [x] :=
  ⟨rfl, Nat.le_refl _, by decide, (fun h => by cases h), fun _ => ⟨w.heap.size, 0, rfl, fun i hi => by
    have h0 : i = 0 := by simpa using hi
    subst h0
    simp [World.cell?_alloc_at]⟩⟩
/-- New cells read as a slice of so many. -/
theorem Sl.row (w : World) (cs : List Value) (e : TypeId) (fr : Nat × Nat) (h : cs.length ≤ maxLen) : Sl (w.alloc (.cells cs.toArray e fr)) (some ⟨w.heap.size, 0, none⟩) cs.length cs.length 1 cs :=
  ⟨by simp, Nat.le_refl _, h, (fun h => by cases h), fun _ => ⟨w.heap.size, 0, rfl, fun i hi => by
    have hg : (w.alloc (.cells cs.toArray e fr)).heap[w.heap.size]? = some (.cells cs.toArray e fr) := by
      show (w.heap.push _)[w.heap.size]? = _
      simp
    unfold World.cell?
    rw [hg]
    simp [hi]⟩⟩
theorem Sl.row_at (w : World) (cs : List Value) (e : TypeId) (fr : Nat × Nat) (g : Nat) (hg : g = w.heap.size) (h : cs.length ≤ maxLen) : Sl (w.alloc (.cells cs.toArray e fr)) (some ⟨g, 0, none⟩) cs.length cs.length 1 cs := by
  subst hg; exact Sl.row w cs e fr h
theorem Bs.row_of (w : World) (l : List UInt8) (cs : List Value) (hv : cs = bvs l) (e : TypeId) (fr : Nat × Nat) (h : cs.length ≤ maxLen) : Bs (w.alloc (.cells cs.toArray e fr)) (some ⟨w.heap.size, 0, none⟩) cs.length cs.length l := by
  have := Sl.row w cs e fr h
  unfold Bs; rw [← hv]; exact this
theorem Bs.one (w : World) (x : UInt8) (e : TypeId) : Bs (w.alloc (.cells #[bv x] e)) (some ⟨w.heap.size, 0, none⟩) 1 1 [x] := Sl.one w _ e
theorem Bs.one_of (w : World) (x : UInt8) (v : Value) (hv : v = bv x) (e : TypeId) : Bs (w.alloc (.cells #[v] e)) (some ⟨w.heap.size, 0, none⟩) 1 1 [x] := by subst hv; exact Bs.one w x e
/-- What is owned stays owned where no old block is written. -/
theorem owns_ext {w w' : World} {base : Nat} {e : TypeId} {size : Nat} {v : Value} {n : Nat} {xs : List Value} (h : w.ownsRow base e size v n xs) (hx : Ext w w') : w'.ownsRow base e size v n xs :=
  h.kept (row := none) ⟨hx.os, hx.tape, hx.output, hx.size, fun k hk _ => hx.block k hk⟩ (by cases hv : v.ownBlock <;> simp)
theorem Own.ext {w w' : World} {base : Nat} {e : TypeId} {v : Value} {l : List UInt8} (h : Own w base e v l) (hx : Ext w w') : Own w' base e v l := owns_ext h hx
theorem Own.mono {w : World} {base base' : Nat} {e : TypeId} {v : Value} {l : List UInt8} (h : Own w base e v l) (hb : base' ≤ base) : Own w base' e v l := by
  refine ⟨h.1, ?_⟩
  rcases h.2 with h | ⟨g, cap, cur, hv, hg, r⟩
  · exact .inl h
  · exact .inr ⟨g, cap, cur, hv, Nat.le_trans hb hg, r⟩

/-- 'append(v, src...)' of bytes: v the call's own (w0: the world in which it began). -/
theorem wpList_append_bytes {P : Program} {w : World} {ops : Array Oper} {rest : List Oper} {o : Oper} {a : Act} {Q : Exit → Act → World → Prop} (hgd : o.guard = none) (s x : Operand) (t : TypeId)
    (ho : o.op = .call { callee := .builtin .append, args := #[s, x], argTypes := #[t, t] })
    (w0 : World) (e : TypeId) (ht : P.underlying t = some (.slice e)) (hi : (P.info? e).map (fun i => (i.zero, i.size, i.bytes)) = some (some (.int .u8 0), 1, 1))
    (v : Value) (l : List UInt8) (hs : a.eval s = v) (hown : Own w w0.heap.size e v l) (hx0 : Ext w0 w)
    (ad : Option Addr) (m c : Nat) (l2 : List UInt8) (hx : a.eval x = .slice ad m c) (hsrc : Bs w ad m c l2)
    (hbytes : l.length + m ≤ 140737488355328)
    (h : ∀ v' w', Own w' w0.heap.size e v' (l ++ l2) → Ext w0 w' → w.grownBy w' v.ownBlock → wpList P ops Q rest (a.put o.dst v') w') : wpList P ops Q (o :: rest) a w := by
  have hm := hsrc.len
  refine wpList_append_sl hgd s x t ho w0.heap.size e ht hi rfl (by decide) v l.length (bvs l) hs hown ad m c (bvs l2) hx hsrc (bvs_one l2) (by omega) (by unfold maxLen; omega) hx0.size ?_
  intro v' w' h1 h2
  refine h v' w' ?_ (hx0.grown h2 (owns_row hown)) h2
  unfold Own
  rw [bvs_append, List.length_append, hm]
  exact h1
/-! ### Pieces of a slice -/
/-- Where a piece begins. -/
@[irreducible] def subA (a : Option Addr) (c l s : Nat) : Option Addr := if c = l then a else a.map (·.add (l * s))
section
variable {P : Program} (w : World) (t : TypeId) (a : Option Addr) (len cap : Nat) (ht : P.underlying t = some (.slice (P.elem t)))
include ht
@[go_sem high] theorem run_piece_lh (kl kh : IntKind) (l h : Int) (h0 : 0 ≤ l) (h1 : l ≤ h) (h2 : h ≤ cap) :
    (Instr.slice t (.slice a len cap) (some (.int kl l)) (some (.int kh h)) none).run P w =
      ((sizeOf (P.elem t)).run P w).andThen fun s w => .ok (.slice (subA a cap l.toNat s) (h.toNat - l.toNat) (cap - l.toNat)) w := by
  rw [run_slice_lh w t a len cap ht kl kh l h h0 h1 h2]; unfold sliced subA; rfl
@[go_sem high] theorem run_piece_h (kh : IntKind) (h : Int) (h0 : 0 ≤ h) (h2 : h ≤ cap) :
    (Instr.slice t (.slice a len cap) none (some (.int kh h)) none).run P w =
      ((sizeOf (P.elem t)).run P w).andThen fun _ w => .ok (.slice a h.toNat cap) w := by
  rw [run_slice_h w t a len cap ht kh h h0 h2]; unfold sliced
  congr 1; funext s w
  cases a <;> simp [Addr.add]
@[go_sem high] theorem run_piece_l (kl : IntKind) (l : Int) (h0 : 0 ≤ l) (h1 : l ≤ len) :
    (Instr.slice t (.slice a len cap) (some (.int kl l)) none none).run P w =
      ((sizeOf (P.elem t)).run P w).andThen fun s w => .ok (.slice (subA a cap l.toNat s) (len - l.toNat) (cap - l.toNat)) w := by
  rw [run_slice_l w t a len cap ht kl l h0 h1]; unfold sliced subA; rfl
end
theorem Sl.sub {w : World} {a : Option Addr} {n c size : Nat} {cells : List Value} (h : Sl w a n c size cells) (lo hi : Nat) (h1 : lo ≤ hi) (h2 : hi ≤ n) :
    Sl w (subA a c lo size) (hi - lo) (c - lo) size ((cells.drop (lo * size)).take ((hi - lo) * size)) := by
  have hl := h.len
  have hc := h.le
  have hle : (hi - lo) * size + lo * size ≤ n * size := by rw [← Nat.add_mul]; exact Nat.mul_le_mul_right _ (by omega)
  refine ⟨?_, by omega, by have := h.max; omega, ?_, ?_⟩
  · rw [List.length_take, List.length_drop]
    omega
  · intro hn
    unfold subA at hn
    split at hn
    · have := h.nil hn; omega
    · cases a with
      | none => have := h.nil rfl; omega
      | some a => simp at hn
  · intro hn
    obtain ⟨b, o, ha, hcell⟩ := h.at_ (by omega)
    subst ha
    refine ⟨b, o + lo * size, ?_, ?_⟩
    · unfold subA
      rw [if_neg (by omega)]
      simp only [Option.map_some, Addr.add]
      split
      · rename_i h0; rw [h0, Nat.add_zero]
      · rfl
    · intro i hi'
      rw [List.length_take, List.length_drop] at hi'
      have := hcell (lo * size + i) (by omega)
      rw [Nat.add_assoc, this]
      simp
theorem Bs.sub {w : World} {a : Option Addr} {n c : Nat} {l : List UInt8} (h : Bs w a n c l) (lo hi : Nat) (h1 : lo ≤ hi) (h2 : hi ≤ n) :
    Bs w (subA a c lo 1) (hi - lo) (c - lo) ((l.drop lo).take (hi - lo)) := by
  have := Sl.sub h lo hi h1 h2
  rw [Nat.mul_one, Nat.mul_one] at this
  unfold Bs bvs
  rw [List.map_take, List.map_drop]
  exact this
/-- The first ones. -/
theorem Bs.take {w : World} {a : Option Addr} {n c : Nat} {l : List UInt8} (h : Bs w a n c l) (hi : Nat) (h2 : hi ≤ n) : Bs w a hi c (l.take hi) := by
  have hl := h.len
  have hle := Sl.le h
  refine ⟨by rw [bvs_length, List.length_take]; omega, by omega, Sl.max h, Sl.nil h, fun hn => ?_⟩
  obtain ⟨b, o, ha, hc⟩ := h.at (by omega)
  refine ⟨b, o, ha, fun i hi' => ?_⟩
  rw [bvs_length, List.length_take] at hi'
  rw [hc i (by omega)]
  simp [bvs, bv]
/-- 'string(b)'. -/
theorem Bs.string {P : Program} {w : World} {a : Option Addr} {n c : Nat} {l : List UInt8} (h : Bs w a n c l) (src e dst : TypeId)
    (hs : P.underlying src = some (.slice e)) (he : P.underlying e = some (.int .u8)) (hd : P.underlying dst = some .string) :
    (convert src dst (.slice a n c)).run P w = .ok (.string ⟨l.toArray⟩) w := by
  have hl := h.len
  by_cases hn : 0 < n
  · obtain ⟨b, o, rfl, hc⟩ := h.at hn
    rw [run_convert_bytes_arg w src e hs he b o n c (l.map fun x => (x.toNat : Int)) (by simpa using hl) (fun i hi => by
      rw [hc i (by omega)]
      simp [List.getD, hl, hi]) dst hd]
    congr 2
    apply ByteArray.ext
    apply Array.toList_inj.1
    rw [strOfNums_data, List.map_map]
    conv => rhs; rw [List.toList_toArray, ← List.map_id l]
    apply List.map_congr_left
    intro x _
    simp
  · have h0 : n = 0 := by omega
    subst h0
    have hl0 : l = [] := List.eq_nil_of_length_eq_zero hl
    subst hl0
    rw [run_convert_bytes_string w src dst e a 0 c hs he hd]
    cases a with
    | none => rfl
    | some a => exact run_bytesToString w a 0 c [] (by simp [loadCells, loadCellsFrom])
/-! ### Slices of slices of bytes -/
/-- In w each of these values is a slice of bytes: the one's, the other's .. -/
def BsAll (w : World) (vs : List Value) (L : List (List UInt8)) : Prop := vs.length = L.length ∧ ∀ i (h : i < L.length), ∃ a n c, vs[i]? = some (.slice a n c) ∧ Bs w a n c L[i]
theorem BsAll.ext {w w' : World} {vs : List Value} {L : List (List UInt8)} (h : BsAll w vs L) (hx : Ext w w') : BsAll w' vs L :=
  ⟨h.1, fun i hi => by obtain ⟨a, n, c, h1, h2⟩ := h.2 i hi; exact ⟨a, n, c, h1, h2.ext hx⟩⟩
theorem BsAll.two {w : World} {a1 : Option Addr} {n1 c1 : Nat} {l1 : List UInt8} {a2 : Option Addr} {n2 c2 : Nat} {l2 : List UInt8} (h1 : Bs w a1 n1 c1 l1) (h2 : Bs w a2 n2 c2 l2) :
    BsAll w [.slice a1 n1 c1, .slice a2 n2 c2] [l1, l2] :=
  ⟨rfl, fun i hi => by
    match i, hi with
    | 0, _ => exact ⟨a1, n1, c1, rfl, h1⟩
    | 1, _ => exact ⟨a2, n2, c2, rfl, h2⟩⟩
theorem i64_or_nat (a b : Nat) (ha : a < 4611686018427387904) (hb : b < 4611686018427387904) : bits .or .i64 (a : Int) (b : Int) = ((a ||| b : Nat) : Int) := by
  have hx : a ||| b < 2 ^ 62 := Nat.or_lt_two_pow (by omega) (by omega)
  show IntKind.i64.wrap ((BitVec.ofInt 64 (a : Int) ||| BitVec.ofInt 64 (b : Int)).toNat : Int) = _
  rw [BitVec.toNat_or, ofInt_u64 a (by omega), ofInt_u64 b (by omega), IntKind.wrap_i64]
  omega
/-- Two bytes, the lowest first. -/
theorem or_two (x y : UInt8) : bits .or .i64 (x.toNat : Int) ((y.toNat : Int) * 256) = ((x.toNat + 256 * y.toNat : Nat) : Int) := by
  have hx := x.toNat_lt
  have hy := y.toNat_lt
  rw [show ((y.toNat : Int) * 256) = ((y.toNat * 256 : Nat) : Int) by omega, i64_or_nat _ _ (by omega) (by omega), Nat.or_comm, nat_join 8 _ _ (by show y.toNat * 256 % 256 = 0; omega) hx]
  omega
/-- A slice of slices of bytes. -/
def Bss (w : World) (a : Option Addr) (n c : Nat) (L : List (List UInt8)) : Prop := ∃ vs, Sl w a n c 1 vs ∧ BsAll w vs L
theorem Bss.ext {w w' : World} {a : Option Addr} {n c : Nat} {L : List (List UInt8)} (h : Bss w a n c L) (hx : Ext w w') : Bss w' a n c L := by
  obtain ⟨vs, h1, h2⟩ := h
  exact ⟨vs, h1.ext hx, h2.ext hx⟩
theorem Bss.len {w : World} {a : Option Addr} {n c : Nat} {L : List (List UInt8)} (h : Bss w a n c L) : L.length = n := by
  obtain ⟨vs, h1, h2⟩ := h
  rw [← h2.1, h1.len, Nat.mul_one]
/-- Bytes in a block of such cells: no write into a row of other ones touches them. -/
def Bt (w : World) (e : TypeId) (a : Option Addr) (n c : Nat) (l : List UInt8) : Prop := Bs w a n c l ∧ ∀ x, a = some x → ∃ cur fr, w.heap[x.block]? = some (.cells cur e fr)
theorem Bt.nil (w : World) (e : TypeId) : Bt w e none 0 0 [] := ⟨bs_nil w, fun _ h => by cases h⟩
theorem Bt.ext {w w' : World} {e : TypeId} {a : Option Addr} {n c : Nat} {l : List UInt8} (h : Bt w e a n c l) (hx : Ext w w') : Bt w' e a n c l :=
  ⟨h.1.ext hx, fun x hxa => by
    obtain ⟨cur, fr, hg⟩ := h.2 x hxa
    exact ⟨cur, fr, (hx.block _ (Array.getElem?_eq_some_iff.1 hg).1).trans hg⟩⟩
theorem owns_block {w : World} {base : Nat} {e : TypeId} {size : Nat} {v : Value} {n : Nat} {xs : List Value} (h : w.ownsRow base e size v n xs) : ∀ k, v.ownBlock = some k → ∃ cur fr, w.heap[k]? = some (.cells cur e fr) := by
  intro k hk
  rcases h.2 with ⟨rfl, _⟩ | ⟨g, cap, cur, rfl, _, hg, _⟩
  · simp [Value.ownBlock] at hk
  · simp [Value.ownBlock] at hk
    subst hk
    exact ⟨cur, _, hg⟩
theorem Own.bt {w : World} {base : Nat} {e : TypeId} {a : Option Addr} {n c : Nat} {l : List UInt8} (h : Own w base e (.slice a n c) l) : Bt w e a n c l :=
  ⟨h.bs_at, fun x hxa => owns_block h x.block (by subst hxa; rfl)⟩
theorem Bt.sub {w : World} {e : TypeId} {a : Option Addr} {n c : Nat} {l : List UInt8} (h : Bt w e a n c l) (lo hi : Nat) (h1 : lo ≤ hi) (h2 : hi ≤ n) : Bt w e (subA a c lo 1) (hi - lo) (c - lo) ((l.drop lo).take (hi - lo)) :=
  ⟨h.1.sub lo hi h1 h2, fun x hxa => by
    unfold subA at hxa
    split at hxa
    · exact h.2 x hxa
    · cases a with
      | none => cases hxa
      | some y =>
        simp at hxa
        obtain ⟨cur, fr, hg⟩ := h.2 y rfl
        refine ⟨cur, fr, ?_⟩
        rw [← hxa]
        unfold Addr.add
        split <;> exact hg⟩
/-- A row of other cells grows. -/
theorem Bt.grown {w w' : World} {e e2 : TypeId} {a : Option Addr} {n c : Nat} {l : List UInt8} {row : Option Nat} (h : Bt w e a n c l) (hg : w.grownBy w' row)
    (hrow : ∀ k, row = some k → ∃ cur fr, w.heap[k]? = some (.cells cur e2 fr)) (hne : e ≠ e2) : Bt w' e a n c l := by
  have hb : ∀ x, a = some x → w'.heap[x.block]? = w.heap[x.block]? := fun x hxa => by
    obtain ⟨cur, fr, hh⟩ := h.2 x hxa
    refine hg.block _ (Array.getElem?_eq_some_iff.1 hh).1 (fun he => ?_)
    obtain ⟨cur2, fr2, hh2⟩ := hrow x.block he.symm
    rw [hh] at hh2
    cases hh2
    exact hne rfl
  refine ⟨⟨Sl.len h.1, Sl.le h.1, Sl.max h.1, Sl.nil h.1, fun hn => ?_⟩, fun x hxa => ?_⟩
  · obtain ⟨b, o, ha, hc⟩ := Sl.at_ h.1 hn
    exact ⟨b, o, ha, fun i hi => (World.cell?_of_block (a := ⟨b, o + i, none⟩) (hb ⟨b, o, none⟩ ha)).trans (hc i hi)⟩
  · obtain ⟨cur, fr, hh⟩ := h.2 x hxa
    exact ⟨cur, fr, (hb x hxa).trans hh⟩
def BtAll (w : World) (e : TypeId) (vs : List Value) (L : List (List UInt8)) : Prop := vs.length = L.length ∧ ∀ i (h : i < L.length), ∃ a n c, vs[i]? = some (.slice a n c) ∧ Bt w e a n c L[i]
theorem BtAll.nil (w : World) (e : TypeId) : BtAll w e [] [] := ⟨rfl, fun i hi => by simp at hi⟩
theorem BtAll.bs {w : World} {e : TypeId} {vs : List Value} {L : List (List UInt8)} (h : BtAll w e vs L) : BsAll w vs L :=
  ⟨h.1, fun i hi => by obtain ⟨a, n, c, h1, h2⟩ := h.2 i hi; exact ⟨a, n, c, h1, h2.1⟩⟩
theorem BtAll.ext {w w' : World} {e : TypeId} {vs : List Value} {L : List (List UInt8)} (h : BtAll w e vs L) (hx : Ext w w') : BtAll w' e vs L :=
  ⟨h.1, fun i hi => by obtain ⟨a, n, c, h1, h2⟩ := h.2 i hi; exact ⟨a, n, c, h1, h2.ext hx⟩⟩
theorem BtAll.grown {w w' : World} {e e2 : TypeId} {vs : List Value} {L : List (List UInt8)} {row : Option Nat} (h : BtAll w e vs L) (hg : w.grownBy w' row)
    (hrow : ∀ k, row = some k → ∃ cur fr, w.heap[k]? = some (.cells cur e2 fr)) (hne : e ≠ e2) : BtAll w' e vs L :=
  ⟨h.1, fun i hi => by obtain ⟨a, n, c, h1, h2⟩ := h.2 i hi; exact ⟨a, n, c, h1, h2.grown hg hrow hne⟩⟩
theorem BtAll.snoc {w : World} {e : TypeId} {vs : List Value} {L : List (List UInt8)} (h : BtAll w e vs L) {a : Option Addr} {n c : Nat} {l : List UInt8} (hl : Bt w e a n c l) : BtAll w e (vs ++ [.slice a n c]) (L ++ [l]) := by
  refine ⟨by simp [h.1], fun i hi => ?_⟩
  by_cases hlt : i < L.length
  · obtain ⟨a', n', c', h1, h2⟩ := h.2 i hlt
    refine ⟨a', n', c', ?_, ?_⟩
    · rw [List.getElem?_append_left (by rw [h.1]; exact hlt)]; exact h1
    · rw [List.getElem_append_left hlt]; exact h2
  · have hi' : i = L.length := by simp at hi; omega
    subst hi'
    refine ⟨a, n, c, ?_, ?_⟩
    · rw [← h.1]; simp
    · simpa using hl
theorem drewN_more (w : World) (q r : Nat) : ∃ t, (w.drewN q).drewN r = w.drewN t := ⟨_, by rw [World.drewN_drewN]⟩
theorem wpList_append_run2 {P : Program} {w : World} {ops : Array Oper} {rest : List Oper} {o : Oper} {a : Act} {Q : Exit → Act → World → Prop} (hgd : o.guard = none) (s x : Operand) (t : TypeId)
    (ho : o.op = .call { callee := .builtin .append, args := #[s, x], argTypes := #[t, t] }) {vs vx v' : Value} {w' : World} (hs : a.eval s = vs) (hx : a.eval x = vx)
    (hr : (Builtin.append_ #[t, t] o.type #[vs, vx]).run P w = .ok v' w') (h : wpList P ops Q rest (a.put o.dst v') w') : wpList P ops Q (o :: rest) a w :=
  Lib.wpList_append_run w hgd s x t t ho vs vx hs hx v' w' hr h
/-- Behind 'append(v, src...)' of bytes v itself still reads as it did. -/
theorem wpList_append_bytes_old {P : Program} {w : World} {ops : Array Oper} {rest : List Oper} {o : Oper} {a : Act} {Q : Exit → Act → World → Prop} (hgd : o.guard = none) (s x : Operand) (t : TypeId)
    (ho : o.op = .call { callee := .builtin .append, args := #[s, x], argTypes := #[t, t] })
    (w0 : World) (e : TypeId) (ht : P.underlying t = some (.slice e)) (hi : (P.info? e).map (fun i => (i.zero, i.size, i.bytes)) = some (some (.int .u8 0), 1, 1))
    (g n c : Nat) (l : List UInt8) (hs : a.eval s = .slice (some ⟨g, 0, none⟩) n c) (hown : Own w w0.heap.size e (.slice (some ⟨g, 0, none⟩) n c) l) (hx0 : Ext w0 w)
    (ad : Addr) (m c2 : Nat) (l2 : List UInt8) (hx : a.eval x = .slice (some ad) m c2) (hsrc : Bs w (some ad) m c2 l2)
    (hbytes : l.length + m ≤ 140737488355328)
    (h : ∀ v' w', Own w' w0.heap.size e v' (l ++ l2) → Ext w0 w' → Bs w' (some ⟨g, 0, none⟩) n c l → wpList P ops Q rest (a.put o.dst v') w') : wpList P ops Q (o :: rest) a w := by
  obtain ⟨i, hi0, hz0, hz1, hz2⟩ := info_parts hi
  have hm := hsrc.len
  have hnl : n = l.length := (Bs.len hown.bs_at).symm
  have hnews : ∀ j u, (bvs l2)[j]? = some u → w.cell? (ad.add j) = some u := by
    intro j u hj
    have hlt : j < (bvs l2).length := (List.getElem?_eq_some_iff.1 hj).1
    rw [bvs_length, hm] at hlt
    obtain ⟨b, of, hab, hc⟩ := Sl.at_ hsrc (by omega)
    cases hab
    rw [show (⟨b, of, none⟩ : Addr).add j = ⟨b, of + j, none⟩ by unfold Addr.add; split <;> simp_all]
    rw [hc j (by rw [bvs_length, hm]; exact hlt), ← hj, List.getElem?_eq_getElem (by rw [bvs_length, hm]; exact hlt)]
  obtain ⟨v', w', hr, h2, h3, _⟩ := run_append_own (P := P) w w0.heap.size t o.type e i (.int .u8 0) 1 1 ht hi0 hz0 hz1 hz2 rfl (by decide) (.slice (some ⟨g, 0, none⟩) n c) l.length (bvs l) hown ad m c2 (bvs l2) (by rw [bvs_length, hm, Nat.mul_one]) hnews (bvs_one l2) (by unfold maxLen; omega) (by omega) hx0.size
  have hold : Bs w' (some ⟨g, 0, none⟩) n c l := by
    rcases hown.2 with ⟨hv, _⟩ | ⟨g', cap, cur, hv, hbg, hg, hnc, hcm, hcs, htake⟩
    · cases hv
    · cases hv
      by_cases hroom : l.length + m ≤ c
      · have hr2 := run_append_room (P := P) w t o.type e i ht hi0 g l.length c cur hg ad m c2 (bvs l2) (by rw [bvs_length, hm, hz1, Nat.mul_one]) hnews (bvs_one l2) hroom (by rw [bvs_length, hm, hz1, hcs]; omega)
        rw [hr] at hr2
        cases hr2
        refine ⟨by rw [bvs_length, Nat.mul_one], hnc, hcm, (fun h => by cases h), fun hn => ⟨g, 0, rfl, fun i hi => ?_⟩⟩
        rw [bvs_length] at hi
        rw [cell_of_row _ g (0 + i) _ e (0, 0) (setRow_heap w g cur _ e _ hg)]
        rw [hz1]
        simp only [Nat.mul_one, Nat.zero_add] at htake ⊢
        rw [htake]
        simp only [List.getElem?_toArray, List.append_assoc]
        rw [List.getElem?_append_left (by rw [bvs_length]; exact hi), List.getElem?_eq_getElem (by rw [bvs_length]; exact hi)]
      · have holds : ∀ j u, (bvs l)[j]? = some u → w.cell? ((⟨g, 0, none⟩ : Addr).add j) = some u := World.ownsRow.cells (g := g) hown rfl
        have hr2 := run_append_grow (P := P) w t o.type e i (.int .u8 0) ht hi0 hz0 ⟨g, 0, none⟩ l.length c (bvs l) (by rw [bvs_length, hz1, Nat.mul_one]) holds ad m c2 (bvs l2) (by rw [bvs_length, hm, hz1, Nat.mul_one]) hnews (by omega) (by omega) (growslice_fits (by omega) (by rw [hz2]; omega))
        rw [hr] at hr2
        cases hr2
        exact (hown.bs_at.ext (Ext.drewN w 1)).ext (Ext.alloc _ _)
  refine wpList_append_run2 hgd s x t ho hs hx hr (h v' w' ?_ (hx0.grown h3 (owns_row hown)) hold)
  unfold Own
  rw [bvs_append, List.length_append, hm]
  exact h2
theorem ret_int {k : IntKind} {a b : Int} (h : a = b) : Ending.returned (.int k a) = .returned (.int k b) := by rw [h]
theorem ret_bool {a b : Bool} (h : a = b) : Ending.returned (.bool a) = .returned (.bool b) := by rw [h]
end Go.Proofs.Ytponbponacdhkaa
