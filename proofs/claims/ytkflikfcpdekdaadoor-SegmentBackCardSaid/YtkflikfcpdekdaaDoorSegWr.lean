/-
  A record's payload: the writer, and the program's Put.
-/
import Derived.Test.YtkflikfcpdekdaaDoorSegRref2
import Derived.Test.YtkflikfcpdekdaaDoorBytes
import Derived.Lib.AppendStr
import Derived.Deep.RegionHeld3
import Derived.Deep.AppendLies
namespace Go.Proofs.YtkflikfcpdekdaaDoor
open Go.RowKit

theorem le_snoc (k : Nat) (v : Int) : le (k + 1) v = le k v ++ [UInt8.ofNat (v / 256 ^ k % 256).toNat] := by
  induction k generalizing v with
  | zero => simp [le]
  | succ k ih =>
    have h1 : v / 256 / 256 ^ k = v / 256 ^ (k + 1) := by
      rw [Int.pow_succ, Int.mul_comm, Int.ediv_ediv_of_nonneg (by decide)]
    have e : le (k + 1 + 1) v = UInt8.ofNat (v % 256).toNat :: le (k + 1) (v / 256) := rfl
    have e2 : le (k + 1) v = UInt8.ofNat (v % 256).toNat :: le k (v / 256) := rfl
    rw [e, ih, h1, e2]
    rfl
theorem div_succ (v : Int) (k : Nat) : v / 256 ^ (k + 1) = v / 256 ^ k / 256 := by
  rw [Int.pow_succ, Int.ediv_ediv_of_nonneg (Int.pow_nonneg (by decide))]
/-- A block of one cell, known whole. -/
theorem cell0 {w : World} {R : Nat} {cs : Array Value} {t : TypeId} (h : w.heap[R]? = some (.cells cs t (0, 0))) (i : Nat) (v : Value) (hv : cs[i]? = some v) : w.cell? ⟨R, i, none⟩ = some v ∧ w.frozen? ⟨R, i, none⟩ = false := by
  constructor
  · simp [World.cell?, h, hv]
  · simp [World.frozen?, h]
theorem heap_set {w : World} {b i : Nat} {cs : Array Value} {T : TypeId} (hb : w.heap[b]? = some (.cells cs T (0, 0))) (v : Value) : (w.setCell ⟨b, i, none⟩ v).heap[b]? = some (.cells (cs.setIfInBounds i v) T (0, 0)) := by
  have hlt : b < w.heap.size := (Array.getElem?_eq_some_iff.1 hb).1
  simp [World.setCell, hb, Array.getElem?_modify]
/-- A value's block bears another type's cells. -/
theorem own_ne {w : World} {base : Nat} {e : TypeId} {size : Nat} {v : Value} {n : Nat} {xs : List Value} (h : w.ownsRow base e size v n xs) {R : Nat} {cs : Array Value} {T : TypeId} (hb : w.heap[R]? = some (.cells cs T (0, 0))) (hne : e ≠ T) : v.ownBlock ≠ some R := by
  intro he
  obtain ⟨cur, fr, hh⟩ := owns_block h R he
  rw [hb] at hh
  cases hh
  exact hne rfl
/-- The writer at R has these bytes, in a row of its own. -/
def Wr (w0 w : World) (R : Nat) (l : List UInt8) : Prop := Ext w0 w ∧ w0.heap.size ≤ R ∧ ∃ v, w.heap[R]? = some (.cells #[v] 65 (0, 0)) ∧ Own w w0.heap.size 5 v l
/-- Blocks of other cells than bytes, but R, stay. -/
def Kp (w w' : World) (R : Nat) : Prop := ∀ k cur T fr, k ≠ R → T ≠ 5 → w.heap[k]? = some (.cells cur T fr) → w'.heap[k]? = some (.cells cur T fr)
theorem Kp.refl (w : World) (R : Nat) : Kp w w R := fun _ _ _ _ _ _ h => h
theorem Kp.trans {w w1 w2 : World} {R : Nat} (h : Kp w w1 R) (h2 : Kp w1 w2 R) : Kp w w2 R := fun k cur T fr a b c => h2 k cur T fr a b (h k cur T fr a b c)
theorem Kp.ext {w w' : World} {R : Nat} (h : Ext w w') : Kp w w' R := fun _ _ _ _ _ _ c => (h.block _ (Array.getElem?_eq_some_iff.1 c).1).trans c
theorem Kp.round {w w1 : World} {base R : Nat} {v v' : Value} {l : List UInt8} (ho : Own w base 5 v l) (hg : w.grownBy w1 v.ownBlock) : Kp w (w1.setCell ⟨R, 0, none⟩ v') R := by
  intro k cur T fr h1 h2 h3
  have hlt := (Array.getElem?_eq_some_iff.1 h3).1
  rw [Below.heap_setCell _ _ _ _ h1, hg.block k hlt ?_]
  · exact h3
  · intro he
    obtain ⟨cur2, fr2, hh⟩ := owns_block ho k he.symm
    rw [h3] at hh
    cases hh
    exact h2 rfl
/-- Behind an append, and the store of what came of it. -/
theorem wr_store {w0 w w' : World} {R : Nat} {v v' : Value} {l l' : List UInt8} (hR : w0.heap.size ≤ R) (hb : w.heap[R]? = some (.cells #[v] 65 (0, 0))) (ho : Own w w0.heap.size 5 v l)
    (hg : w.grownBy w' v.ownBlock) (hx : Ext w0 w') (ho' : Own w' w0.heap.size 5 v' l') : w'.heap[R]? = some (.cells #[v] 65 (0, 0)) ∧ Wr w0 (w'.setCell ⟨R, 0, none⟩ v') R l' := by
  have h1 : w'.heap[R]? = some (.cells #[v] 65 (0, 0)) := by
    rw [hg.block R (Array.getElem?_eq_some_iff.1 hb).1 (Ne.symm (own_ne ho hb (by decide)))]; exact hb
  refine ⟨h1, hx.set R 0 v' hR, hR, v', by simpa using heap_set (i := 0) h1 v', ?_⟩
  exact ownsRow_setCell_other ho' (own_ne ho' h1 (by decide)) v'

set_option maxHeartbeats 800000 in
theorem wnumber_calls (w0 w : World) (R : Nat) (l : List UInt8) (n : Int) (width : Nat) (h : Wr w0 w R l) (hw : width ≤ 8) (hl : l.length ≤ 140737488355000) :
    Calls Tryd.prog 54 #[.pointer (some ⟨R, 0, none⟩), .int .i64 n, .int .i64 width] w fun e w' => e = .returned (.tuple #[]) ∧ Wr w0 w' R (l ++ le width n) ∧ Kp w w' R := by
  go_enter Tryd.func54, Tryd.ntmps54
  go_wp2
  go_loopw [1, 7] (fun m i wr => ∃ k : Nat, k ≤ width ∧ i = .int .i64 k ∧ m = .int .i64 (n / 256 ^ k) ∧ Wr w0 wr R (l ++ le k n) ∧ Kp w wr R) (fun _ i _ => width - (intOf i).toNat)
  case atStart => exact ⟨0, by omega, rfl, by simp, by simpa [le] using h, Kp.refl _ _⟩
  case round =>
    obtain ⟨k, hk, rfl, rfl, hwr, hkp⟩ := hrel
    by_cases hlt : k < width
    · have hd := Lib.hid (div_succ n k)
      have hs := Lib.hid (le_snoc k n)
      obtain ⟨m, hm⟩ : ∃ m, n / 256 ^ k = m := ⟨_, rfl⟩
      rw [hm] at hd hs ⊢
      have hll : (l ++ le k n).length ≤ 140737488355300 := by rw [List.length_append, le_length]; omega
      obtain ⟨hx, hR, v, hb, ho⟩ := hwr
      have hc := (cell0 hb 0 v rfl).1
      have hxh := Lib.hid hx
      have hoh := Lib.hid ho
      have hbh := Lib.hid hb
      have hby : Hid (Value.int .u8 (m % 256) = bv (UInt8.ofNat (m % 256).toNat)) := by show _ = _; simp [bv]; omega
      clear hm hx ho hb
      go_wp2_with (at_builtin; refine wpList_append_bytes rfl _ _ 22 rfl w0 5 Tryd.underlying22 infoU8 _ _ rfl (hoh.out.ext (Ext.alloc _ _)) (hxh.out.trans (Ext.alloc _ _)) _ 1 1 [UInt8.ofNat (m % 256).toNat] rfl (Bs.one_of _ _ _ hby.out _) (Nat.le_trans (Nat.add_le_add_right hll 1) (by decide)) ?_; intro v' w1 hown1 hx1 hgrow; obtain ⟨hb1, hw2⟩ := wr_store hR (w := wr.alloc _) (by rw [heap_alloc_old _ _ (Array.getElem?_eq_some_iff.1 hbh.out).1]; exact hbh.out) (hoh.out.ext (Ext.alloc _ _)) hgrow hx1 hown1; obtain ⟨a1, n1, c1, rfl, -⟩ := hown1.bs; have hkp2 := (hkp.trans (Kp.ext (Ext.alloc _ _))).trans (Kp.round (R := R) (v' := .slice a1 n1 c1) (hoh.out.ext (Ext.alloc _ _)) hgrow); obtain ⟨hc1, hf1⟩ := cell0 hb1 0 v rfl; clear hb1 hown1 hx1 hgrow hc)
      go_roundw
      case rel => exact ⟨k + 1, by omega, by go_num, by rw [hd.out], by rw [hs.out, ← List.append_assoc]; exact hw2, hkp2⟩
      case measure => simp [intOf]; omega
    · obtain rfl : k = width := by omega
      go_wp2
      go_end0
      exact ⟨rfl, hwr, hkp⟩
end Go.Proofs.YtkflikfcpdekdaaDoor
