/-
  Layer 6: disks, without the program and in memory.
-/
import Derived.Test.YtponbponacdhkaaDkListed
namespace Go.Proofs.Ytponbponacdhkaa
open Go.RowKit

structure Fl where
  id : Int
  bytes : List UInt8
  sure : Int
deriving DecidableEq
structure Dk where
  quota : Int
  files : List Fl
  names : List Nm
  kept : List Nm
  moves : List Mv
  next : Int
deriving DecidableEq
def runN (M : List Nm) : List Mv → Option (List Nm)
  | [] => some M
  | m :: r => (doneN M m).bind fun M' => runN M' r
def addI (L : List Mv) : List Int := (L.filter fun m => decide (m.kind = 1)).map (·.id)
def ids (D : Dk) : List Int := D.kept.map (·.2) ++ addI D.moves
def total (L : List Fl) : Nat := (L.map fun f => f.bytes.length).sum
/-- A disk as it must be (of not too many moves). -/
structure Good (D : Dk) : Prop where
  quota : 0 ≤ D.quota ∧ D.quota ≤ 1073741824
  next : 1 ≤ D.next ∧ D.next ≤ 1099511627776
  nf : D.files.length ≤ 256
  nk : D.kept.length ≤ 256
  nm : D.moves.length ≤ 5000
  rising : Rising D.kept
  valid : ∀ x ∈ D.kept, vld x.1 = true
  run : runN D.kept D.moves = some D.names
  files : D.files.Pairwise fun f g => f.id < g.id
  range : ∀ f ∈ D.files, 1 ≤ f.id ∧ f.id < D.next ∧ 0 ≤ f.sure ∧ f.sure ≤ f.bytes.length
  perm : (ids D).Perm (D.files.map (·.id))
  total : (total D.files : Int) ≤ D.quota
theorem Good.nodup {D : Dk} (h : Good D) : (ids D).Nodup := by
  rw [h.perm.nodup_iff]
  have h1 : (D.files.map (·.id)).Pairwise (· < ·) := by rw [List.pairwise_map]; exact h.files
  exact h1.imp (fun h e => by omega)
theorem Good.id_mem {D : Dk} (h : Good D) {z : Int} (hz : z ∈ ids D) : 1 ≤ z ∧ z ≤ 1099511627776 := by
  have h1 := h.perm.mem_iff.1 hz
  obtain ⟨f, hf, rfl⟩ := List.mem_map.1 h1
  have h2 := h.range f hf
  have h3 := h.next
  omega
theorem Good.ids_len {D : Dk} (h : Good D) : (ids D).length = D.files.length := by rw [h.perm.length_eq, List.length_map]

/-! ### In memory -/
abbrev Fh := Fl × (Option Addr × Nat × Nat)
def fcl (x : Fh) : List Value := [.int .i64 x.1.id, .slice x.2.1 x.2.2.1 x.2.2.2, .int .i64 x.1.sure]
theorem fcl_len (x : Fh) : (fcl x).length = 3 := rfl
def mcl (m : Mv) : List Value := [.int .i64 m.kind, .string ⟨m.name.toArray⟩, .string ⟨m.dst.toArray⟩, .int .i64 m.id]
theorem mcl_len (m : Mv) : (mcl m).length = 4 := rfl
/-- Where a disk's lists lie. -/
structure DV where
  fa : Option Addr
  fn : Nat
  fc : Nat
  fm : List Fh
  na : Option Addr
  nn : Nat
  nc : Nat
  ka : Option Addr
  kn : Nat
  kc : Nat
  ma : Option Addr
  mn : Nat
  mc : Nat
def dcs (D : Dk) (x : DV) : Array Value := #[.int .i64 D.quota, .slice x.fa x.fn x.fc, .slice x.na x.nn x.nc, .slice x.ka x.kn x.kc, .slice x.ma x.mn x.mc, .int .i64 D.next]
def dkv (D : Dk) (x : DV) : Value := .agg (dcs D x)
structure OD (w : World) (base : Nat) (x : DV) (D : Dk) : Prop where
  files : ORow fcl 3 w base 58 (.slice x.fa x.fn x.fc) x.fm
  fm : x.fm.map (·.1) = D.files
  bytes : ∀ y ∈ x.fm, Own w base 5 (.slice y.2.1 y.2.2.1 y.2.2.2) y.1.bytes
  names : ORow nc 2 w base 81 (.slice x.na x.nn x.nc) D.names
  kept : ORow nc 2 w base 81 (.slice x.ka x.kn x.kc) D.kept
  moves : ORow mcl 4 w base 66 (.slice x.ma x.mn x.mc) D.moves
theorem OD.ext {w w' : World} {base : Nat} {x : DV} {D : Dk} (h : OD w base x D) (hx : Ext w w') : OD w' base x D :=
  ⟨h.files.ext hx, h.fm, fun y hy => (h.bytes y hy).ext hx, h.names.ext hx, h.kept.ext hx, h.moves.ext hx⟩
theorem OD.mono {w : World} {base base' : Nat} {x : DV} {D : Dk} (h : OD w base x D) (hb : base' ≤ base) : OD w base' x D :=
  ⟨owns_mono h.files hb, h.fm, fun y hy => owns_mono (h.bytes y hy) hb, owns_mono h.names hb, owns_mono h.kept hb, owns_mono h.moves hb⟩
/-- A box of another kind, or one that is no row of the disk's, is written. -/
theorem OD.beside {w w' : World} {base : Nat} {x : DV} {D : Dk} {B : Nat} {cs : Array Value} {e : TypeId} {fr : Nat × Nat} (h : OD w base x D) (hB : w.heap[B]? = some (.cells cs e fr)) (hg : w.grownBy w' (some B))
    (h1 : 58 ≠ e) (h2 : 5 ≠ e) (h3 : 81 ≠ e) (h4 : 66 ≠ e) : OD w' base x D :=
  ⟨owns_beside h.files (owns_other h.files hB h1) hg, h.fm, fun y hy => owns_beside (h.bytes y hy) (owns_other (h.bytes y hy) hB h2) hg, owns_beside h.names (owns_other h.names hB h3) hg, owns_beside h.kept (owns_other h.kept hB h3) hg, owns_beside h.moves (owns_other h.moves hB h4) hg⟩
/-- A block that came behind them is written. -/
theorem OD.past {w w0 w' : World} {base : Nat} {x : DV} {D : Dk} {B : Nat} (h0 : OD w0 base x D) (h : OD w base x D) (hB : w0.heap.size ≤ B) (hg : w.grownBy w' (some B)) : OD w' base x D := by
  have hne : ∀ {e : TypeId} {s : Nat} {v : Value} {n : Nat} {xs : List Value}, w0.ownsRow base e s v n xs → v.ownBlock ≠ some B := fun ho he => by
    have := (World.ownsRow.lt ho B he).2
    omega
  exact ⟨owns_beside h.files (hne h0.files) hg, h.fm, fun y hy => owns_beside (h.bytes y hy) (hne (h0.bytes y hy)) hg, owns_beside h.names (hne h0.names) hg, owns_beside h.kept (hne h0.kept) hg, owns_beside h.moves (hne h0.moves) hg⟩
theorem slice_row {α : Type} {enc : α → List Value} {s : Nat} {w : World} {base : Nat} {e : TypeId} {a : Option Addr} {n c : Nat} {l : List α} (h : ORow enc s w base e (.slice a n c) l) : Row enc s w a n c l ∧ l.length = n := by
  obtain ⟨a', c', hv, hr⟩ := h.row
  injection hv with h1 h2 h3
  subst h1 h2 h3
  exact ⟨hr, rfl⟩
theorem OD.fn {w : World} {base : Nat} {x : DV} {D : Dk} (h : OD w base x D) : x.fn = D.files.length ∧ x.fm.length = x.fn ∧ x.nn = D.names.length ∧ x.kn = D.kept.length ∧ x.mn = D.moves.length := by
  have h1 := (slice_row h.files).2
  refine ⟨?_, h1, (slice_row h.names).2.symm, (slice_row h.kept).2.symm, (slice_row h.moves).2.symm⟩
  rw [← h.fm, List.length_map, h1]
theorem cells_six {w : World} {b : Nat} {v0 v1 v2 v3 v4 v5 : Value} {t : TypeId} (h : w.heap[b]? = some (.cells #[v0, v1, v2, v3, v4, v5] t (0, 0))) :
    (w.cell? ⟨b, 0, none⟩ = some v0 ∧ w.cell? ⟨b, 1, none⟩ = some v1 ∧ w.cell? ⟨b, 2, none⟩ = some v2 ∧ w.cell? ⟨b, 3, none⟩ = some v3 ∧ w.cell? ⟨b, 4, none⟩ = some v4 ∧ w.cell? ⟨b, 5, none⟩ = some v5) ∧
    (w.frozen? ⟨b, 0, none⟩ = false ∧ w.frozen? ⟨b, 1, none⟩ = false ∧ w.frozen? ⟨b, 2, none⟩ = false ∧ w.frozen? ⟨b, 3, none⟩ = false ∧ w.frozen? ⟨b, 4, none⟩ = false ∧ w.frozen? ⟨b, 5, none⟩ = false) :=
  ⟨⟨by simp [World.cell?, h], by simp [World.cell?, h], by simp [World.cell?, h], by simp [World.cell?, h], by simp [World.cell?, h], by simp [World.cell?, h]⟩,
   ⟨by simp [World.frozen?, h], by simp [World.frozen?, h], by simp [World.frozen?, h], by simp [World.frozen?, h], by simp [World.frozen?, h], by simp [World.frozen?, h]⟩⟩
def put6 (w : World) (b : Nat) (u0 u1 u2 u3 u4 u5 : Value) : World := (put4 w b u0 u1 u2 u3).setCell ⟨b, 4, none⟩ u4 |>.setCell ⟨b, 5, none⟩ u5
theorem put6_block {w : World} {b : Nat} {v0 v1 v2 v3 v4 v5 : Value} {t : TypeId} (h : w.heap[b]? = some (.cells #[v0, v1, v2, v3, v4, v5] t (0, 0))) (u0 u1 u2 u3 u4 u5 : Value) : (put6 w b u0 u1 u2 u3 u4 u5).heap[b]? = some (.cells #[u0, u1, u2, u3, u4, u5] t (0, 0)) := by
  have h5 := at_setCell (at_setCell (at_setCell (at_setCell (at_setCell (at_setCell h 0 u0) 1 u1) 2 u2) 3 u3) 4 u4) 5 u5
  simpa [put6, put4] using h5
theorem put6_grownBy (w : World) (b : Nat) (u0 u1 u2 u3 u4 u5 : Value) : w.grownBy (put6 w b u0 u1 u2 u3 u4 u5) (some b) :=
  grownBy_trans (grownBy_trans (put4_grownBy w b u0 u1 u2 u3) (put_grownBy _ b 4 u4)) (put_grownBy _ b 5 u5)
end Go.Proofs.Ytponbponacdhkaa
