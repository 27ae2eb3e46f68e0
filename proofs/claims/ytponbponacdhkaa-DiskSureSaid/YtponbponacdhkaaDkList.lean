/-
  Layer 6's contracts: the names of a disk.
-/
import Derived.Test.YtponbponacdhkaaDkGood
import Derived.Laws.MakeOwn
import Derived.Deep.DeepCutAuto
namespace Go.Proofs.Ytponbponacdhkaa
open Go.RowKit

def tcl (s : List UInt8) : List Value := [.string ⟨s.toArray⟩]
theorem tcl_len (s : List UInt8) : (tcl s).length = 1 := rfl
theorem infoStr : (Try.prog.info? 9).map (fun i => (i.zero, i.size, i.bytes)) = some (some (.string ⟨#[]⟩), 1, 16) := by kernel_rfl
theorem undStrs : Try.prog.underlying 53 = some (.slice 9) := by kernel_rfl
theorem run_make_strs (n : Nat) (hn : n ≤ 10000) (w : World) : (Instr.makeSlice 53 (.int .i64 (n : Int)) (.int .i64 (n : Int))).run Try.prog w = .ok (.slice (some ⟨w.heap.size, 0, none⟩) n n) (w.alloc (.cells (madeCells #[.string ⟨#[]⟩] n) 9)) := by
  obtain ⟨i, hi, hz, hs, hb⟩ := info_parts infoStr
  have h1 : i.bytes * n ≤ 281474976710656 := by rw [hb]; omega
  have h2 : (i.bytes : Int) * (n : Int) ≤ 281474976710656 := by
    have h : ((i.bytes * n : Nat) : Int) ≤ 281474976710656 := by omega
    rwa [Int.natCast_mul] at h
  have hr := run_make (P := Try.prog) w 53 9 i _ undStrs hi hz .i64 .i64 n n (by omega) (by omega) h2 (by omega)
  simp only [Int.toNat_natCast, hs, Nat.mul_one] at hr
  exact hr
theorem madeStrs (n : Nat) : (madeCells #[.string ⟨#[]⟩] n).size = n := by simp [madeCells]

def LsLoop (w : World) (M : List Nm) (g : Nat) (vi : Value) (wr : World) : Prop :=
  ∃ k : Nat, k ≤ M.length ∧ vi = .int .i64 k ∧ Ext w wr ∧ ∃ cur : Array Value, wr.heap[g]? = some (.cells cur 9 (0, 0)) ∧ cur.size = M.length ∧ ∀ j (hj : j < M.length), j < k → cur[j]? = some (.string ⟨M[j].1.toArray⟩)
theorem rcells_tcl (l : List (List UInt8)) : rcells tcl l = l.map fun s => .string ⟨s.toArray⟩ := by
  induction l with
  | nil => rfl
  | cons x r ih => rw [rcells_cons, ih]; rfl
theorem ls_set {M : List Nm} {cur : Array Value} {k : Nat} (hk : k < M.length) (hs : cur.size = M.length) (h : ∀ j (hj : j < M.length), j < k → cur[j]? = some (.string ⟨M[j].1.toArray⟩)) :
    (cur.setIfInBounds k (.string ⟨M[k].1.toArray⟩)).size = M.length ∧ ∀ j (hj : j < M.length), j < k + 1 → (cur.setIfInBounds k (.string ⟨M[k].1.toArray⟩))[j]? = some (.string ⟨M[j].1.toArray⟩) := by
  refine ⟨by simp [hs], fun j hj hjk => ?_⟩
  by_cases he : j = k
  · subst he
    simp [hs, hj]
  · rw [Array.getElem?_setIfInBounds]
    rw [if_neg (Ne.symm he)]
    exact h j hj (by omega)
theorem ls_end {M : List Nm} {cur : Array Value} (hs : cur.size = M.length) (h : ∀ j (hj : j < M.length), j < M.length → cur[j]? = some (.string ⟨M[j].1.toArray⟩)) : cur = (rcells tcl (M.map (·.1))).toArray := by
  rw [rcells_tcl]
  apply Array.ext
  · simp [hs]
  · intro i h1 h2
    have h3 := h i (by omega) (by omega)
    rw [Array.getElem?_eq_getElem h1] at h3
    injection h3 with h3
    rw [h3]
    simp

set_option maxRecDepth 100000 in
set_option maxHeartbeats 6400000 in
theorem list_calls (D : Dk) (x : DV) (base : Nat) (w : World) (hO : OD w base x D) (hG : Good D) :
    Calls Try.prog 22 #[dkv D x] w fun e w' => ∃ g, e = .returned (.tuple #[.slice (some ⟨g, 0, none⟩) D.names.length D.names.length, .int .i64 0]) ∧ Row tcl 1 w' (some ⟨g, 0, none⟩) D.names.length D.names.length (D.names.map (·.1)) ∧ Ext w w' := by
  have hbk := heap_alloc_new w (.cells (dcs D x) 29)
  have hx0 := Ext.alloc w (.cells (dcs D x) 29)
  have hri := Lib.hid (fun W (h : Ext w W) => right_calls D x base W (hO.ext h) hG)
  have hnl := hG.names_len
  have hnn := hO.fn.2.2.1
  have hN := Lib.hid (slice_row hO.names).1
  clear hO hG
  unfold dkv at *
  unfold dcs at *
  obtain ⟨quota, files, names, kept, moves, next⟩ := D
  obtain ⟨fa, fn, fc, fm, na, nn, nc0, ka, kn, kc, ma, mn, mc⟩ := x
  dsimp only at *
  subst hnn
  obtain ⟨W0, hW0⟩ : ∃ W0, w.alloc (.cells #[.int .i64 quota, .slice fa fn fc, .slice na names.length nc0, .slice ka kn kc, .slice ma mn mc, .int .i64 next] 29) = W0 := ⟨_, rfl⟩
  rw [hW0] at hx0 hbk
  obtain ⟨⟨y0, y1, y2, y3, y4, y5⟩, _⟩ := cells_six hbk
  have hmk := run_make_strs names.length (by omega)
  go_enter Try.func22, Try.ntmps22
  go_wp2_with fail
  refine (hri.out _ hx0).mono ?_
  rintro e w1 ⟨rfl, hx1⟩
  clear hW0 y0 y1 y2 y3 y4 y5 hri
  have hX1 := hx0.trans hx1
  have hb1 := (hx1.block _ (lt_of_block hbk)).trans hbk
  obtain ⟨⟨y0, y1, y2, y3, y4, y5⟩, _⟩ := cells_six hb1
  have hx2 := Ext.alloc w1 (.cells (madeCells #[.string ⟨#[]⟩] names.length) 9)
  have hb2 := (hx2.block _ (lt_of_block hb1)).trans hb1
  obtain ⟨⟨z0, z1, z2, z3, z4, z5⟩, _⟩ := cells_six hb2
  have hlb1 := lt_of_block hb1
  clear hbk hx0
  go_upto_region 3 with fail
  obtain ⟨g, hg⟩ : ∃ g, w1.heap.size = g := ⟨_, rfl⟩
  have hwg : w.heap.size ≤ g := by have := hX1.size; omega
  have hX2 := hX1.trans hx2
  have hbg := heap_alloc_new w1 (.cells (madeCells #[.string ⟨#[]⟩] names.length) 9)
  rw [hg] at hbg
  obtain ⟨W2, hW2⟩ : ∃ W2, w1.alloc (.cells (madeCells #[.string ⟨#[]⟩] names.length) 9) = W2 := ⟨_, rfl⟩
  have hmk1 := hmk w1
  rw [hg] at hmk1
  rw [hW2] at hX2 hbg hmk1 z0 z1 z2 z3 z4 z5
  clear hmk hx2 hb2 hX1 hx1 hb1 hlb1
  go_upto_region 4 with fail
  clear hmk1 y0 y1 y2 y3 y4 y5 hW2 hg
  go_wp2_with fail
  clear z0 z1 z2 z3 z4 z5
  go_loopw [17] (LsLoop w names g) (fun vi _ => names.length - (intOf vi).toNat)
  case atStart => exact ⟨0, Nat.zero_le _, rfl, hX2, _, hbg, madeStrs _, fun j _ h => by omega⟩
  case round =>
    obtain ⟨k, hk, rfl, hX, cur, hcur, hcs, hcj⟩ := hrel
    by_cases hlt : k < names.length
    · obtain ⟨b0, o0, rfl, hc⟩ := Ns.at hN.out (by omega)
      obtain ⟨wo, hwo⟩ : ∃ wo : World, wr = wo := ⟨_, rfl⟩
      rw [hwo] at hX hcur ⊢
      clear hwo
      have d0 := hX.cell (hc k hlt).1
      have d1 := hX.cell (hc k hlt).2
      have hls := Lib.hid (ls_set hlt hcs hcj)
      have hck : ∃ u, cur[k]? = some u := ⟨_, Array.getElem?_eq_getElem (by omega)⟩
      obtain ⟨u, hck⟩ := hck
      obtain ⟨⟨s, z⟩, hx⟩ : ∃ x, names[k] = x := ⟨_, rfl⟩
      rw [hx] at d0 d1 hls
      dsimp only at d0 d1 hls
      clear hc hx hcj
      go_upto_region 7 with fail
      have hx1 := Ext.alloc wo (.cells #[.string ⟨s.toArray⟩, .int .i64 z] 81)
      have hb1 := heap_alloc_new wo (.cells #[.string ⟨s.toArray⟩, .int .i64 z] 81)
      have hg1 := (hx1.block _ (lt_of_block hcur)).trans hcur
      obtain ⟨B, hB⟩ : ∃ B, wo.heap.size = B := ⟨_, rfl⟩
      obtain ⟨W1, hW1⟩ : ∃ W1, wo.alloc (.cells #[.string ⟨s.toArray⟩, .int .i64 z] 81) = W1 := ⟨_, rfl⟩
      rw [hW1] at hx1 hg1
      rw [hW1, hB] at hb1 ⊢
      have hX1 := hX.trans hx1
      clear hW1 hB d0 d1 hX hcur hx1
      obtain ⟨e0, e1⟩ : W1.cell? ⟨B, 0, none⟩ = some (.string ⟨s.toArray⟩) ∧ W1.cell? ⟨B, 1, none⟩ = some (.int .i64 z) := ⟨by simp [World.cell?, hb1], by simp [World.cell?, hb1]⟩
      have e2 : W1.cell? ⟨g, k, none⟩ = some u := by simp [World.cell?, hg1, hck]
      have e3 : W1.frozen? ⟨g, k, none⟩ = false := by simp [World.frozen?, hg1]
      clear hck
      go_wp2_with fail
      go_roundw
      case rel => exact ⟨k + 1, by omega, by go_num, Below.setCell (p := ⟨g, k, none⟩) hX1 hwg _, _, at_setCell hg1 k _, hls.out.1, hls.out.2⟩
      case measure => simp [intOf]; omega
    · obtain rfl : k = names.length := by omega
      have he := ls_end hcs hcj
      subst he
      have hr := sl_block (s := 1) (n := names.length) hcur (by rw [rcells_tcl]; simp) (by unfold maxLen; omega)
      go_wp2_with fail
      refine bodyPost_ret (v := .tuple #[.slice (some ⟨g, 0, none⟩) names.length names.length, .int .i64 0]) (by simp [results, Try.results22, go_sem]) rfl ?_
      exact ⟨g, rfl, hr, hX⟩
end Go.Proofs.Ytponbponacdhkaa
