/-
  A record's payload: the program's Put.
-/
import Derived.Test.YtkflikfcpdekdaaDoorSegWr
namespace Go.Proofs.YtkflikfcpdekdaaDoor
open Go.RowKit

theorem strCells_bvs (l : List UInt8) : Lib.strCells ⟨l.toArray⟩ = bvs l := by simp [Lib.strCells, bvs, bv]
/-- 'append(v, s...)', v the call's own, s a string: the run. -/
theorem run_append_str {P : Program} {w : World} (w0 : World) (t u ty e : TypeId) (ht : P.underlying t = some (.slice e)) (hu : P.underlying u = some .string) (hi : (P.info? e).map (fun i => (i.zero, i.size, i.bytes)) = some (some (.int .u8 0), 1, 1))
    (v : Value) (l : List UInt8) (hown : Own w w0.heap.size e v l) (hx0 : Ext w0 w) (s : List UInt8) (hbytes : l.length + s.length ≤ 140737488355328) :
    ∃ v' w', (Builtin.append_ #[t, u] ty #[v, .string ⟨s.toArray⟩]).run P w = .ok v' w' ∧ Own w' w0.heap.size e v' (l ++ s) ∧ Ext w0 w' ∧ w.grownBy w' v.ownBlock := by
  obtain ⟨i, hi0, hz0, hz1, hz2⟩ := info_parts hi
  obtain ⟨v', w', hr, h2, h3, _⟩ := Lib.run_append_own_string (P := P) w w0.heap.size t u ty e i ht hu hi0 hz0 hz1 hz2 v l.length (bvs l) hown ⟨s.toArray⟩ (by show l.length + s.length ≤ _; unfold maxLen; omega) (by show l.length + s.length ≤ _; omega) hx0.size
  refine ⟨v', w', hr, ?_, hx0.grown h3 (owns_row hown), h3⟩
  unfold Own
  rw [bvs_append, List.length_append, ← strCells_bvs s]
  exact h2
/-- 'append(v, src...)': the run. -/
theorem run_append_bytes {P : Program} {w : World} (w0 : World) (t ty e : TypeId) (ht : P.underlying t = some (.slice e)) (hi : (P.info? e).map (fun i => (i.zero, i.size, i.bytes)) = some (some (.int .u8 0), 1, 1))
    (v : Value) (l : List UInt8) (hown : Own w w0.heap.size e v l) (hx0 : Ext w0 w) (ad : Addr) (m c : Nat) (l2 : List UInt8) (hsrc : Bs w (some ad) m c l2) (hbytes : l.length + m ≤ 140737488355328) :
    ∃ v' w', (Builtin.append_ #[t, t] ty #[v, .slice (some ad) m c]).run P w = .ok v' w' ∧ Own w' w0.heap.size e v' (l ++ l2) ∧ Ext w0 w' ∧ w.grownBy w' v.ownBlock := by
  obtain ⟨i, hi0, hz0, hz1, hz2⟩ := info_parts hi
  have hm := hsrc.len
  have hnews : ∀ j u, (bvs l2)[j]? = some u → w.cell? (ad.add j) = some u := by
    intro j u hj
    have hlt : j < (bvs l2).length := (List.getElem?_eq_some_iff.1 hj).1
    rw [bvs_length, hm] at hlt
    obtain ⟨b, of, hab, hc⟩ := Sl.at_ hsrc (by omega)
    cases hab
    rw [show (⟨b, of, none⟩ : Addr).add j = ⟨b, of + j, none⟩ by unfold Addr.add; split <;> simp_all]
    rw [hc j (by rw [bvs_length, hm]; exact hlt), ← hj, List.getElem?_eq_getElem (by rw [bvs_length, hm]; exact hlt)]
  obtain ⟨v', w', hr, h2, h3, _⟩ := run_append_own (P := P) w w0.heap.size t ty e i (.int .u8 0) 1 1 ht hi0 hz0 hz1 hz2 rfl (by decide) v l.length (bvs l) hown ad m c (bvs l2) (by rw [bvs_length, hm, Nat.mul_one]) hnews (bvs_one l2) (by unfold maxLen; omega) (by omega) hx0.size
  refine ⟨v', w', hr, ?_, hx0.grown h3 (owns_row hown), h3⟩
  unfold Own
  rw [bvs_append, List.length_append, hm]
  exact h2
/-- A builtin's call, as a step of a region that draws its order. -/
theorem step_builtin2 {P : Program} {w : World} {ops : Array Oper} {o : Oper} {a : Act} {K : Act → World → Prop} {Q : Exit → Act → World → Prop} {E : Prop} (hgd : o.guard = none) (s x : Operand) (t u : TypeId)
    (ho : o.op = .call { callee := .builtin .append, args := #[s, x], argTypes := #[t, u] }) {vs vx v' : Value} {w' : World} (hs : a.eval s = vs) (hx : a.eval x = vx)
    (hr : (Builtin.append_ #[t, u] o.type #[vs, vx]).run P w = .ok v' w') (h : K (a.put o.dst v') w') :
    if Region.wanted o (yielded ops a.tmps) = true then Oper.wp P o a w K Q else E := by
  have hw : Region.wanted o (yielded ops a.tmps) = true := by simp [Region.wanted, hgd]
  rw [if_pos hw]
  unfold Oper.wp execOp
  simp only [ho, resolve, invoke, builtin, Sem.run_bind, Sem.run_pure, Result.andThen_ok, List.map_toArray, List.map_cons, List.map_nil, hs, hx, hr]
  exact h

theorem wr_new (w : World) (x : UInt8) (v : Value) (hv : v = bv x) : Wr w ((w.alloc (.cells #[v] 5)).alloc (.cells #[.slice (some ⟨w.heap.size, 0, none⟩) 1 1] 65)) (w.heap.size + 1) [x] := by
  subst hv
  refine ⟨(Ext.alloc _ _).trans (Ext.alloc _ _), by omega, _, ?_, (Own.lit w [x] [bv x] rfl 5 (by simp [maxLen])).ext (Ext.alloc _ _)⟩
  have := heap_alloc_new (w.alloc (.cells #[bv x] 5)) (.cells #[.slice (some ⟨w.heap.size, 0, none⟩) 1 1] 65)
  simpa using this

set_option maxRecDepth 100000 in
set_option maxHeartbeats 1600000 in
theorem put2_calls (r : Rec) (a : Option Addr) (n c : Nat) (w : World) (hb : Rg w a n c r.rungs) (hr : right r = true) (k2 : r.kind = 2) :
    Calls Tryd.prog 39 #[rv r a n c] w fun e w' => ∃ v, e = .returned (.tuple #[v, .int .i64 0]) ∧ Own w' w.heap.size 5 v (segPut r) ∧ Ext w w' := by
  have hpp := Lib.hid (segPut2 r k2)
  have hc0 := fun w' (hx : Ext w w') => right_calls r a n c w' (hb.ext hx)
  rw [hr] at hc0
  obtain ⟨kind, path, method, factor, rungs, rung, time, now, value⟩ := r
  unfold rv at *
  dsimp only at hb k2 hpp ⊢
  subst k2
  have hc0 := Lib.hid hc0
  clear hr
  go_enter Tryd.func39, Tryd.ntmps39
  go_wp2_with fail
  refine (hc0.out _ (Ext.alloc _ _)).mono ?_
  rintro e w2 ⟨rfl, hx2⟩
  have hxx := (Ext.alloc _ _).trans hx2
  have c0 := hx2.cell (a := ⟨w.heap.size, 0, none⟩) (v := .int .i64 2) (by simp)
  have c6 := hx2.cell (a := ⟨w.heap.size, 6, none⟩) (v := .int .i64 time) (by simp)
  have c7 := hx2.cell (a := ⟨w.heap.size, 7, none⟩) (v := .int .i64 now) (by simp)
  have c8 := hx2.cell (a := ⟨w.heap.size, 8, none⟩) (v := .int .i64 value) (by simp)
  have hw2 := wr_new w2 2 (.int .u8 2) rfl
  have hz : w.heap.size < w2.heap.size := by have := hx2.size; simp at this; omega
  clear hx2 hc0 hb
  go_wp2_with fail
  refine (wnumber_calls w2 _ (w2.heap.size + 1) _ time 8 hw2 (by decide) (by decide)).mono ?_
  rintro e w3 ⟨rfl, hw3, -⟩
  have d7 := hw3.1.cell c7
  have d8 := hw3.1.cell c8
  clear hw2 c6
  go_wp2_with fail
  refine (wnumber_calls w2 _ (w2.heap.size + 1) _ now 8 hw3 (by decide) (by simp [le_length])).mono ?_
  rintro e w4 ⟨rfl, hw4, -⟩
  have e8 := hw4.1.cell c8
  clear hw3 c7 d7 d8
  go_wp2_with fail
  refine (wnumber_calls w2 _ (w2.heap.size + 1) _ value 8 hw4 (by decide) (by simp [le_length])).mono ?_
  rintro e w5 ⟨rfl, hw5, -⟩
  obtain ⟨hx5, hR, v, hh, ho⟩ := hw5
  obtain ⟨a1, n1, c1, rfl, -⟩ := ho.bs
  have hcr := (cell0 hh 0 _ rfl).1
  have hoh := Lib.hid (ho.mono hxx.size)
  clear hw4 c8 e8 hh ho
  go_wp2
  go_ret2
  exact ⟨_, rfl, by rw [hpp.out]; simpa using hoh.out, hxx.trans hx5⟩
set_option maxRecDepth 100000 in
set_option maxHeartbeats 1600000 in
theorem put3_calls (r : Rec) (a : Option Addr) (n c : Nat) (w : World) (hb : Rg w a n c r.rungs) (hr : right r = true) (k3 : r.kind = 3) :
    Calls Tryd.prog 39 #[rv r a n c] w fun e w' => ∃ v, e = .returned (.tuple #[v, .int .i64 0]) ∧ Own w' w.heap.size 5 v (segPut r) ∧ Ext w w' := by
  have hpp := Lib.hid (segPut3 r k3)
  have hc0 := fun w' (hx : Ext w w') => right_calls r a n c w' (hb.ext hx)
  rw [hr] at hc0
  obtain ⟨kind, path, method, factor, rungs, rung, time, now, value⟩ := r
  unfold rv at *
  dsimp only at hb k3 hpp ⊢
  subst k3
  have hc0 := Lib.hid hc0
  clear hr
  go_enter Tryd.func39, Tryd.ntmps39
  go_wp2_with fail
  refine (hc0.out _ (Ext.alloc _ _)).mono ?_
  rintro e w2 ⟨rfl, hx2⟩
  have hxx := (Ext.alloc _ _).trans hx2
  have c0 := hx2.cell (a := ⟨w.heap.size, 0, none⟩) (v := .int .i64 3) (by simp)
  have c6 := hx2.cell (a := ⟨w.heap.size, 6, none⟩) (v := .int .i64 time) (by simp)
  have c5 := hx2.cell (a := ⟨w.heap.size, 5, none⟩) (v := .int .i64 rung) (by simp)
  have c8 := hx2.cell (a := ⟨w.heap.size, 8, none⟩) (v := .int .i64 value) (by simp)
  have hw2 := wr_new w2 3 (.int .u8 3) rfl
  have hz : w.heap.size < w2.heap.size := by have := hx2.size; simp at this; omega
  clear hx2 hc0 hb
  go_wp2_with fail
  refine (wnumber_calls w2 _ (w2.heap.size + 1) _ rung 1 hw2 (by decide) (by decide)).mono ?_
  rintro e w3 ⟨rfl, hw3, -⟩
  have d6 := hw3.1.cell c6
  have d8 := hw3.1.cell c8
  clear hw2 c5
  go_wp2_with fail
  refine (wnumber_calls w2 _ (w2.heap.size + 1) _ time 8 hw3 (by decide) (by simp [le_length])).mono ?_
  rintro e w4 ⟨rfl, hw4, -⟩
  have e8 := hw4.1.cell c8
  clear hw3 c6 d6 d8
  go_wp2_with fail
  refine (wnumber_calls w2 _ (w2.heap.size + 1) _ value 8 hw4 (by decide) (by simp [le_length])).mono ?_
  rintro e w5 ⟨rfl, hw5, -⟩
  obtain ⟨hx5, hR, v, hh, ho⟩ := hw5
  obtain ⟨a1, n1, c1, rfl, -⟩ := ho.bs
  have hcr := (cell0 hh 0 _ rfl).1
  have hoh := Lib.hid (ho.mono hxx.size)
  clear hw4 c8 e8 hh ho
  go_wp2
  go_ret2
  exact ⟨_, rfl, by rw [hpp.out]; simpa using hoh.out, hxx.trans hx5⟩
end Go.Proofs.YtkflikfcpdekdaaDoor
