/-
  Layer 6's contracts: a disk with names that are kept, and their files alone; the directory is kept.
-/
import Derived.Test.YtponbponacdhkaaDkDelF
namespace Go.Proofs.Ytponbponacdhkaa
open Go.RowKit

def settleD (D : Dk) (l : List Nm) : Dk := { D with names := l, kept := l, moves := [], files := D.files.filter fun f => decide (f.id ∈ l.map (·.2)) }
theorem keepF_map (met : List Int) (M : List Fh) : (keepF met M).map (·.1) = (M.map (·.1)).filter fun f => decide (f.id ∈ met) := by
  unfold keepF goes
  rw [List.filter_map]
  congr 1
  apply List.filter_congr
  intro y _
  simp
/-- The state between two names. -/
def SetLoop (w : World) (b B5 : Nat) (bx : Obj) (Ln : List Nm) (vi : Value) (wr : World) : Prop :=
  ∃ k : Nat, k ≤ Ln.length ∧ vi = .int .i64 k ∧ Hid (Met wr b ((Ln.take k).map (·.2))) ∧ Ext w wr ∧ Hid (wr.heap[w.heap.size]? = some bx) ∧ Hid (wr.heap[w.heap.size + 1]? = some (.cells #[.int .i64 0, .slice none 0 0, .slice none 0 0, .slice none 0 0, .slice none 0 0, .int .i64 0] 29 (0, 0))) ∧ Hid (wr.heap[B5]? = some (.cells #[.map (some b)] 79 (0, 0)))

set_option maxRecDepth 100000 in
set_option maxHeartbeats 6400000 in
theorem settled_calls (D : Dk) (x : DV) (base : Nat) (la : Option Addr) (ln lc : Nat) (Ln : List Nm) (w : World) (hO : OD w base x D) (hG : Good D) (hbase : base ≤ w.heap.size) (hl : Ns w la ln lc Ln) (hlz : ∀ y ∈ Ln, 0 ≤ y.2 ∧ y.2 ≤ 1099511627776) (hln : ln ≤ 10000) :
    Calls Try.prog 29 #[dkv D x, .slice la ln lc] w fun e w' => ∃ x2, e = .returned (dkv (settleD D Ln) x2) ∧ OD w' base x2 (settleD D Ln) ∧ (∀ k, (Value.slice x2.fa x2.fn x2.fc).ownBlock = some k → w.heap.size ≤ k) ∧ Ext w w' := by
  have hlen := Row.len nc_len (by decide) hl
  subst hlen
  obtain ⟨hbk, hrk⟩ := two_blocks (Ext.refl ((w.alloc (.cells (dcs D x) 29)).alloc (.cells #[.int .i64 0, .slice none 0 0, .slice none 0 0, .slice none 0 0, .slice none 0 0, .int .i64 0] 29)))
  have hx0 : Ext w ((w.alloc (.cells (dcs D x) 29)).alloc (.cells #[.int .i64 0, .slice none 0 0, .slice none 0 0, .slice none 0 0, .slice none 0 0, .int .i64 0] 29)) := (Ext.alloc _ _).trans (Ext.alloc _ _)
  have hfl : x.fm.length = x.fn := hO.fn.2.1
  have hfb : x.fm.length ≤ 256 := by have := hO.fn; have := hG.nf; omega
  have hfc := Lib.hid (fun W (h : Ext w W) => fclone_calls x.fa x.fn x.fc x.fm W (by have := hO.fn; have := hG.nf; omega) ((slice_row hO.files).1.ext h))
  have hnc := Lib.hid (fun W (h : Ext w W) => nclone_calls la Ln.length lc Ln W (by omega) (hl.ext h))
  have hfz : ∀ y ∈ x.fm, 0 ≤ y.1.id ∧ y.1.id ≤ 1099511627776 := fun y hy => by
    have h1 : y.1 ∈ D.files := by rw [← hO.fm]; exact List.mem_map_of_mem hy
    have h2 := hG.range _ h1
    have h3 := hG.next
    omega
  have hfzh := Lib.hid hfz
  have hlzh := Lib.hid hlz
  have hlh := Lib.hid hl
  have hOh := Lib.hid hO
  have hmk := @run_makeMap Try.prog
  clear hO hG hl hlz hfz
  unfold dkv at *
  unfold dcs at *
  obtain ⟨fa, fn, fc, fm, na, nn, nc0, ka, kn, kc, ma, mn, mc⟩ := x
  dsimp only at *
  subst hfl
  obtain ⟨W0, hW0⟩ : ∃ W0, (w.alloc (.cells #[.int .i64 D.quota, .slice fa fm.length fc, .slice na nn nc0, .slice ka kn kc, .slice ma mn mc, .int .i64 D.next] 29)).alloc (.cells #[.int .i64 0, .slice none 0 0, .slice none 0 0, .slice none 0 0, .slice none 0 0, .int .i64 0] 29) = W0 := ⟨_, rfl⟩
  rw [hW0] at hx0 hbk hrk
  have hx1 := Ext.alloc W0 (.map #[] 0)
  have hm1 := met_made W0
  obtain ⟨b, hbd⟩ : ∃ b, W0.heap.size = b := ⟨_, rfl⟩
  rw [hbd] at hm1
  have hbw : w.heap.size + 1 < b := by have := lt_of_block hrk; omega
  have hx2 := Ext.alloc (W0.alloc (.map #[] 0)) (.cells #[.map (some b)] 79)
  have hb5 := heap_alloc_new (W0.alloc (.map #[] 0)) (.cells #[.map (some b)] 79)
  obtain ⟨B5, hB5⟩ : ∃ B5, b + 1 = B5 := ⟨_, rfl⟩
  rw [show (W0.alloc (.map #[] 0)).heap.size = B5 by simp; omega] at hb5
  go_enter Try.func29, Try.ntmps29
  go_wp2_with fail
  obtain ⟨W2, hW2⟩ : ∃ W2, (W0.alloc (.map #[] 0)).alloc (.cells #[.map (some b)] 79) = W2 := ⟨_, rfl⟩
  rw [hW2] at hx2 hb5
  rw [hW2]
  have hX2 := (hx0.trans hx1).trans hx2
  have hm2 := Lib.hid (hm1.ext hx2)
  have hbk2 := Lib.hid (((hx1.trans hx2).block _ (lt_of_block hbk)).trans hbk)
  have hrk2 := Lib.hid (((hx1.trans hx2).block _ (lt_of_block hrk)).trans hrk)
  have hb5h := Lib.hid hb5
  clear hW0 hW2 hmk hbd hm1 hbk hrk hb5 hx0 hx1 hx2
  go_loopw [11] (fun vi wr => SetLoop w b B5 (.cells #[.int .i64 D.quota, .slice fa fm.length fc, .slice na nn nc0, .slice ka kn kc, .slice ma mn mc, .int .i64 D.next] 29 (0, 0)) Ln vi wr) (fun vi _ => Ln.length - (intOf vi).toNat)
  case atStart => exact ⟨0, Nat.zero_le _, rfl, hm2.out, hX2, hbk2.out, hrk2.out, hb5h.out⟩
  case round =>
    obtain ⟨k, hk, rfl, hM, hX, hB, hR, hB5'⟩ := hrel
    clear hm2 hX2 hbk2 hrk2 hb5h
    by_cases hlt : k < Ln.length
    · obtain ⟨b0, o0, rfl, hc⟩ := Ns.at hlh.out (by omega)
      have d0 := hX.cell (hc k hlt).1
      have d1 := hX.cell (hc k hlt).2
      have htk : (Ln.take (k + 1)).map (·.2) = (Ln.take k).map (·.2) ++ [Ln[k].2] := by
        rw [List.take_succ_eq_append_getElem hlt, List.map_append]; rfl
      have hrg := hlzh.out Ln[k] (List.getElem_mem hlt)
      have hml : ((Ln.take k).map (·.2)).length < 1000000 := by rw [List.length_map, List.length_take]; omega
      obtain ⟨⟨s, z⟩, hx⟩ : ∃ y, Ln[k] = y := ⟨_, rfl⟩
      rw [hx] at d0 d1 htk hrg
      dsimp only at d0 d1 htk hrg
      have hx3 := Ext.alloc wr (.cells #[.string ⟨s.toArray⟩, .int .i64 z] 81)
      obtain ⟨w5, hup, hM5, hg5⟩ := (hM.out.ext hx3).update z (wf_small z hrg.1 hrg.2) hml
      rw [← htk] at hM5
      have hX5 := (hX.trans hx3).grown hg5 (fun k e => by cases e; omega)
      have hlB5 := lt_of_block hB5'.out
      have hBq := (hg5.block w.heap.size (by have := lt_of_block hB.out; simp; omega) (by simp; omega)).trans ((hx3.block _ (lt_of_block hB.out)).trans hB.out)
      have hRq := (hg5.block (w.heap.size + 1) (by have := lt_of_block hR.out; simp; omega) (by simp; omega)).trans ((hx3.block _ (lt_of_block hR.out)).trans hR.out)
      have hB5q := (hg5.block B5 (by simp; omega) (by simp; omega)).trans ((hx3.block _ hlB5).trans hB5'.out)
      have c5 : wr.cell? ⟨B5, 0, none⟩ = some (.map (some b)) := by simp [World.cell?, hB5'.out]
      have hlb := World.block_lt_of_cell? wr _ d0
      have hM5h := Lib.hid hM5
      have hX5h := Lib.hid hX5
      have hBqh := Lib.hid hBq
      have hRqh := Lib.hid hRq
      have hB5qh := Lib.hid hB5q
      clear hc hx hM htk hrg hml hM5 hX5 hBq hRq hB5q hg5 hx3 hB hR hB5'
      go_wp2_with fail
      go_roundw
      case rel => exact ⟨k + 1, by omega, by go_num, hM5h.out, hX5h.out, hBqh.out, hRqh.out, hB5qh.out⟩
      case measure => simp [intOf]; omega
    · obtain rfl : k = Ln.length := by omega
      have hM2 : Hid (Met wr b (Ln.map (·.2))) := by
        have h1 := hM.out
        rw [List.take_length] at h1
        exact h1
      obtain ⟨wo, hwo⟩ : ∃ wo : World, wr = wo := ⟨_, rfl⟩
      rw [hwo] at hM2 hX hB hR hB5' ⊢
      clear hwo hM
      go_wp2_with fail
      refine (hnc.out _ hX).mono ?_
      rintro e w3 ⟨v1, rfl, hown1, hx3⟩
      obtain ⟨n1, c1, rfl, _⟩ := Sl.of_owns hown1
      have hX3 := hX.trans hx3
      have hown1h := Lib.hid hown1
      clear hown1
      go_wp2_with fail
      refine (hnc.out _ hX3).mono ?_
      rintro e w4 ⟨v2, rfl, hown2, hx4⟩
      obtain ⟨n2, c2, rfl, _⟩ := Sl.of_owns hown2
      have hX4 := hX3.trans hx4
      have hown2h := Lib.hid hown2
      clear hown2
      have hx34 := hx3.trans hx4
      have hB4 := (hx34.block _ (lt_of_block hB.out)).trans hB.out
      have hR4 := (hx34.block _ (lt_of_block hR.out)).trans hR.out
      have hB54 := (hx34.block _ (lt_of_block hB5'.out)).trans hB5'.out
      have hM4 := Lib.hid (hM2.out.ext hx34)
      have hXb := hX.size
      have hX3b := hX3.size
      obtain ⟨⟨y0, y1, y2, y3, y4, y5⟩, ⟨i0, i1, i2, i3, i4, i5⟩⟩ := cells_six hB4
      have hlB4 := lt_of_block hB4
      go_upto_region 8 with fail
      have hgp := put3_grownBy w4 w.heap.size 2 3 4 (.slice n1 Ln.length c1) (.slice n2 Ln.length c2) (.slice none 0 0)
      have hb5 := at_setCell (at_setCell (at_setCell hB4 2 (.slice n1 Ln.length c1)) 3 (.slice n2 Ln.length c2)) 4 (.slice none 0 0)
      simp only [List.setIfInBounds_toArray, List.set_cons_succ, List.set_cons_zero] at hb5
      have hr5 := (hgp.block _ (lt_of_block hR4) (by simp)).trans hR4
      have hB55 := (hgp.block B5 (lt_of_block hB54) (by simp; omega)).trans hB54
      have ho1 := owns_beside (hown1h.out.ext hx4) (owns_other (hown1h.out.ext hx4) hB4 (by decide)) hgp
      have ho2 := owns_beside hown2h.out (owns_other hown2h.out hB4 (by decide)) hgp
      have hM5 := hM4.out.kept hgp (by simp; omega)
      have hX5 := hX4.grown hgp (fun k e => by cases e; exact Nat.le_refl _)
      obtain ⟨w5, hw5⟩ : ∃ w5, ((w4.setCell ⟨w.heap.size, 2, none⟩ (.slice n1 Ln.length c1)).setCell ⟨w.heap.size, 3, none⟩ (.slice n2 Ln.length c2)).setCell ⟨w.heap.size, 4, none⟩ (.slice none 0 0) = w5 := ⟨_, rfl⟩
      rw [hw5] at hb5 hr5 hB55 ho1 ho2 hM5 hX5 ⊢
      have ho1h := Lib.hid (owns_mono ho1 hXb)
      have ho2h := Lib.hid (owns_mono ho2 hX3b)
      have hM5h := Lib.hid hM5
      clear hw5 hgp ho1 ho2 hM5 hM4 hB4 hR4 hB54 y0 y1 y2 y3 y4 y5 i0 i1 i2 i3 i4 i5 hlB4 hx3 hx4 hx34 hown1h hown2h
      obtain ⟨⟨y0, y1, y2, y3, y4, y5⟩, _⟩ := cells_six hb5
      have hmf : ∀ (fn : Fn) (first cap : Array Value) (w : World), (Instr.makeFunc fn first cap).run Try.prog w = .ok (.func fn first cap) w := fun _ _ _ _ => rfl
      go_wp2_with fail
      refine (hfc.out _ hX5).mono ?_
      rintro e w6 ⟨v3, rfl, hown3, hx6⟩
      obtain ⟨a6, c6, rfl, _⟩ := Sl.of_owns hown3
      have hX6 := hX5.trans hx6
      have hX5b := hX5.size
      have hB56 := (hx6.block _ (lt_of_block hB55)).trans hB55
      have hdel := Lib.hid (delf_calls w5.heap.size _ fm B5 b (Ln.map (·.2)) w6 hown3 hB56 (hM5h.out.ext hx6) hfzh.out (by omega))
      have hown3h := Lib.hid hown3
      have hb6 := (hx6.block _ (lt_of_block hb5)).trans hb5
      have hr6 := (hx6.block _ (lt_of_block hr5)).trans hr5
      clear hown3
      go_wp2_with fail
      refine hdel.out.mono ?_
      rintro e w7 ⟨v4, rfl, hown4, hg7⟩
      obtain ⟨a8, c8, rfl, _⟩ := Sl.of_owns hown4
      have hX7 := hX6.grown hg7 (fun k e => by have h1 := owns_row hown3h.out k e; omega)
      have hb7 := block_beside hown3h.out hg7 hb6 (by decide)
      have hr7 := block_beside hown3h.out hg7 hr6 (by decide)
      have ho17 := World.ownsRow.kept (owns_ext ho1h.out hx6) hg7 (owns_apart (owns_ext ho1h.out hx6) hown3h.out (by decide))
      have ho27 := World.ownsRow.kept (owns_ext ho2h.out hx6) hg7 (owns_apart (owns_ext ho2h.out hx6) hown3h.out (by decide))
      have hown4h := Lib.hid (owns_mono hown4 hX5b)
      have ho17h := Lib.hid ho17
      have ho27h := Lib.hid ho27
      clear hown4 ho17 ho27 hdel hmf y0 y1 y2 y3 y4 y5 hg7 hx6
      obtain ⟨⟨y0, y1, y2, y3, y4, y5⟩, ⟨i0, i1, i2, i3, i4, i5⟩⟩ := cells_six hb7
      have hlb7 := lt_of_block hb7
      go_upto_region 9 with fail
      have hgq7 := put_grownBy w7 w.heap.size 1 (.slice a8 (keepF (Ln.map (·.2)) fm).length c8)
      have hb8 := at_setCell hb7 1 (.slice a8 (keepF (Ln.map (·.2)) fm).length c8)
      simp only [List.setIfInBounds_toArray, List.set_cons_succ, List.set_cons_zero] at hb8
      have hr8 := (hgq7.block _ (lt_of_block hr7) (by simp)).trans hr7
      have hX8 := hX7.grown hgq7 (fun k e => by cases e; exact Nat.le_refl _)
      have hf8 := owns_beside hown4h.out (owns_other hown4h.out hb7 (by decide)) hgq7
      have hn8 := owns_beside ho17h.out (owns_other ho17h.out hb7 (by decide)) hgq7
      have hk8 := owns_beside ho27h.out (owns_other ho27h.out hb7 (by decide)) hgq7
      obtain ⟨w8, hw8⟩ : ∃ w8, w7.setCell ⟨w.heap.size, 1, none⟩ (.slice a8 (keepF (Ln.map (·.2)) fm).length c8) = w8 := ⟨_, rfl⟩
      rw [hw8] at hb8 hr8 hX8 hf8 hn8 hk8 ⊢
      have hf8h := Lib.hid hf8
      have hn8h := Lib.hid hn8
      have hk8h := Lib.hid hk8
      clear hw8 hgq7 hf8 hn8 hk8 y0 y1 y2 y3 y4 y5 i0 i1 i2 i3 i4 i5 hlb7
      obtain ⟨⟨y0, y1, y2, y3, y4, y5⟩, _⟩ := cells_six hb8
      obtain ⟨⟨s0, s1, s2, s3, s4, s5⟩, ⟨g0, g1, g2, g3, g4, g5⟩⟩ := cells_six hr8
      have hlr8 := lt_of_block hr8
      go_wp2_with fail
      have hwq : put6 w8 (w.heap.size + 1) (.int .i64 D.quota) (.slice a8 (keepF (Ln.map (·.2)) fm).length c8) (.slice n1 Ln.length c1) (.slice n2 Ln.length c2) (.slice none 0 0) (.int .i64 D.next) = ((((((w8.setCell ⟨w.heap.size + 1, 0, none⟩ (.int .i64 D.quota)).setCell ⟨w.heap.size + 1, 1, none⟩ (.slice a8 (keepF (Ln.map (·.2)) fm).length c8)).setCell ⟨w.heap.size + 1, 2, none⟩ (.slice n1 Ln.length c1)).setCell ⟨w.heap.size + 1, 3, none⟩ (.slice n2 Ln.length c2)).setCell ⟨w.heap.size + 1, 4, none⟩ (.slice none 0 0)).setCell ⟨w.heap.size + 1, 5, none⟩ (.int .i64 D.next)) := rfl
      have hgq := put6_grownBy w8 (w.heap.size + 1) (.int .i64 D.quota) (.slice a8 (keepF (Ln.map (·.2)) fm).length c8) (.slice n1 Ln.length c1) (.slice n2 Ln.length c2) (.slice none 0 0) (.int .i64 D.next)
      have hhq := put6_block hr8 (.int .i64 D.quota) (.slice a8 (keepF (Ln.map (·.2)) fm).length c8) (.slice n1 Ln.length c1) (.slice n2 Ln.length c2) (.slice none 0 0) (.int .i64 D.next)
      rw [← hwq]
      obtain ⟨wq, hwqe⟩ : ∃ wq, put6 w8 (w.heap.size + 1) (.int .i64 D.quota) (.slice a8 (keepF (Ln.map (·.2)) fm).length c8) (.slice n1 Ln.length c1) (.slice n2 Ln.length c2) (.slice none 0 0) (.int .i64 D.next) = wq := ⟨_, rfl⟩
      rw [hwqe] at hgq hhq ⊢
      obtain ⟨⟨q0, q1, q2, q3, q4, q5⟩, _⟩ := cells_six hhq
      refine bodyPost_ret (v := .agg #[.int .i64 D.quota, .slice a8 (keepF (Ln.map (·.2)) fm).length c8, .slice n1 Ln.length c1, .slice n2 Ln.length c2, .slice none 0 0, .int .i64 D.next]) (by simp [results, Try.results29, go_sem, q0, q1, q2, q3, q4, q5]) rfl ?_
      have hXq := hX8.grown hgq (fun k e => by cases e; omega)
      have hOq := hOh.out.ext hXq
      refine ⟨⟨a8, (keepF (Ln.map (·.2)) fm).length, c8, keepF (Ln.map (·.2)) fm, n1, Ln.length, c1, n2, Ln.length, c2, none, 0, 0⟩, rfl, ⟨?_, ?_, ?_, ?_, ?_, ?_⟩, fun k e => owns_row hf8h.out k e, hXq⟩
      · exact owns_mono (owns_beside hf8h.out (owns_other hf8h.out hr8 (by decide)) hgq) hbase
      · dsimp only
        rw [keepF_map, hOq.fm]
        rfl
      · intro y hy
        exact hOq.bytes y (List.mem_filter.1 hy).1
      · exact owns_mono (owns_beside hn8h.out (owns_other hn8h.out hr8 (by decide)) hgq) hbase
      · exact owns_mono (owns_beside hk8h.out (owns_other hk8h.out hr8 (by decide)) hgq) hbase
      · exact World.ownsRow_nil _ _ _ _

def syncdirD (D : Dk) : Dk × Int := (settleD D D.names, 0)
set_option maxRecDepth 100000 in
set_option maxHeartbeats 6400000 in
theorem syncdir_calls (D : Dk) (x : DV) (base : Nat) (w : World) (hO : OD w base x D) (hG : Good D) (hbase : base ≤ w.heap.size) :
    Calls Try.prog 12 #[dkv D x] w (DPost (syncdirD D) base w) := by
  obtain ⟨hbk, hrk⟩ := two_blocks (Ext.refl ((w.alloc (.cells (dcs D x) 29)).alloc (.cells #[.int .i64 0, .slice none 0 0, .slice none 0 0, .slice none 0 0, .slice none 0 0, .int .i64 0] 29)))
  have hx0 : Ext w ((w.alloc (.cells (dcs D x) 29)).alloc (.cells #[.int .i64 0, .slice none 0 0, .slice none 0 0, .slice none 0 0, .slice none 0 0, .int .i64 0] 29)) := (Ext.alloc _ _).trans (Ext.alloc _ _)
  have hri := Lib.hid (fun W (h : Ext w W) => right_calls D x base W (hO.ext h) hG)
  have hse := Lib.hid (fun W (h : Ext w W) => settled_calls D x base x.na x.nn x.nc D.names W (hO.ext h) hG (by have := h.size; omega) ((slice_row hO.names).1.ext h) (fun y hy => by have := hG.id_mem (hG.name_id hy); omega) (by have := hG.names_len; have := hO.fn; omega))
  clear hO hG
  unfold dkv at *
  unfold dcs at *
  obtain ⟨fa, fn, fc, fm, na, nn, nc0, ka, kn, kc, ma, mn, mc⟩ := x
  dsimp only at *
  obtain ⟨W0, hW0⟩ : ∃ W0, (w.alloc (.cells #[.int .i64 D.quota, .slice fa fn fc, .slice na nn nc0, .slice ka kn kc, .slice ma mn mc, .int .i64 D.next] 29)).alloc (.cells #[.int .i64 0, .slice none 0 0, .slice none 0 0, .slice none 0 0, .slice none 0 0, .int .i64 0] 29) = W0 := ⟨_, rfl⟩
  rw [hW0] at hx0 hbk hrk
  obtain ⟨⟨y0, y1, y2, y3, y4, y5⟩, _⟩ := cells_six hbk
  go_enter Try.func12, Try.ntmps12
  go_wp2_with fail
  refine (hri.out _ hx0).mono ?_
  rintro e w1 ⟨rfl, hx1⟩
  clear hW0 y0 y1 y2 y3 y4 y5
  have hX1 := hx0.trans hx1
  have hb1 := (hx1.block _ (lt_of_block hbk)).trans hbk
  have hr1 := (hx1.block _ (lt_of_block hrk)).trans hrk
  obtain ⟨⟨y0, y1, y2, y3, y4, y5⟩, _⟩ := cells_six hb1
  go_wp2_with fail
  refine (hse.out _ hX1).mono ?_
  rintro e w2 ⟨⟨fa2, fn2, fc2, fm2, na2, nn2, nc2, ka2, kn2, kc2, ma2, mn2, mc2⟩, rfl, hO2, _, hx2⟩
  dsimp only
  have hX2 := hX1.trans hx2
  have hr2 := (hx2.block _ (lt_of_block hr1)).trans hr1
  have hO2h := Lib.hid hO2
  clear hO2 y0 y1 y2 y3 y4 y5
  obtain ⟨⟨s0, s1, s2, s3, s4, s5⟩, ⟨g0, g1, g2, g3, g4, g5⟩⟩ := cells_six hr2
  have hlr2 := lt_of_block hr2
  have hqq : (settleD D D.names).quota = D.quota := rfl
  have hnn : (settleD D D.names).next = D.next := rfl
  go_wp2_with fail
  have hwq : put6 w2 (w.heap.size + 1) (.int .i64 D.quota) (.slice fa2 fn2 fc2) (.slice na2 nn2 nc2) (.slice ka2 kn2 kc2) (.slice ma2 mn2 mc2) (.int .i64 D.next) = ((((((w2.setCell ⟨w.heap.size + 1, 0, none⟩ (.int .i64 D.quota)).setCell ⟨w.heap.size + 1, 1, none⟩ (.slice fa2 fn2 fc2)).setCell ⟨w.heap.size + 1, 2, none⟩ (.slice na2 nn2 nc2)).setCell ⟨w.heap.size + 1, 3, none⟩ (.slice ka2 kn2 kc2)).setCell ⟨w.heap.size + 1, 4, none⟩ (.slice ma2 mn2 mc2)).setCell ⟨w.heap.size + 1, 5, none⟩ (.int .i64 D.next)) := rfl
  have hgq := put6_grownBy w2 (w.heap.size + 1) (.int .i64 D.quota) (.slice fa2 fn2 fc2) (.slice na2 nn2 nc2) (.slice ka2 kn2 kc2) (.slice ma2 mn2 mc2) (.int .i64 D.next)
  have hhq := put6_block hr2 (.int .i64 D.quota) (.slice fa2 fn2 fc2) (.slice na2 nn2 nc2) (.slice ka2 kn2 kc2) (.slice ma2 mn2 mc2) (.int .i64 D.next)
  rw [← hwq]
  obtain ⟨wq, hwqe⟩ : ∃ wq, put6 w2 (w.heap.size + 1) (.int .i64 D.quota) (.slice fa2 fn2 fc2) (.slice na2 nn2 nc2) (.slice ka2 kn2 kc2) (.slice ma2 mn2 mc2) (.int .i64 D.next) = wq := ⟨_, rfl⟩
  rw [hwqe] at hgq hhq ⊢
  obtain ⟨⟨q0, q1, q2, q3, q4, q5⟩, _⟩ := cells_six hhq
  refine bodyPost_ret (v := .tuple #[.agg #[.int .i64 D.quota, .slice fa2 fn2 fc2, .slice na2 nn2 nc2, .slice ka2 kn2 kc2, .slice ma2 mn2 mc2, .int .i64 D.next], .int .i64 0]) (by simp [results, Try.results12, go_sem, q0, q1, q2, q3, q4, q5]) rfl ?_
  have hXq := hX2.grown hgq (fun k e => by cases e; omega)
  exact ⟨⟨fa2, fn2, fc2, fm2, na2, nn2, nc2, ka2, kn2, kc2, ma2, mn2, mc2⟩, rfl, hO2h.out.beside hr2 hgq (by decide) (by decide) (by decide) (by decide), hXq⟩
end Go.Proofs.Ytponbponacdhkaa
