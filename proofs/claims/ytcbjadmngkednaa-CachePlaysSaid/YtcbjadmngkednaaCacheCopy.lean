/-
  Layer 20's contracts: the document's Copy.
-/
import Derived.Test.YtcbjadmngkednaaCacheOwn
namespace Go.Proofs.Ytcbjadmngkednaa
open Go.RowKit

set_option maxRecDepth 100000 in
set_option maxHeartbeats 3200000 in
theorem rcopy_calls (m : Int) (a : Option Addr) (n c : Nat) (came dropped : Int) (M : List Wh) (w : World) (hb : Ws w a n c M) (hn : n ≤ 100000) (hs : cnt (ws M) ≤ 100000) :
    Calls Try.prog 10 #[cav m a n c came dropped] w fun e w' => ∃ a2 c2 M2, e = .returned (cav m a2 n c2 came dropped) ∧ ws M2 = ws M ∧ ORow wc 2 w' w.heap.size 59 (.slice a2 n c2) M2 ∧ Wo w' w.heap.size M2 ∧ Ext w w' := by
  have hlen := Lib.hid hb.len
  have hx := Ext.alloc w (.cells #[.int .i64 m, .slice a n c, .int .i64 came, .int .i64 dropped] 24)
  unfold cav
  go_enter Try.func10, Try.ntmps10
  go_wp2
  obtain ⟨W0, hW0⟩ : ∃ W0, ((w.alloc (.cells #[.int .i64 m, .slice a n c, .int .i64 came, .int .i64 dropped] 24)).alloc (.cells #[.int .i64 0, .slice none 0 0, .int .i64 0, .int .i64 0] 24)).alloc (.cells #[.int .i64 m, .slice none 0 0, .int .i64 came, .int .i64 dropped] 24) = W0 := ⟨_, rfl⟩
  have hx0 : Ext w W0 := by rw [← hW0]; exact (hx.trans (Ext.alloc _ _)).trans (Ext.alloc _ _)
  have hx1 : Ext (w.alloc (.cells #[.int .i64 m, .slice a n c, .int .i64 came, .int .i64 dropped] 24)) W0 := by rw [← hW0]; exact (Ext.alloc _ _).trans (Ext.alloc _ _)
  have k0 := box4 hx1
  have r0 : W0.heap[w.heap.size + 1]? = some (.cells #[.int .i64 0, .slice none 0 0, .int .i64 0, .int .i64 0] 24 (0, 0)) := by
    rw [← hW0]
    refine ((Ext.alloc _ _).block _ (by simp)).trans ?_
    have := heap_alloc_new (w.alloc (.cells #[.int .i64 m, .slice a n c, .int .i64 came, .int .i64 dropped] 24)) (.cells #[.int .i64 0, .slice none 0 0, .int .i64 0, .int .i64 0] 24)
    simpa using this
  have b0 : W0.heap[w.heap.size + 1 + 1]? = some (.cells #[.int .i64 m, .slice none 0 0, .int .i64 came, .int .i64 dropped] 24 (0, 0)) := by
    rw [← hW0]
    have := heap_alloc_new ((w.alloc (.cells #[.int .i64 m, .slice a n c, .int .i64 came, .int .i64 dropped] 24)).alloc (.cells #[.int .i64 0, .slice none 0 0, .int .i64 0, .int .i64 0] 24)) (.cells #[.int .i64 m, .slice none 0 0, .int .i64 came, .int .i64 dropped] 24)
    simpa using this
  have hsz : W0.heap.size = w.heap.size + 3 := by rw [← hW0]; simp
  rw [hW0]
  clear hW0 hx1 hx
  have hszh := Lib.hid hsz
  clear hsz
  obtain ⟨B, hB⟩ : ∃ B, w.heap.size = B := ⟨_, rfl⟩
  rw [hB] at k0 r0 b0 hszh ⊢
  have hBh := Lib.hid hB
  clear hB
  go_loopw [4] (fun vi wr => ∃ (k : Nat) (M2 : List Wh) (a2 : Option Addr) (c2 : Nat), k ≤ n ∧ vi = .int .i64 k ∧ Hid (ws M2 = (ws M).take k) ∧ Hid (M2.length = k) ∧ wr.heap[B + 1 + 1]? = some (.cells #[.int .i64 m, .slice a2 k c2, .int .i64 came, .int .i64 dropped] 24 (0, 0)) ∧ wr.heap[B + 1]? = some (.cells #[.int .i64 0, .slice none 0 0, .int .i64 0, .int .i64 0] 24 (0, 0)) ∧
      (wr.cell? ⟨B, 0, none⟩ = some (.int .i64 m) ∧ wr.cell? ⟨B, 1, none⟩ = some (.slice a n c) ∧ wr.cell? ⟨B, 2, none⟩ = some (.int .i64 came) ∧ wr.cell? ⟨B, 3, none⟩ = some (.int .i64 dropped)) ∧ Hid (ORow wc 2 wr (B + 3) 59 (.slice a2 k c2) M2) ∧ Hid (Wo wr (B + 3) M2) ∧ Ext w wr ∧ B + 3 ≤ wr.heap.size) (fun vi _ => n - (intOf vi).toNat)
  case atStart => exact ⟨0, [], none, 0, Nat.zero_le _, rfl, rfl, rfl, b0, r0, k0, World.ownsRow_nil _ _ _ _, Wo.nil _ _, hx0, by have := hszh.out; omega⟩
  case round =>
    obtain ⟨k, M2, a2, c2, hk, rfl, hM2, hM2l, hb2, hr2, ⟨y0, y1, y2, y3⟩, hown, hwo, hX, hszr⟩ := hrel
    clear k0 r0 b0 hx0
    have z1 : wr.cell? ⟨B + 1 + 1, 1, none⟩ = some (.slice a2 k c2) := by simp [World.cell?, hb2]
    by_cases hlt : k < n
    · obtain ⟨b, o, rfl, hc⟩ := hb.at (by omega)
      have hkM : k < M.length := by rw [hlen.out]; exact hlt
      obtain ⟨d0, d1⟩ := hc k hkM
      replace d0 := hX.cell d0
      replace d1 := hX.cell d1
      have hak := (hb.2 M[k] (List.getElem_mem hkM)).ext hX
      have hsn : Hid ((ws M).take (k + 1) = (ws M).take k ++ [M[k].1]) := by
        show _ = _
        rw [List.take_succ_eq_append_getElem (by unfold ws; rw [List.length_map]; exact hkM)]; simp [ws]
      have hctk := cnt_take_succ M k hkM
      have hctl := cnt_take_le M (k + 1)
      obtain ⟨⟨⟨pp, pts⟩, pa, pn, pc⟩, hxe⟩ : ∃ x, M[k] = x := ⟨_, rfl⟩
      rw [hxe] at d0 d1 hak hsn hctk
      dsimp only at d0 d1 hak hctk
      have hpn := Lib.hid (As.len hak)
      have hpnb : pn ≤ 100000 := by have := hpn.out; omega
      clear hctk hctl hxe hc
      have hwo2 := hwo
      obtain ⟨wo, hwoe⟩ : ∃ wo : World, wr = wo := ⟨_, rfl⟩
      rw [hwoe] at hb2 hr2 y0 y1 y2 y3 hown hwo hX hszr z1 d0 d1 hak ⊢
      clear hwoe hwo2
      go_upto_region 6 with fail
      have hl1 := World.block_lt_of_cell? wo _ y1
      have hl2 := World.block_lt_of_cell? wo _ d0
      have hl3 := World.block_lt_of_cell? wo _ z1
      obtain ⟨X, iX, f, hxS0, hSx0⟩ := letters (fun w' => Ext wo w') wo (Ext.refl wo)
      have hxS := Lib.hid hxS0
      have hSx := Lib.hid hSx0
      clear hxS0 hSx0
      have e1 : ∀ x, (f x).cell? ⟨B, 1, none⟩ = some (.slice (some ⟨b, o, none⟩) n c) := fun x => (hxS.out x).cell y1
      have e2 : ∀ x, (f x).cell? ⟨B + 1 + 1, 1, none⟩ = some (.slice a2 k c2) := fun x => (hxS.out x).cell z1
      have e3 : ∀ x, (f x).cell? ⟨b, o + k * 2, none⟩ = some (.string ⟨pp.toArray⟩) := fun x => (hxS.out x).cell d0
      have e4 : ∀ x, (f x).cell? ⟨b, o + k * 2 + 1, none⟩ = some (.slice pa pn pc) := fun x => (hxS.out x).cell d1
      refine region_plan 18 [.quiet [0, 1, 2, 3, 4, 5, 6, 7, 9, 10, 11, 12, 13, 14], .act 8, .act 15, .quiet [16], .act 17] (fun w' => ∃ x : X, w' = f x) (by kernel_rfl) (by kernel_rfl) (hSx.out _ (Ext.drewN wo 1)) ?_
      intro Q1 hQ1
      refine plan_quiet ?_
      simp only [sel, List.getElem?_toArray, List.getElem?_cons_zero, List.getElem?_cons_succ]
      repeat (go_big_quiet_step (fail))
      refine wpQuiet_nil ?_
      refine plan_act ?_
      intro Q2 hQ2
      simp only [sel, List.getElem?_toArray, List.getElem?_cons_zero, List.getElem?_cons_succ]
      go_wp2_with fail
      have hXA := (Ext.alloc wo (.cells #[] 50)).trans (Ext.drewN _ 1)
      have hownA := Lib.hid (owns_ext (owns_made wo 50 4) (Ext.drewN _ 1))
      have hsrc := Lib.hid (hak.ext hXA)
      refine hQ2 _ _ (hSx.out _ hXA) ?_
      refine plan_act ?_
      intro Q3 hQ3
      simp only [sel, List.getElem?_toArray, List.getElem?_cons_zero, List.getElem?_cons_succ]
      have hz1 : Hid ((0 + pn) * 32 ≤ 140737488355328) := by show _ ≤ _; omega
      have hz2 : Hid (0 + pn ≤ maxLen) := by show _ ≤ _; unfold maxLen; omega
      have hz3 : Hid (wo.heap.size ≤ (World.drew (wo.alloc (.cells #[] 50))).heap.size) := by show _ ≤ _; simp [World.drew]
      go_wp2_with (at_builtin; refine wpList_append_sl rfl _ _ 46 rfl wo.heap.size 50 Try.underlying46 infoAr rfl (by decide) _ _ _ rfl hownA.out _ _ _ (rcells ac pts) rfl hsrc.out (ac_one pts) hz1.out hz2.out hz3.out ?_; intro v5 w5 hown5 hgrow5)
      have hX5 := Lib.hid (hXA.grown hgrow5 (fun k e => owns_row hownA.out k e))
      rw [Nat.zero_add, List.nil_append, ← hpn.out] at hown5
      obtain ⟨a5, c5, rfl, hr5⟩ := ORow.row hown5
      have hown5h := Lib.hid hown5
      clear hgrow5 hownA hsrc hz1 hz2 hz3 hown5 hr5 hXA
      refine hQ3 _ _ (hSx.out _ hX5.out) ?_
      refine plan_quiet ?_
      simp only [sel, List.getElem?_toArray, List.getElem?_cons_zero, List.getElem?_cons_succ]
      repeat (go_big_quiet_step (fail))
      refine wpQuiet_nil ?_
      refine plan_act ?_
      intro Q4 hQ4
      simp only [sel, List.getElem?_toArray, List.getElem?_cons_zero, List.getElem?_cons_succ]
      go_wp2_with fail
      have hX7 := Lib.hid (hX5.out.trans (Ext.alloc w5 (.cells #[.string ⟨pp.toArray⟩, .slice a5 pts.length c5] 59)))
      refine hQ4 _ _ (hSx.out _ hX7.out) ?_
      refine plan_tail ?_
      simp only [List.drop_succ_cons, List.drop_zero]
      have hownR := Lib.hid (ORow.ext hown.out hX7.out)
      have hsrc7 : Hid (Sl (w5.alloc (.cells #[.string ⟨pp.toArray⟩, .slice a5 pts.length c5] 59)) (some ⟨w5.heap.size, 0, none⟩) 1 1 2 (wc ((pp, pts), (a5, pts.length, c5)))) := sl_block (heap_alloc_new _ _) rfl (by decide)
      have hz1 : Hid ((M2.length + 1) * 40 ≤ 140737488355328) := by show _ ≤ _; rw [hM2l.out]; omega
      have hz2 : Hid (M2.length + 1 ≤ maxLen) := by show _ ≤ _; rw [hM2l.out]; unfold maxLen; omega
      have hz3 : Hid (B + 3 ≤ (w5.alloc (.cells #[.string ⟨pp.toArray⟩, .slice a5 pts.length c5] 59)).heap.size) := Nat.le_trans hszr hX7.out.size
      have hb7 := Lib.hid ((hX7.out.block _ (lt_of_block hb2)).trans hb2)
      have hr7 := Lib.hid ((hX7.out.block _ (lt_of_block hr2)).trans hr2)
      go_wp2_with (at_builtin; refine wpList_append_sl rfl _ _ 22 rfl (B + 3) 59 Try.underlying22 infoWt rfl (by decide) _ _ _ rfl hownR.out _ _ _ _ rfl hsrc7.out (wc_one1 _) hz1.out hz2.out hz3.out ?_; intro v7 w7 hown7 hgrow7; obtain ⟨a7, c7, hv7, _⟩ := Sl.of_owns hown7; subst hv7; have hb8 := block_beside hownR.out hgrow7 hb7.out (by decide); have g7 : w7.cell? ⟨B + 1 + 1, 1, none⟩ = some (.slice a2 k c2) := (by simp [World.cell?, hb8]); have f7 : w7.frozen? ⟨B + 1 + 1, 1, none⟩ = false := (by simp [World.frozen?, hb8]))
      have hX8 := Lib.hid ((hX.trans hX7.out).grown hgrow7 (fun k e => Nat.le_trans (by have := hBh.out; omega) (owns_row hownR.out k e)))
      have hr8 := block_beside hownR.out hgrow7 hr7.out (by decide)
      have hown8 : Hid (ORow wc 2 w7 (B + 3) 59 (.slice a7 (M2.length + 1) c7) (M2 ++ [((pp, pts), (a5, pts.length, c5))])) := by
        show _
        unfold ORow
        rw [rcells_append, rcells_one, List.length_append]
        exact hown7
      have hwo7 := Lib.hid (Wo.grown (Wo.snoc hwo.out ((hwo.out).ext hX7.out) (x := ((pp, pts), (a5, pts.length, c5))) (owns_ext hown5h.out (Ext.alloc _ _)) hszr) hownR.out (by decide) hgrow7)
      have hsz8 : B + 3 ≤ w7.heap.size := Nat.le_trans hz3.out hgrow7.size
      have hy8 := Lib.hid (fun j v (hj : wo.cell? ⟨B, j, none⟩ = some v) => (World.cell?_of_block (a := ⟨B, j, none⟩) (hgrow7.block B (Nat.lt_of_lt_of_le (World.block_lt_of_cell? wo _ y1) hX7.out.size) (fun e => by have := owns_row hownR.out B e.symm; omega))).trans (hX7.out.cell hj))
      clear hown7 hgrow7 hownR hsrc7 hz1 hz2 hz3 hb7 hr7
      have hm1 := hM2l.out
      refine ⟨⟨k + 1, M2 ++ [((pp, pts), (a5, pts.length, c5))], a7, c7, by omega, by go_num, ?_, ?_, ?_, ?_, ?_, ?_, ?_, ?_, ?_⟩, by simp [intOf]; omega⟩
      · show _ = _
        rw [hsn.out, ← hM2.out]
        simp [ws]
      · show _ = _
        simp [hm1]
      · have := at_setCell hb8 1 (.slice a7 (M2.length + 1) c7)
        rw [hm1] at this ⊢
        simpa using this
      · exact ((put_grownBy w7 (B + 1 + 1) 1 _).block _ (lt_of_block hr8) (by simp)).trans hr8
      · have hne : ∀ j v, wo.cell? ⟨B, j, none⟩ = some v → (w7.setCell ⟨B + 1 + 1, 1, none⟩ (.slice a7 (M2.length + 1) c7)).cell? ⟨B, j, none⟩ = some v := fun j v hj =>
          (World.cell?_of_block (a := ⟨B, j, none⟩) ((put_grownBy w7 (B + 1 + 1) 1 _).block B (by omega) (by simp; omega))).trans (hy8.out j v hj)
        exact ⟨hne 0 _ y0, hne 1 _ y1, hne 2 _ y2, hne 3 _ y3⟩
      · have := owns_put hown8.out (owns_other hown8.out hb8 (by decide)) 1 (.slice a7 (M2.length + 1) c7)
        rw [hm1] at this ⊢
        exact this
      · exact Wo.put hwo7.out hb8 (by decide) 1 _
      · exact Below.setCell (p := ⟨B + 1 + 1, 1, none⟩) hX8.out (by show w.heap.size ≤ B + 1 + 1; have := hBh.out; omega) _
      · have := (put_grownBy w7 (B + 1 + 1) 1 (.slice a7 (M2.length + 1) c7)).size; omega
    · obtain rfl : n = k := by omega
      have z0 : wr.cell? ⟨B + 1 + 1, 0, none⟩ = some (.int .i64 m) := by simp [World.cell?, hb2]
      have z2 : wr.cell? ⟨B + 1 + 1, 2, none⟩ = some (.int .i64 came) := by simp [World.cell?, hb2]
      have z3 : wr.cell? ⟨B + 1 + 1, 3, none⟩ = some (.int .i64 dropped) := by simp [World.cell?, hb2]
      have t0 : wr.cell? ⟨B + 1, 0, none⟩ = some (.int .i64 0) := by simp [World.cell?, hr2]
      have t1 : wr.cell? ⟨B + 1, 1, none⟩ = some (.slice none 0 0) := by simp [World.cell?, hr2]
      have t2 : wr.cell? ⟨B + 1, 2, none⟩ = some (.int .i64 0) := by simp [World.cell?, hr2]
      have t3 : wr.cell? ⟨B + 1, 3, none⟩ = some (.int .i64 0) := by simp [World.cell?, hr2]
      have u0 : wr.frozen? ⟨B + 1, 0, none⟩ = false := by simp [World.frozen?, hr2]
      have u1 : wr.frozen? ⟨B + 1, 1, none⟩ = false := by simp [World.frozen?, hr2]
      have u2 : wr.frozen? ⟨B + 1, 2, none⟩ = false := by simp [World.frozen?, hr2]
      have u3 : wr.frozen? ⟨B + 1, 3, none⟩ = false := by simp [World.frozen?, hr2]
      go_wp2_with fail
      have hw9 : put4 wr (B + 1) (.int .i64 m) (.slice a2 n c2) (.int .i64 came) (.int .i64 dropped) = (((wr.setCell ⟨B + 1, 0, none⟩ (.int .i64 m)).setCell ⟨B + 1, 1, none⟩ (.slice a2 n c2)).setCell ⟨B + 1, 2, none⟩ (.int .i64 came)).setCell ⟨B + 1, 3, none⟩ (.int .i64 dropped) := rfl
      have hg9 := put4_grownBy wr (B + 1) (.int .i64 m) (.slice a2 n c2) (.int .i64 came) (.int .i64 dropped)
      have hh9 := put4_block hr2 (.int .i64 m) (.slice a2 n c2) (.int .i64 came) (.int .i64 dropped)
      have hown9 := owns_beside hown.out (owns_other hown.out hr2 (by decide)) hg9
      have hwo9 := Wo.beside hwo.out hr2 (by decide) hg9
      have hX9 := hX.grown hg9 (fun k e => by cases e; have := hBh.out; omega)
      rw [← hw9]
      obtain ⟨w9, hw9e⟩ : ∃ w9, put4 wr (B + 1) (.int .i64 m) (.slice a2 n c2) (.int .i64 came) (.int .i64 dropped) = w9 := ⟨_, rfl⟩
      rw [hw9e] at hh9 hown9 hwo9 hX9 ⊢
      have q0 : w9.cell? ⟨B + 1, 0, none⟩ = some (.int .i64 m) := by simp [World.cell?, hh9]
      have q1 : w9.cell? ⟨B + 1, 1, none⟩ = some (.slice a2 n c2) := by simp [World.cell?, hh9]
      have q2 : w9.cell? ⟨B + 1, 2, none⟩ = some (.int .i64 came) := by simp [World.cell?, hh9]
      have q3 : w9.cell? ⟨B + 1, 3, none⟩ = some (.int .i64 dropped) := by simp [World.cell?, hh9]
      refine bodyPost_ret (v := .agg #[.int .i64 m, .slice a2 n c2, .int .i64 came, .int .i64 dropped]) (by simp [results, Try.results10, go_sem, q0, q1, q2, q3]) rfl ?_
      refine ⟨a2, c2, M2, rfl, ?_, owns_mono hown9 (by have := hBh.out; omega), hwo9.mono (by have := hBh.out; omega), hX9⟩
      rw [hM2.out, List.take_of_length_le (by unfold ws; rw [List.length_map, hlen.out]; exact Nat.le_refl _)]
end Go.Proofs.Ytcbjadmngkednaa
