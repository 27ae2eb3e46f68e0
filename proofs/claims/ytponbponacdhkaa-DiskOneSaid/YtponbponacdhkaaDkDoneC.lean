/-
  Layer 6's contracts: what comes of names by a move that can be done.
-/
import Derived.Test.YtponbponacdhkaaDkDone
import Derived.Deep.DeepCutAuto
namespace Go.Proofs.Ytponbponacdhkaa
open Go.RowKit

theorem vld_len {s : List UInt8} (h : vld s = true) : s.length ≤ 96 := by
  unfold vld at h
  simp only [Bool.and_eq_true, decide_eq_true_eq] at h
  exact h.2
set_option maxRecDepth 100000 in
set_option maxHeartbeats 3200000 in
theorem done_calls (a : Option Addr) (n c : Nat) (M M' : List Nm) (kind : Int) (name tn : List UInt8) (id : Int) (w : World) (hb : Ns w a n c M) (hr : Rising M) (hn : n ≤ 10000) (hd : doneN M ⟨kind, name, tn, id⟩ = some M') :
    Calls Try.prog 31 #[.slice a n c, .agg #[.int .i64 kind, .string ⟨name.toArray⟩, .string ⟨tn.toArray⟩, .int .i64 id]] w fun e w' => ∃ v, e = .returned (.tuple #[v, .bool true]) ∧ ORow nc 2 w' w.heap.size 81 v M' ∧ Ext w w' := by
  have hlen := Row.len nc_len (by decide) hb
  subst hlen
  have hx := Ext.alloc w (.cells #[.int .i64 kind, .string ⟨name.toArray⟩, .string ⟨tn.toArray⟩, .int .i64 id] 66)
  have hbx := heap_alloc_new w (.cells #[.int .i64 kind, .string ⟨name.toArray⟩, .string ⟨tn.toArray⟩, .int .i64 id] 66)
  obtain ⟨W, hW⟩ : ∃ W, w.alloc (.cells #[.int .i64 kind, .string ⟨name.toArray⟩, .string ⟨tn.toArray⟩, .int .i64 id] 66) = W := ⟨_, rfl⟩
  rw [hW] at hx hbx
  obtain ⟨⟨y0, y1, y2, y3⟩, _⟩ := cells_four hbx
  have hsz := hx.size
  have hp := Lib.hid (place_calls a M.length c M name W (hb.ext hx) hr (by omega))
  have hbh := Lib.hid hb
  have hrh := Lib.hid hr
  have hdh := Lib.hid hd
  have hvn : vld name = true := by
    unfold doneN at hd
    split at hd
    · cases hd
    · rename_i h
      simpa using h
  have hvl := vld_len hvn
  have hvc := Lib.hid (fun W' => valid_calls name W' (by omega))
  rw [hvn] at hvc
  have hvnh := Lib.hid hvn
  clear hd hb hr hvn
  go_enter Try.func31, Try.ntmps31
  go_wp2_with fail
  refine hp.out.mono ?_
  rintro e w1 ⟨i, b, rfl, hst, hiff, hx1⟩
  have hfi := findN_iff hrh.out hst
  rw [← hiff] at hfi
  have hsth := Lib.hid hst
  have hiffh := Lib.hid hiff
  have hfih := Lib.hid hfi
  clear hst hiff hfi hW
  replace hbx := (hx1.block _ (lt_of_block hbx)).trans hbx
  clear y0 y1 y2 y3
  obtain ⟨⟨y0, y1, y2, y3⟩, _⟩ := cells_four hbx
  have hX1 := hx.trans hx1
  go_wp2_with fail
  refine (hvc.out _).mono ?_
  rintro e w2 ⟨rfl, rfl⟩
  have hd := hdh.out
  unfold doneN at hd
  dsimp only at hd
  rw [hvnh.out] at hd
  simp only [Bool.true_eq_false, if_false] at hd
  by_cases hk1 : kind = 1
  · subst hk1
    rw [if_pos rfl] at hd
    split at hd
    · cases hd
    rename_i hno
    cases hd
    simp only [not_or, Bool.not_eq_true] at hno
    obtain ⟨g1, g2, g3⟩ := hno
    have hto : tn = [] := by simpa using g2
    subst hto
    have hbf : b = false := by
      cases b with
      | false => rfl
      | true => rw [hfih.out.2 rfl] at g1; cases g1
    subst hbf
    have had := Lib.hid (added_calls a M.length c M name id w2 (hbh.out.ext hX1) hrh.out hn)
    clear g1 g2
    go_wp2_with fail
    refine had.out.mono ?_
    rintro e w3 ⟨v, rfl, hown, hx3⟩
    go_wp2_with fail
    go_ret2
    exact ⟨_, rfl, owns_mono hown hX1.size, hX1.trans hx3⟩
  · rw [if_neg hk1] at hd
    by_cases hk2 : kind = 2
    · subst hk2
      rw [if_pos rfl] at hd
      split at hd
      · cases hd
      rename_i hno
      cases hd
      simp only [not_or] at hno
      obtain ⟨g1, g2, g3⟩ := hno
      have hto : tn = [] := by simpa using g2
      have hid0 : id = 0 := by simpa using g3
      subst hto hid0
      have hsome : (findN name M).isSome = true := by
        cases h : findN name M with
        | none => rw [h] at g1; exact absurd rfl g1
        | some x => rfl
      have hbt : b = true := hfih.out.1 hsome
      subst hbt
      have hsomeh := Lib.hid hsome
      have hdr := Lib.hid (dropped_calls a M.length c M name w2 (hbh.out.ext hX1) hrh.out hn)
      clear g1 g2 g3 hsome
      go_wp2_with fail
      refine hdr.out.mono ?_
      rintro e w3 ⟨a2, n2, c2, rfl, _, hown, _, hx3⟩
      go_wp2_with fail
      go_ret2
      exact ⟨_, rfl, owns_mono (hown hsomeh.out) hX1.size, hX1.trans hx3⟩
    · rw [if_neg hk2] at hd
      split at hd
      · rename_i hk3
        subst hk3
        split at hd
        · cases hd
        rename_i x hfx
        split at hd
        · cases hd
        rename_i hno
        cases hd
        simp only [not_or, Bool.not_eq_false] at hno
        obtain ⟨g1, g2, g3⟩ := hno
        have hid0 : id = 0 := by simpa using g3
        subst hid0
        have hbt : b = true := hfih.out.1 (by rw [hfx]; rfl)
        subst hbt
        obtain ⟨hiM, hiN⟩ := hiffh.out.1 rfl
        have hMx : M[i] = x := by
          have h1 := (stands_found M i hrh.out hsth.out hiM hiN).1
          rw [hfx] at h1
          cases h1
          rfl
        obtain ⟨b0, o0, ha0, hc0⟩ := Ns.at hbh.out (by omega)
        have d1 := hX1.cell (hc0 i hiM).2
        rw [hMx] at d1
        obtain ⟨xn, xi⟩ := x
        dsimp only at d1
        subst ha0
        have hvl2 := vld_len g1
        have hvc2 := Lib.hid (fun W' => valid_calls tn W' (by omega))
        rw [g1] at hvc2
        have hne : (tn == name) = false := by simpa using g2
        have hne2 : (tn.toArray == name.toArray) = false := by
          rw [beq_eq_false_iff_ne]
          intro e
          apply g2
          simpa using e
        have hne3 : ¬ tn = name := g2
        have hdr := Lib.hid (fun W' (h : Ext w2 W') => dropped_calls (some ⟨b0, o0, none⟩) M.length c M name W' (hbh.out.ext (hX1.trans h)) hrh.out hn)
        have hil : (i : Int) < (M.length : Int) := by omega
        have hNh := Lib.hid hiN
        clear g1 g2 g3 hfx hc0 hiN hMx
        have hblt := World.block_lt_of_cell? w2 _ d1
        go_wp2_with fail
        refine (hvc2.out _).mono ?_
        rintro e w4 ⟨rfl, rfl⟩
        go_upto_region 16 with fail
        obtain ⟨X, iX, f, hxS0, hSx0⟩ := letters (fun w' => Ext w4 w') w4 (Ext.refl w4)
        have hxS := Lib.hid hxS0
        have hSx := Lib.hid hSx0
        clear hxS0 hSx0
        have u1 : ∀ x', (f x').cell? ⟨w.heap.size, 1, none⟩ = some (.string ⟨name.toArray⟩) := fun x' => (hxS.out x').cell y1
        have u2 : ∀ x', (f x').cell? ⟨w.heap.size, 2, none⟩ = some (.string ⟨tn.toArray⟩) := fun x' => (hxS.out x').cell y2
        have u3 : ∀ x', (f x').cell? ⟨b0, o0 + i * 2 + 1, none⟩ = some (.int .i64 xi) := fun x' => (hxS.out x').cell d1
        clear y0 y1 y2 y3 d1
        refine region_plan 15 [.quiet [0, 1, 2, 4, 5, 7, 8, 9, 10, 11, 12, 13], .act 3, .act 6, .act 14] (fun w' => ∃ x' : X, w' = f x') (by kernel_rfl) (by kernel_rfl) (hSx.out _ (Ext.drewN w4 1)) ?_
        intro Q1 hQ1
        refine plan_quiet ?_
        simp only [sel, List.getElem?_toArray, List.getElem?_cons_zero, List.getElem?_cons_succ]
        repeat (go_big_quiet_step (fail))
        refine wpQuiet_nil ?_
        refine plan_act ?_
        intro Q2 hQ2
        simp only [sel, List.getElem?_toArray, List.getElem?_cons_zero, List.getElem?_cons_succ]
        go_wp2_with fail
        refine (hdr.out _ (Ext.drewN w4 1)).mono ?_
        rintro e z1 ⟨a2, n2, c2, rfl, hr2, _, hn2, hz1⟩
        have hZ1 := (Ext.drewN w4 1).trans hz1
        have hr2h := Lib.hid hr2
        clear hr2
        go_wp2_with fail
        refine hQ2 _ _ (hSx.out _ hZ1) ?_
        refine plan_act ?_
        intro Q3 hQ3
        simp only [sel, List.getElem?_toArray, List.getElem?_cons_zero, List.getElem?_cons_succ]
        have hdr2 := Lib.hid (dropped_calls a2 n2 c2 (dropN name M) tn z1 hr2h.out (rising_drop hrh.out) (by omega))
        go_wp2_with fail
        refine hdr2.out.mono ?_
        rintro e z2 ⟨a3, n3, c3, rfl, hr3, _, hn3, hz2⟩
        have hZ2 := hZ1.trans hz2
        have hr3h := Lib.hid hr3
        clear hr3
        go_wp2_with fail
        refine hQ3 _ _ (hSx.out _ hZ2) ?_
        refine plan_act ?_
        intro Q4 hQ4
        simp only [sel, List.getElem?_toArray, List.getElem?_cons_zero, List.getElem?_cons_succ]
        have had := Lib.hid (added_calls a3 n3 c3 (dropN tn (dropN name M)) tn xi z2 hr3h.out (rising_drop (rising_drop hrh.out)) (by omega))
        go_wp2_with fail
        refine had.out.mono ?_
        rintro e z3 ⟨v, rfl, hown, hz3⟩
        have hZ3 := hZ2.trans hz3
        have hownh := Lib.hid hown
        clear hown
        go_wp2_with fail
        refine hQ4 _ _ (hSx.out _ hZ3) ?_
        refine plan_tail ?_
        simp only [List.drop_succ_cons, List.drop_zero]
        go_wp2_with fail
        go_ret2
        exact ⟨_, rfl, owns_mono hownh.out (hX1.trans hZ2).size, hX1.trans hZ3⟩
      · cases hd
end Go.Proofs.Ytponbponacdhkaa
