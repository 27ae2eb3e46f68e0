/-
  Layer 20's contracts: the document's Take.
-/
import Derived.Test.YtcbjadmngkednaaCacheRof
import Derived.Test.YtcbjadmngkednaaCacheCopy
namespace Go.Proofs.Ytcbjadmngkednaa
open Go.RowKit

theorem filter_snoc (s : List UInt8) {L : List Wt} {k : Nat} (hk : k < L.length) : ((L.take (k + 1)).filter fun x => x.1 != s) = ((L.take k).filter fun x => x.1 != s) ++ (if L[k].1 = s then [] else [L[k]]) := by
  rw [List.take_succ_eq_append_getElem hk, List.filter_append]
  congr 1
  by_cases h : L[k].1 = s
  · rw [if_pos h, List.filter_cons, show (L[k].1 != s) = false by simp [h]]; rfl
  · rw [if_neg h, List.filter_cons, show (L[k].1 != s) = true by simp [h]]; rfl
set_option maxRecDepth 100000 in
set_option maxHeartbeats 3200000 in
theorem rtake_calls (m : Int) (a : Option Addr) (n c : Nat) (came dropped : Int) (M : List Wh) (s : List UInt8) (w : World) (hb : Cw w a n c M) :
    Calls Try.prog 21 #[cav m a n c came dropped, .string ⟨s.toArray⟩] w fun e w' => ∃ a2 n2 c2 M2 pa pn pc, e = .returned (.tuple #[cav m a2 n2 c2 came dropped, .slice pa pn pc, .int .i64 (takeC ⟨m, ws M, came, dropped⟩ s).2]) ∧
      Ws w' a2 n2 c2 M2 ∧ ws M2 = (takeC ⟨m, ws M, came, dropped⟩ s).1.1.waits ∧ As w' pa pn pc (takeC ⟨m, ws M, came, dropped⟩ s).1.2 ∧ Ext w w' := by
  have hlen := Lib.hid hb.rd.len
  have hwl := Lib.hid (show (ws M).length = n by unfold ws; rw [List.length_map]; exact hb.rd.len)
  have hnb := hb.len
  have hx : Ext w ((w.alloc (.cells #[.int .i64 m, .slice a n c, .int .i64 came, .int .i64 dropped] 24)).alloc (.cells #[.int .i64 0, .slice none 0 0, .int .i64 0, .int .i64 0] 24)) := (Ext.alloc w _).trans (Ext.alloc _ _)
  have hr := (hb.ext hx).rright (m := m) (came := came) (dropped := dropped)
  have hof := fun W (h : Ext w W) => rof_calls m a n c came dropped M s W (hb.ext h)
  obtain ⟨r, hrr⟩ : ∃ r, crtC ⟨m, ws M, came, dropped⟩ = r := ⟨_, rfl⟩
  obtain ⟨R, hR⟩ : ∃ R, takeC ⟨m, ws M, came, dropped⟩ s = R := ⟨_, rfl⟩
  rw [hR]
  unfold takeC at hR
  rw [hrr] at hr hR
  obtain ⟨l, hl⟩ : ∃ l, ofC ⟨m, ws M, came, dropped⟩ s = l := ⟨_, rfl⟩
  rw [hl] at hof
  unfold ofC at hl
  have hrh := Lib.hid hr
  have hRh := Lib.hid hR
  have hofh := Lib.hid hof
  have hlh := Lib.hid hl
  clear hr hR hof hl
  cases r with
  | false =>
    have h9 := hRh.out
    rw [if_pos (by simp)] at h9
    subst h9
    clear hrr
    unfold cav at *
    go_enter Try.func21, Try.ntmps21
    go_wp2_with fail
    refine hrh.out.mono ?_
    rintro e w1 ⟨rfl, hx1⟩
    obtain ⟨hbox, hres⟩ := two_blocks hx1
    have hX := hx.trans hx1
    obtain ⟨⟨y0, y1, y2, y3⟩, _⟩ := cells_four hbox
    obtain ⟨⟨z0, z1, z2, z3⟩, ⟨f0, f1, f2, f3⟩⟩ := cells_four hres
    go_wp2_with fail
    have hw9 : put4 w1 (w.heap.size + 1) (.int .i64 m) (.slice a n c) (.int .i64 came) (.int .i64 dropped) = (((w1.setCell ⟨w.heap.size + 1, 0, none⟩ (.int .i64 m)).setCell ⟨w.heap.size + 1, 1, none⟩ (.slice a n c)).setCell ⟨w.heap.size + 1, 2, none⟩ (.int .i64 came)).setCell ⟨w.heap.size + 1, 3, none⟩ (.int .i64 dropped) := rfl
    have hg9 := put4_grownBy w1 (w.heap.size + 1) (.int .i64 m) (.slice a n c) (.int .i64 came) (.int .i64 dropped)
    have hh9 := put4_block hres (.int .i64 m) (.slice a n c) (.int .i64 came) (.int .i64 dropped)
    rw [← hw9]
    obtain ⟨w9, hw9e⟩ : ∃ w9, put4 w1 (w.heap.size + 1) (.int .i64 m) (.slice a n c) (.int .i64 came) (.int .i64 dropped) = w9 := ⟨_, rfl⟩
    rw [hw9e] at hg9 hh9 ⊢
    obtain ⟨⟨q0, q1, q2, q3⟩, _⟩ := cells_four hh9
    refine bodyPost_ret (v := .tuple #[.agg #[.int .i64 m, .slice a n c, .int .i64 came, .int .i64 dropped], .slice none 0 0, .int .i64 1]) (by simp [results, Try.results21, go_sem, q0, q1, q2, q3]) rfl ?_
    have hX9 := hX.grown hg9 (fun k e => by cases e; omega)
    exact ⟨_, _, _, M, none, 0, 0, rfl, hb.rd.ext hX9, rfl, Row.nil _ _ _, hX9⟩
  | true =>
    have hgood := crt_good hrr
    have hcph := Lib.hid (fun W (h : Ext w W) => rcopy_calls m a n c came dropped M W (hb.rd.ext h) (by omega) (by have := hb.tot; omega))
    have hrrh := Lib.hid hrr
    clear hrr
    unfold cav at *
    go_enter Try.func21, Try.ntmps21
    go_wp2_with fail
    refine hrh.out.mono ?_
    rintro e w1 ⟨rfl, hx1⟩
    obtain ⟨hbox, hres⟩ := two_blocks hx1
    have hX := hx.trans hx1
    obtain ⟨⟨y0, y1, y2, y3⟩, _⟩ := cells_four hbox
    go_wp2_with fail
    refine (hofh.out _ hX).mono ?_
    rintro e w2 ⟨pa, pc, rfl, hpa, hx2⟩
    obtain ⟨pn, hpnl⟩ : ∃ pn, l.length = pn := ⟨_, rfl⟩
    have hpl := Lib.hid hpnl
    rw [hpnl] at hpa ⊢
    clear hpnl
    replace hbox := (hx2.block _ (lt_of_block hbox)).trans hbox
    replace hres := (hx2.block _ (lt_of_block hres)).trans hres
    clear y0 y1 y2 y3
    obtain ⟨⟨y0, y1, y2, y3⟩, _⟩ := cells_four hbox
    have hX2 := hX.trans hx2
    have hpah := Lib.hid hpa
    clear hpa
    by_cases hp0 : pn = 0
    · subst hp0
      have hle : l = [] := List.eq_nil_of_length_eq_zero hpl.out
      have hfn : findW s (ws M) = none := by
        have h8 := hlh.out
        rw [if_neg (by rw [hrrh.out]; simp), hle] at h8
        cases hf : findW s (ws M) with
        | none => rfl
        | some x =>
          rw [hf] at h8
          obtain ⟨hm, _⟩ := findW_some hf
          exact absurd h8 (hgood.named x hm).2
      have h9 := hRh.out
      rw [if_neg (by simp), hfn] at h9
      subst h9
      clear hle hfn
      obtain ⟨⟨z0, z1, z2, z3⟩, ⟨f0, f1, f2, f3⟩⟩ := cells_four hres
      go_wp2_with fail
      have hw9 : put4 w2 (w.heap.size + 1) (.int .i64 m) (.slice a n c) (.int .i64 came) (.int .i64 dropped) = (((w2.setCell ⟨w.heap.size + 1, 0, none⟩ (.int .i64 m)).setCell ⟨w.heap.size + 1, 1, none⟩ (.slice a n c)).setCell ⟨w.heap.size + 1, 2, none⟩ (.int .i64 came)).setCell ⟨w.heap.size + 1, 3, none⟩ (.int .i64 dropped) := rfl
      have hg9 := put4_grownBy w2 (w.heap.size + 1) (.int .i64 m) (.slice a n c) (.int .i64 came) (.int .i64 dropped)
      have hh9 := put4_block hres (.int .i64 m) (.slice a n c) (.int .i64 came) (.int .i64 dropped)
      rw [← hw9]
      obtain ⟨w9, hw9e⟩ : ∃ w9, put4 w2 (w.heap.size + 1) (.int .i64 m) (.slice a n c) (.int .i64 came) (.int .i64 dropped) = w9 := ⟨_, rfl⟩
      rw [hw9e] at hg9 hh9 ⊢
      obtain ⟨⟨q0, q1, q2, q3⟩, _⟩ := cells_four hh9
      refine bodyPost_ret (v := .tuple #[.agg #[.int .i64 m, .slice a n c, .int .i64 came, .int .i64 dropped], .slice none 0 0, .int .i64 15]) (by simp [results, Try.results21, go_sem, q0, q1, q2, q3]) rfl ?_
      have hX9 := hX2.grown hg9 (fun k e => by cases e; omega)
      exact ⟨_, _, _, M, none, 0, 0, rfl, hb.rd.ext hX9, rfl, Row.nil _ _ _, hX9⟩
    · have hp1 : ((pn : Int) == 0) = false := by rw [beq_eq_false_iff_ne]; omega
      obtain ⟨x, hfx, hxl⟩ : ∃ x, findW s (ws M) = some x ∧ x.2 = l := by
        have h8 := hlh.out
        rw [if_neg (by rw [hrrh.out]; simp)] at h8
        cases hf : findW s (ws M) with
        | none => rw [hf] at h8; dsimp only at h8; rw [← hpl.out, ← h8] at hp0; exact absurd rfl hp0
        | some x => rw [hf] at h8; exact ⟨x, rfl, h8⟩
      have h9 := hRh.out
      rw [if_neg (by simp), hfx] at h9
      dsimp only at h9
      subst h9
      have hxlh := Lib.hid hxl
      clear hfx hxl
      go_wp2_with fail
      refine (hcph.out _ hX2).mono ?_
      rintro e w3 ⟨a3, c3, M3, rfl, _, _, _, hx3⟩
      replace hbox := (hx3.block _ (lt_of_block hbox)).trans hbox
      replace hres := (hx3.block _ (lt_of_block hres)).trans hres
      clear y0 y1 y2 y3
      obtain ⟨⟨y0, y1, y2, y3⟩, _⟩ := cells_four hbox
      have hX3 := hX2.trans hx3
      have hl0 := lt_of_block hbox
      have hl1 := lt_of_block hres
      go_wp2_with fail
      obtain ⟨W4, hW4⟩ : ∃ W4, w3.alloc (.cells #[.int .i64 m, .slice none 0 0, .int .i64 came, .int .i64 dropped] 24) = W4 := ⟨_, rfl⟩
      have hx4 : Ext w3 W4 := by rw [← hW4]; exact Ext.alloc _ _
      have hbv : W4.heap[w3.heap.size]? = some (.cells #[.int .i64 m, .slice none 0 0, .int .i64 came, .int .i64 dropped] 24 (0, 0)) := by rw [← hW4]; exact heap_alloc_new _ _
      rw [hW4]
      clear hW4
      have hX4 := hX3.trans hx4
      replace hbox := (hx4.block _ (lt_of_block hbox)).trans hbox
      replace hres := (hx4.block _ (lt_of_block hres)).trans hres
      clear y0 y1 y2 y3
      have hpa4 := Lib.hid (owns_ext (owns_ext hpah.out hx3) hx4)
      obtain ⟨B, hB⟩ : ∃ B, w3.heap.size = B := ⟨_, rfl⟩
      have hBl : w.heap.size + 1 < B := by rw [← hB]; exact hl1
      rw [hB] at hbv ⊢
      have hsz4 : B < W4.heap.size := lt_of_block hbv
      clear hB hx3 hx4 hl0 hl1 hpah
      go_loopw [9] (fun vi wr => ∃ (k : Nat) (M2 : List Wh) (a2 : Option Addr) (c2 : Nat), k ≤ n ∧ vi = .int .i64 k ∧ Hid (ws M2 = ((ws M).take k).filter fun x => x.1 != s) ∧ M2.length ≤ k ∧ Hid (∀ x ∈ M2, x ∈ M) ∧ wr.heap[B]? = some (.cells #[.int .i64 m, .slice a2 M2.length c2, .int .i64 came, .int .i64 dropped] 24 (0, 0)) ∧ wr.heap[w.heap.size + 1]? = some (.cells #[.int .i64 0, .slice none 0 0, .int .i64 0, .int .i64 0] 24 (0, 0)) ∧
          wr.heap[w.heap.size]? = some (.cells #[.int .i64 m, .slice a n c, .int .i64 came, .int .i64 dropped] 24 (0, 0)) ∧ Hid (ORow wc 2 wr (B + 1) 59 (.slice a2 M2.length c2) M2) ∧ Hid (wr.ownsRow w1.heap.size 50 4 (.slice pa pn pc) l.length (rcells ac l)) ∧ Ext w wr ∧ B < wr.heap.size) (fun vi _ => n - (intOf vi).toNat)
      case atStart => exact ⟨0, [], none, 0, Nat.zero_le _, rfl, rfl, Nat.le_refl _, (fun _ h => by cases h), hbv, hres, hbox, World.ownsRow_nil _ _ _ _, hpa4.out, hX4, hsz4⟩
      case round =>
        obtain ⟨k, M2, a2, c2, hk, rfl, hws, hml2, hsub, hbv2, hres2, hbox2, hown, hpt, hX5, hsz5⟩ := hrel
        clear hbv hres hbox
        obtain ⟨⟨y0, y1, y2, y3⟩, _⟩ := cells_four hbox2
        obtain ⟨⟨z0, z1, z2, z3⟩, ⟨f0, f1, f2, f3⟩⟩ := cells_four hbv2
        have hl0 := lt_of_block hbox2
        by_cases hlt : k < n
        · obtain ⟨b, o, rfl, hc⟩ := hb.rd.at (by omega)
          have hkM : k < M.length := by rw [hlen.out]; exact hlt
          have hkW : k < (ws M).length := by rw [hwl.out]; exact hlt
          obtain ⟨d0, d1⟩ := hc k hkM
          replace d0 := hX5.cell d0
          replace d1 := hX5.cell d1
          have hl2 := World.block_lt_of_cell? wr _ d0
          have hfs := filter_snoc s hkW
          rw [show (ws M)[k] = M[k].1 by simp [ws]] at hfs
          have hmem : Hid (M[k] ∈ M) := List.getElem_mem hkM
          obtain ⟨x0, hxe⟩ : ∃ x, M[k] = x := ⟨_, rfl⟩
          rw [hxe] at d0 d1 hfs hmem
          obtain ⟨⟨pp, pts⟩, qa, qn, qc⟩ := x0
          dsimp only at d0 d1
          have hfsh := Lib.hid hfs
          clear hc hxe hfs
          by_cases hps : pp = s
          · subst hps
            have hne : (pp != pp) = false := by simp
            have hne2 : (pp == pp) = true := by simp
            have hfe : Hid (ws M2 = ((ws M).take (k + 1)).filter fun x => x.1 != pp) := by show _ = _; rw [hfsh.out, if_pos rfl, List.append_nil]; exact hws.out
            go_wp2_with fail
            go_roundw
            case rel => exact ⟨k + 1, M2, a2, c2, by omega, by go_num, hfe, by omega, hsub, hbv2, hres2, hbox2, hown, hpt, hX5, hsz5⟩
            case measure => simp [intOf]; omega
          · have hne : (pp != s) = true := by simp [hps]
            have hne2 : (pp == s) = false := by simp [hps]
            have hfe : Hid (ws (M2 ++ [((pp, pts), (qa, qn, qc))]) = ((ws M).take (k + 1)).filter fun x => x.1 != s) := by
              show _ = _
              rw [hfsh.out, if_neg hps, ← hws.out]
              simp [ws]
            obtain ⟨wo, hwo⟩ : ∃ wo : World, wr = wo := ⟨_, rfl⟩
            rw [hwo] at y0 y1 y2 y3 z0 z1 z2 z3 f0 f1 f2 f3 hbv2 hres2 hbox2 hown hpt hX5 hsz5 d0 d1 hl0 hl2 ⊢
            clear hwo
            go_upto_region 12 with fail
            obtain ⟨X, iX, f, hxS0, hSx0⟩ := letters (fun w' => Ext wo w') wo (Ext.refl wo)
            have hxS := Lib.hid hxS0
            have hSx := Lib.hid hSx0
            clear hxS0 hSx0
            have e1 : ∀ x, (f x).cell? ⟨w.heap.size, 1, none⟩ = some (.slice (some ⟨b, o, none⟩) n c) := fun x => (hxS.out x).cell y1
            have e2 : ∀ x, (f x).cell? ⟨B, 1, none⟩ = some (.slice a2 M2.length c2) := fun x => (hxS.out x).cell z1
            have e3 : ∀ x, (f x).cell? ⟨b, o + k * 2, none⟩ = some (.string ⟨pp.toArray⟩) := fun x => (hxS.out x).cell d0
            have e4 : ∀ x, (f x).cell? ⟨b, o + k * 2 + 1, none⟩ = some (.slice qa qn qc) := fun x => (hxS.out x).cell d1
            refine region_plan 8 [.quiet [0, 1, 2, 3, 4, 5, 6], .act 7] (fun w' => ∃ x : X, w' = f x) (by kernel_rfl) (by kernel_rfl) (hSx.out _ (Ext.drewN wo 1)) ?_
            intro Q1 hQ1
            refine plan_quiet ?_
            simp only [sel, List.getElem?_toArray, List.getElem?_cons_zero, List.getElem?_cons_succ]
            repeat (go_big_quiet_step (fail))
            refine wpQuiet_nil ?_
            clear e1 e2 e3 e4
            refine plan_act ?_
            intro Q2 hQ2
            simp only [sel, List.getElem?_toArray, List.getElem?_cons_zero, List.getElem?_cons_succ]
            go_wp2_with fail
            have hXA := (Ext.alloc wo (.cells #[.string ⟨pp.toArray⟩, .slice qa qn qc] 59)).trans (Ext.drewN _ 1)
            refine hQ2 _ _ (hSx.out _ hXA) ?_
            refine plan_tail ?_
            simp only [List.drop_succ_cons, List.drop_zero]
            obtain ⟨WA, hWA⟩ : ∃ WA, (wo.alloc (.cells #[.string ⟨pp.toArray⟩, .slice qa qn qc] 59)).drew = WA := ⟨_, rfl⟩
            have hsrc7 : Hid (Sl WA (some ⟨wo.heap.size, 0, none⟩) 1 1 2 (wc ((pp, pts), (qa, qn, qc)))) := by rw [← hWA]; exact Sl.ext (sl_block (heap_alloc_new wo (.cells #[.string ⟨pp.toArray⟩, .slice qa qn qc] 59)) rfl (by decide)) (Ext.drewN _ 1)
            replace hXA : Ext wo WA := by rw [← hWA]; exact hXA
            rw [hWA]
            clear hWA
            have hownR := Lib.hid (ORow.ext hown.out hXA)
            have hptR := Lib.hid (owns_ext hpt.out hXA)
            have hz1 : Hid ((M2.length + 1) * 40 ≤ 140737488355328) := by show _ ≤ _; omega
            have hz2 : Hid (M2.length + 1 ≤ maxLen) := by show _ ≤ _; unfold maxLen; omega
            have hz3 : Hid (B + 1 ≤ WA.heap.size) := Nat.le_trans hsz5 hXA.size
            have hbA := Lib.hid ((hXA.block _ (lt_of_block hbv2)).trans hbv2)
            have hrA := Lib.hid ((hXA.block _ (lt_of_block hres2)).trans hres2)
            have hcA := Lib.hid ((hXA.block _ (lt_of_block hbox2)).trans hbox2)
            go_wp2_with (at_builtin; refine wpList_append_sl rfl _ _ 22 rfl (B + 1) 59 Try.underlying22 infoWt rfl (by decide) _ _ _ rfl hownR.out _ _ _ _ rfl hsrc7.out (wc_one1 _) hz1.out hz2.out hz3.out ?_; intro v7 w7 hown7 hgrow7; obtain ⟨a7, c7, hv7, _⟩ := Sl.of_owns hown7; subst hv7; have hb8 := block_beside hownR.out hgrow7 hbA.out (by decide); have g7 := (cells_four hb8).1.2.1; have f7 := (cells_four hb8).2.2.1)
            have hX8 := Lib.hid ((hX5.trans hXA).grown hgrow7 (fun k e => Nat.le_trans (by omega) (owns_row hownR.out k e)))
            have hr8 := Lib.hid (block_beside hownR.out hgrow7 hrA.out (by decide))
            have hc8 := Lib.hid (block_beside hownR.out hgrow7 hcA.out (by decide))
            have hpt8 := Lib.hid (World.ownsRow.kept hptR.out hgrow7 (owns_apart hptR.out hownR.out (by decide)))
            have hown8 : Hid (ORow wc 2 w7 (B + 1) 59 (.slice a7 (M2.length + 1) c7) (M2 ++ [((pp, pts), (qa, qn, qc))])) := by
              show _
              unfold ORow
              rw [rcells_append, rcells_one, List.length_append]
              exact hown7
            have hsz8 := Nat.lt_of_lt_of_le hsz5 (Nat.le_trans hXA.size hgrow7.size)
            have hg8 := put_grownBy w7 B 1 (.slice a7 (M2.length + 1) c7)
            have hnl : M2.length + 1 = (M2 ++ [(((pp, pts), (qa, qn, qc)) : Wh)]).length := by simp
            refine ⟨⟨k + 1, M2 ++ [((pp, pts), (qa, qn, qc))], a7, c7, by omega, by go_num, hfe, by rw [← hnl]; omega, ?_, ?_, ?_, ?_, ?_, ?_, ?_, ?_⟩, by simp [intOf]; omega⟩
            · intro x hx
              rcases List.mem_append.1 hx with hx | hx
              · exact hsub.out x hx
              · obtain rfl : x = ((pp, pts), (qa, qn, qc)) := by simpa using hx
                exact hmem.out
            · have := at_setCell hb8 1 (.slice a7 (M2.length + 1) c7)
              rw [← hnl]
              simpa using this
            · exact (hg8.block _ (lt_of_block hr8.out) (by simp; omega)).trans hr8.out
            · exact (hg8.block _ (lt_of_block hc8.out) (by simp; omega)).trans hc8.out
            · have := owns_put hown8.out (owns_other hown8.out hb8 (by decide)) 1 (.slice a7 (M2.length + 1) c7)
              rw [← hnl]
              rw [← hnl] at this
              show _
              unfold ORow
              rw [← hnl]
              exact this
            · exact owns_put hpt8.out (owns_other hpt8.out hb8 (by decide)) 1 _
            · exact hX8.out.grown hg8 (fun k e => by cases e; omega)
            · exact Nat.lt_of_lt_of_le hsz8 hg8.size
        · obtain rfl : n = k := by omega
          have hwf := hws.out
          rw [List.take_of_length_le (by rw [hwl.out]; exact Nat.le_refl _)] at hwf
          have hwfh := Lib.hid hwf
          clear hwf
          obtain ⟨⟨x0, x1, x2, x3⟩, ⟨g0, g1, g2, g3⟩⟩ := cells_four hres2
          go_wp2_with fail
          have hw9 : put4 wr (w.heap.size + 1) (.int .i64 m) (.slice a2 M2.length c2) (.int .i64 came) (.int .i64 dropped) = (((wr.setCell ⟨w.heap.size + 1, 0, none⟩ (.int .i64 m)).setCell ⟨w.heap.size + 1, 1, none⟩ (.slice a2 M2.length c2)).setCell ⟨w.heap.size + 1, 2, none⟩ (.int .i64 came)).setCell ⟨w.heap.size + 1, 3, none⟩ (.int .i64 dropped) := rfl
          have hg9 := put4_grownBy wr (w.heap.size + 1) (.int .i64 m) (.slice a2 M2.length c2) (.int .i64 came) (.int .i64 dropped)
          have hh9 := put4_block hres2 (.int .i64 m) (.slice a2 M2.length c2) (.int .i64 came) (.int .i64 dropped)
          rw [← hw9]
          obtain ⟨w9, hw9e⟩ : ∃ w9, put4 wr (w.heap.size + 1) (.int .i64 m) (.slice a2 M2.length c2) (.int .i64 came) (.int .i64 dropped) = w9 := ⟨_, rfl⟩
          rw [hw9e] at hg9 hh9 ⊢
          obtain ⟨⟨q0, q1, q2, q3⟩, _⟩ := cells_four hh9
          refine bodyPost_ret (v := .tuple #[.agg #[.int .i64 m, .slice a2 M2.length c2, .int .i64 came, .int .i64 dropped], .slice pa pn pc, .int .i64 0]) (by simp [results, Try.results21, go_sem, q0, q1, q2, q3]) rfl ?_
          have hX9 := hX5.grown hg9 (fun k e => by cases e; omega)
          have o5 := owns_beside hown.out (owns_other hown.out hres2 (by decide)) hg9
          have o4 := owns_beside hpt.out (owns_other hpt.out hres2 (by decide)) hg9
          obtain ⟨_, _, e5, r5⟩ := Sl.of_owns o5
          obtain ⟨_, _, e4, r4⟩ := Sl.of_owns o4
          cases e5
          injection e4 with h1 h2 h3
          refine ⟨a2, _, c2, M2, pa, pn, pc, rfl, ⟨r5, fun x hx => (hb.rd.2 x (hsub.out x hx)).ext hX9⟩, hwfh.out, ?_, hX9⟩
          show As w9 pa pn pc x.2
          rw [hxlh.out, h1, h2, h3]
          exact r4
end Go.Proofs.Ytcbjadmngkednaa
