/-
  A segment's bytes: the program's Write and the reference's.
-/
import Derived.Test.YtkflikfcpdekdaaDoorSegFrame
import Derived.Test.YtkflikfcpdekdaaDoorRecs
namespace Go.Proofs.YtkflikfcpdekdaaDoor
open Go.RowKit

/-- May a record stand behind the first? -/
def okE (e : El) : Bool := right e.1 && decide (e.1.kind ≠ 1)
/-- What is written, and the error. -/
@[irreducible] def wrote (r : Rec) (M : List El) : List UInt8 × Int := if r.kind = 1 ∧ right r = true ∧ M.all okE = true then (sfr r ++ (M.map fun e => sfr e.1).flatten, 0) else ([], 1)
theorem wrote_yes (r : Rec) (M : List El) (h1 : r.kind = 1) (h2 : right r = true) (h3 : M.all okE = true) : wrote r M = (sfr r ++ (M.map fun e => sfr e.1).flatten, 0) := by unfold wrote; rw [if_pos ⟨h1, h2, h3⟩]
theorem wrote_no1 (r : Rec) (M : List El) (h : r.kind ≠ 1) : wrote r M = ([], 1) := by unfold wrote; rw [if_neg (fun hh => h hh.1)]
theorem wrote_no2 (r : Rec) (M : List El) (h : right r = false) : wrote r M = ([], 1) := by unfold wrote; rw [if_neg (fun hh => by rw [h] at hh; cases hh.2.1)]
theorem wrote_no3 (r : Rec) (M : List El) (h : M.all okE = false) : wrote r M = ([], 1) := by unfold wrote; rw [if_neg (fun hh => by rw [h] at hh; cases hh.2.2)]
theorem sfr_pos (r : Rec) : 0 < (sfr r).length := by rw [sfr_length]; omega
theorem sfr_le (r : Rec) (h : right r = true) : (sfr r).length ≤ 302 := by rw [sfr_length]; have := segPut_length r h; omega
theorem frames_length (M : List El) (h : M.all okE = true) : (M.map fun e => sfr e.1).flatten.length ≤ 302 * M.length := by
  induction M with
  | nil => simp
  | cons e M ih =>
    rw [List.all_cons, Bool.and_eq_true] at h
    have h1 := ih h.2
    have h2 : right e.1 = true := by have := h.1; unfold okE at this; rw [Bool.and_eq_true] at this; exact this.1
    have h3 := sfr_le e.1 h2
    rw [List.map_cons, List.flatten_cons, List.length_append, List.length_cons]
    omega
/-- The nine cells of a box, in a later world. -/
theorem box9c {w W : World} {v0 v1 v2 v3 v4 v5 v6 v7 v8 : Value} {t : TypeId} (h : Ext (w.alloc (.cells #[v0, v1, v2, v3, v4, v5, v6, v7, v8] t)) W) :
    W.cell? ⟨w.heap.size, 0, none⟩ = some v0 ∧ W.cell? ⟨w.heap.size, 1, none⟩ = some v1 ∧ W.cell? ⟨w.heap.size, 2, none⟩ = some v2 ∧ W.cell? ⟨w.heap.size, 3, none⟩ = some v3 ∧ W.cell? ⟨w.heap.size, 4, none⟩ = some v4 ∧ W.cell? ⟨w.heap.size, 5, none⟩ = some v5 ∧ W.cell? ⟨w.heap.size, 6, none⟩ = some v6 ∧ W.cell? ⟨w.heap.size, 7, none⟩ = some v7 ∧ W.cell? ⟨w.heap.size, 8, none⟩ = some v8 := by
  have hB := h.block w.heap.size (by simp)
  rw [heap_alloc_new] at hB
  exact cells9 hB

set_option maxRecDepth 100000 in
set_option maxHeartbeats 3200000 in
theorem swrite_calls (r : Rec) (a : Option Addr) (n c : Nat) (ap : Option Addr) (np cp : Nat) (M : List El) (w : World) (hT : Tab w) (hb : Rg w a n c r.rungs) (hl : Rcs w ap np cp M) (hn : np ≤ 1000) :
    Calls Tryd.prog 49 #[rv r a n c, .slice ap np cp] w fun e w' => ∃ v, e = .returned (.tuple #[v, .int .i64 (wrote r M).2]) ∧ Own w' w.heap.size 5 v (wrote r M).1 ∧ Ext w w' := by
  have hlen := Lib.hid hl.len
  have hmx := Nat.le_trans hl.1.le hl.1.max
  unfold maxLen at hmx
  obtain ⟨z, hz⟩ : ∃ z, wrote r M = z := ⟨_, rfl⟩
  rw [hz]
  have hy := fun (h1 : r.kind = 1) (h2 : right r = true) (h3 : M.all okE = true) => hz.symm.trans (wrote_yes r M h1 h2 h3)
  have hn1 := fun (h : r.kind ≠ 1) => hz.symm.trans (wrote_no1 r M h)
  have hn2 := fun (h : right r = false) => hz.symm.trans (wrote_no2 r M h)
  have hn3 := fun (h : M.all okE = false) => hz.symm.trans (wrote_no3 r M h)
  have hfl := fun (h : right r = true) => sfr_le r h
  have hfp := sfr_pos r
  have hfy := fun wx (hx : Ext w wx) (hr : right r = true) => sframe_yes r a n c wx (hT.ext hx) (hb.ext hx) hr
  have hfn := fun wx (hx : Ext w wx) (hr : right r = false) => sframe_no r a n c wx (hb.ext hx) hr
  clear hz
  obtain ⟨sf, hsf⟩ : ∃ sf, sfr r = sf := ⟨_, rfl⟩
  obtain ⟨rr, hrr⟩ : ∃ rr, right r = rr := ⟨_, rfl⟩
  rw [hsf] at hy hfl hfp hfy
  rw [hrr] at hy hn2 hfl hfy hfn
  clear hsf hrr
  obtain ⟨kind, path, method, factor, rungs, rung, time, now, value⟩ := r
  unfold rv at *
  dsimp only at hy hn1 hfy hfn ⊢
  by_cases hk : kind = 1
  · subst hk
    cases rr with
    | false =>
      have HE : Hid (z = ([], 1)) := hn2 rfl
      have hfnk := Lib.hid (fun wx h => hfn wx h rfl)
      clear hfy hy hn1 hn2 hn3 hfn
      go_enter Tryd.func49, Tryd.ntmps49
      go_wp2_with fail
      refine (hfnk.out _ (Ext.alloc _ _)).mono ?_
      rintro e w2 ⟨rfl, hx2⟩
      have hxx := (Ext.alloc _ _).trans hx2
      go_wp2
      go_ret2
      exact ⟨.slice none 0 0, by rw [HE.out]; rfl, by rw [HE.out]; exact own_nil _ _ _, hxx⟩
    | true =>
      have hfyk := Lib.hid (fun wx h => hfy wx h rfl)
      have hflk := Lib.hid (hfl rfl)
      have hyk := Lib.hid (hy rfl rfl)
      have hn3k := Lib.hid hn3
      clear hfn hn1 hn2 hfy hfl hy hn3
      go_enter Tryd.func49, Tryd.ntmps49
      go_wp2_with fail
      refine (hfyk.out _ (Ext.alloc _ _)).mono ?_
      rintro e w2 ⟨v, rfl, ho, hx2⟩
      have hxx := (Ext.alloc w (.cells #[.int .i64 1, .string ⟨path.toArray⟩, .int .i64 method, .int .i64 factor, .slice a n c, .int .i64 rung, .int .i64 time, .int .i64 now, .int .i64 value] 48)).trans hx2
      have ho2 := ho.mono ((Ext.alloc w (.cells #[.int .i64 1, .string ⟨path.toArray⟩, .int .i64 method, .int .i64 factor, .slice a n c, .int .i64 rung, .int .i64 time, .int .i64 now, .int .i64 value] 48)).size)
      obtain ⟨x0, -⟩ := box9c hx2
      clear ho hx2 hfyk
      go_wp2_with fail
      go_loopw [6, 25] (fun out i wr => ∃ k : Nat, k ≤ np ∧ i = .int .i64 k ∧ Own wr w.heap.size 5 out (sf ++ ((M.take k).map fun e => sfr e.1).flatten) ∧ Ext w wr ∧ M.all okE = (M.drop k).all okE ∧ (M.take k).all okE = true) (fun _ i _ => np - (intOf i).toNat)
      case atStart => exact ⟨0, by omega, rfl, by simpa using ho2, hxx, by simp, by simp⟩
      case round =>
        obtain ⟨k, hk, rfl, ho, hxr, hall, htk⟩ := hrel
        have hfll := frames_length (M.take k) htk
        have htl : (M.take k).length ≤ 1000 := by rw [List.length_take]; omega
        have HA := Lib.hid hall
        have HTK := Lib.hid htk
        clear hall htk
        by_cases hlt : k < np
        · obtain ⟨b, o, rfl, hc⟩ := (hl.ext hxr).at (by omega)
          have hkl : k < M.length := by rw [hlen.out]; exact hlt
          have hx9 := hc k hkl
          have hg1 := (hl.2 M[k] (List.getElem_mem hkl)).ext hxr
          have hsn : Hid ((M.take (k + 1)).map (fun e => sfr e.1) = (M.take k).map (fun e => sfr e.1) ++ [sfr M[k].1]) := by show _ = _; rw [List.take_succ_eq_append_getElem hkl, List.map_append]; rfl
          have hdr : Hid ((M.drop k).all okE = (okE M[k] && (M.drop (k + 1)).all okE)) := by show _ = _; rw [List.drop_eq_getElem_cons hkl]; rfl
          have hta : Hid ((M.take (k + 1)).all okE = ((M.take k).all okE && okE M[k])) := by show _ = _; rw [List.take_succ_eq_append_getElem hkl, List.all_append]; simp
          obtain ⟨x, hx⟩ : ∃ x, M[k] = x := ⟨_, rfl⟩
          rw [hx] at hx9 hg1 hsn hdr hta
          clear hc hx
          obtain ⟨fl, hfl2⟩ : ∃ fl, ((M.take k).map fun e => sfr e.1).flatten = fl := ⟨_, rfl⟩
          rw [hfl2] at ho hfll
          have hsn2 : Hid (((M.take (k + 1)).map fun e => sfr e.1).flatten = fl ++ sfr x.1) := by show _ = _; rw [hsn.out, List.flatten_append, hfl2]; simp
          clear hsn hfl2
          have hok : okE x = (right x.1 && decide (x.1.kind ≠ 1)) := rfl
          have hfy2 := fun wx (hx : Ext w wx) (hg : Rg wx x.2.1 x.2.2.1 x.2.2.2 x.1.rungs) (hr : right x.1 = true) => sframe_yes x.1 x.2.1 x.2.2.1 x.2.2.2 wx (hT.ext hx) hg hr
          have hfn2 := fun wx (hg : Rg wx x.2.1 x.2.2.1 x.2.2.2 x.1.rungs) (hr : right x.1 = false) => sframe_no x.1 x.2.1 x.2.2.1 x.2.2.2 wx hg hr
          have hfl3 := fun (h : right x.1 = true) => sfr_le x.1 h
          have hfp3 := sfr_pos x.1
          obtain ⟨sx, hsx⟩ : ∃ sx, sfr x.1 = sx := ⟨_, rfl⟩
          rw [hsx] at hfy2 hfl3 hsn2 hfp3
          obtain ⟨rx, hrx⟩ : ∃ rx, right x.1 = rx := ⟨_, rfl⟩
          rw [hrx] at hok hfy2 hfn2 hfl3
          clear hsx hrx
          obtain ⟨⟨kind2, path2, method2, factor2, rungs2, rung2, time2, now2, value2⟩, a2, n2, c2⟩ := x
          unfold At9 at hx9
          unfold rv at hfy2 hfn2
          dsimp only at hx9 hg1 hok hfy2 hfn2
          obtain ⟨x0', x1, x2, x3, x4, x5, x6, x7, x8⟩ := hx9
          have hHok := Lib.hid hok
          have hk1 : (k : Int) < (np : Int) := by omega
          obtain ⟨al, nl, cl, rfl, -⟩ := ho.bs
          obtain ⟨gb, rfl, -, -⟩ := ho.addr (by rw [List.length_append]; omega)
          clear hok
          cases rx with
          | false =>
            have HE : Hid (z = ([], 1)) := by show _ = _; rw [hn3k.out (by rw [HA.out, hdr.out, hHok.out]; rfl)]
            have hfn2k := Lib.hid (fun wx h => hfn2 wx h rfl)
            clear hfy2 hdr hta HA hfn2
            go_wp2_with fail
            refine (hfn2k.out _ (hg1.ext (Ext.alloc _ _))).mono ?_
            rintro e w4 ⟨rfl, hx4⟩
            go_wp2
            go_ret2
            exact ⟨.slice none 0 0, by rw [HE.out]; rfl, by rw [HE.out]; exact own_nil _ _ _, (hxr.trans (Ext.alloc _ _)).trans hx4⟩
          | true =>
            have hfy2k := Lib.hid (fun wx h1 h2 => hfy2 wx h1 h2 rfl)
            have hfl4 := hfl3 rfl
            clear hfn2 hfy2 hfl3
            by_cases hk2 : kind2 = 1
            · have HE : Hid (z = ([], 1)) := by show _ = _; rw [hn3k.out (by rw [HA.out, hdr.out, hHok.out, hk2]; rfl)]
              subst hk2
              clear hdr hta HA
              go_wp2_with fail
              refine (hfy2k.out _ (hxr.trans (Ext.alloc _ _)) (hg1.ext (Ext.alloc _ _))).mono ?_
              rintro e w4 ⟨v4, rfl, ho4, hx4⟩
              obtain ⟨x0b, -⟩ := box9c hx4
              go_wp2
              go_ret2
              exact ⟨.slice none 0 0, by rw [HE.out]; rfl, by rw [HE.out]; exact own_nil _ _ _, (hxr.trans (Ext.alloc _ _)).trans hx4⟩
            · have hk2b : (kind2 == 1) = false := by simp [hk2]
              have HA2 : Hid (M.all okE = (M.drop (k + 1)).all okE) := by show _ = _; rw [HA.out, hdr.out, hHok.out]; simp [hk2]
              have HT2 : Hid ((M.take (k + 1)).all okE = true) := by show _ = _; rw [hta.out, HTK.out, hHok.out]; simp [hk2]
              clear hdr hta HA hk2
              go_wp2_with fail
              refine (hfy2k.out _ (hxr.trans (Ext.alloc _ _)) (hg1.ext (Ext.alloc _ _))).mono ?_
              rintro e w4 ⟨v4, rfl, ho4, hx4⟩
              have hx4' := hxr.trans ((Ext.alloc _ _).trans hx4)
              have hob := Lib.hid (ho.ext ((Ext.alloc _ _).trans hx4))
              obtain ⟨a4, n4, c4, rfl, hb4⟩ := ho4.bs
              have hn4 := hb4.len
              obtain ⟨x0b, -⟩ := box9c hx4
              have hb4h := Lib.hid hb4
              have hbd : Hid ((sf ++ fl).length + n4 ≤ 140737488355328) := by show _ ≤ _; rw [List.length_append]; have := hflk.out; omega
              have hx4h := Lib.hid hx4'
              clear ho4 hb4 hn4 ho hx4'
              go_wp2_with (at_builtin; refine wpList_append_bytes rfl _ _ 22 rfl w 5 Tryd.underlying22 infoU8 _ _ rfl hob.out hx4h.out a4 n4 c4 sx rfl hb4h.out hbd.out ?_; intro v' w5 hown5 hx5 hgrow)
              go_roundw
              case rel => exact ⟨k + 1, by omega, by go_num, by rw [hsn2.out, ← List.append_assoc]; exact hown5, hx5, HA2.out, HT2.out⟩
              case measure => simp [intOf]; omega
        · obtain rfl : k = np := by omega
          have hMd : M.drop k = [] := List.drop_of_length_le (by rw [hlen.out]; omega)
          have HE : Hid (z = (sf ++ (M.map fun e => sfr e.1).flatten, 0)) := hyk.out (by rw [HA.out, hMd]; rfl)
          rw [List.take_of_length_le (by rw [hlen.out]; omega)] at ho
          have hoh := Lib.hid ho
          obtain ⟨al, nl, cl, rfl, -⟩ := ho.bs
          clear ho hfll
          go_wp2
          go_ret2
          exact ⟨_, by rw [HE.out]; rfl, by rw [HE.out]; exact hoh.out, hxr⟩
  · have HE : Hid (z = ([], 1)) := hn1 hk
    have hkb : (kind == 1) = false := by simp [hk]
    have hkb2 : (kind != 1) = true := by simp [hk]
    clear hy hn1 hn2 hn3 hfy hfn hk
    go_enter Tryd.func49, Tryd.ntmps49
    go_wp2
    go_ret2
    exact ⟨.slice none 0 0, by rw [HE.out]; rfl, by rw [HE.out]; exact own_nil _ _ _, Ext.alloc _ _⟩
end Go.Proofs.YtkflikfcpdekdaaDoor
