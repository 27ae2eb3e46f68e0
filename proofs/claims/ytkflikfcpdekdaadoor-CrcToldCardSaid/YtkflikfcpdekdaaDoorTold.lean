/-
  CrcTold: the walk.
-/
import Derived.Test.YtkflikfcpdekdaaDoorLaw05
import Derived.Test.YtkflikfcpdekdaaDoorToldPlain
import Derived.StillTailTactics
namespace Go.Proofs.YtkflikfcpdekdaaDoor
open Go.RowKit

set_option maxHeartbeats 800000 in
theorem told_walk (a : Option Addr) (n c : Nat) (l : List UInt8) (x : Int) (y0 y1 y2 y3 : UInt8) (w : World) (ht : Tab w) (hb : Bs w a n c l) (hx0 : 0 ≤ x) (hx1 : x ≤ 65535) :
    Calls Tryd.prog 5 #[.slice a n c, .int .u16 x, .agg #[bv y0, bv y1, bv y2, bv y3]] w fun e w' => e = .returned (.bool true) ∧ Ext w w' := by
  have hxA : Ext w (w.alloc (.cells #[bv y0, bv y1, bv y2, bv y3] 34)) := Ext.alloc w _
  by_cases g1 : 5000 < n
  · have hg1 : decide (5000 < (n : Int)) = true := by simp; omega
    go_enter Tryd.func5, Tryd.ntmps5
    go_wp2_with fail
    refine (alive05_calls _ (ht.ext (Ext.alloc w _))).mono ?_
    rintro e w1 ⟨rfl, hx1⟩
    go_wp2_with fail
    refine (great05_calls a n c w1).mono ?_
    rintro e w' ⟨rfl, rfl⟩
    go_wp2
    go_ret
    exact ⟨rfl, (Ext.alloc w _).trans hx1⟩
  · have hg1 : decide (5000 < (n : Int)) = false := by simp; omega
    have hl1 := Lib.hid hb.len
    go_enter Tryd.func5, Tryd.ntmps5
    go_wp2_with fail
    refine (alive05_calls _ (ht.ext (Ext.alloc w _))).mono ?_
    rintro e w1 ⟨rfl, hx1⟩
    have hxx1 : Ext w w1 := (Ext.alloc w _).trans hx1
    go_wp2_with fail
    refine (great05_calls a n c w1).mono ?_
    rintro e w' ⟨rfl, rfl⟩
    go_wp2_with fail
    refine (cput_calls a n c l w1 (by omega) (ht.ext hxx1) (hb.ext hxx1)).mono ?_
    rintro e w2 ⟨v, rfl, ho2, hx2⟩
    have hxx2 := hxx1.trans hx2
    have hoh := Lib.hid ho2
    obtain ⟨a2, n2, c2, rfl, hb2⟩ := ho2.bs
    have hn2 : Hid (n2 = n + 4) := by show _ = _; rw [← hb2.len, crcPut_length, hl1.out]
    have hn2b : n2 ≤ 140737488355300 := by rw [hn2.out]; omega
    have hn2c : 4 ≤ n2 := by rw [hn2.out]; omega
    have hq1 : ((n2 : Int) != (n : Int) + 4) = false := by rw [hn2.out]; simp
    clear ho2
    go_wp2_with fail
    refine (ccheck_calls a2 n2 c2 _ w2 hn2b (ht.ext hxx2) hb2).mono ?_
    rw [crcCheck_put]
    rintro e w3 ⟨v, rfl, ho3, hx3⟩
    have hxx3 := hxx2.trans hx3
    obtain ⟨a3, n3, c3, rfl, hb3⟩ := ho3.bs
    clear ho3
    go_wp2_with fail
    refine (same_ext a3 n3 c3 _ a n c _ w3 hb3 (hb.ext hxx3)).mono ?_
    rintro e w4 ⟨rfl, hx4⟩
    have hxx4 := hxx3.trans hx4
    have hq2 : (l == l) = true := by simp
    have hoh4 := Lib.hid (hoh.out.ext (hx3.trans hx4))
    have hx24 : Ext w2 w4 := hx3.trans hx4
    obtain ⟨st, hst, hst2⟩ : ∃ st : Nat, x % (n2 : Int) = st ∧ st < n2 := ⟨(x % (n2 : Int)).toNat, by have := Int.emod_nonneg x (show (n2 : Int) ≠ 0 by omega); omega, by
      have := Int.emod_nonneg x (show (n2 : Int) ≠ 0 by omega)
      have := Int.emod_lt_of_pos x (show (0 : Int) < n2 by omega)
      omega⟩
    have hpl : Hid ((crcPut l).length = n2) := by show _ = _; rw [crcPut_length, hl1.out, hn2.out]
    obtain ⟨g, rfl, hg, -⟩ := hoh.out.addr (by rw [hpl.out]; omega)
    have hx14 : Ext w1 w4 := hx2.trans hx24
    have HST := Lib.hid hst
    clear hb2 hb3 hoh hst
    go_wp2
    rw [HST.out]
    obtain ⟨d, hd0⟩ : ∃ d, d = [y0, y1, y2, y3] := ⟨_, rfl⟩
    have hd := Lib.hid hd0
    clear hd0
    go_loopw [10, 12] (fun ch i wr => ∃ k : Nat, k ≤ 4 ∧ st + k ≤ n2 ∧ i = .int .i64 k ∧ ch = .bool (any0 (d.take k)) ∧ Own wr w1.heap.size 5 (.slice (some ⟨g, 0, none⟩) n2 c2) (chg (crcPut l) st d k) ∧ Ext w1 wr) (fun _ i _ => 4 - (intOf i).toNat)
    case atStart => exact ⟨0, by omega, by omega, rfl, rfl, by rw [chg_zero]; exact hoh4.out, hx14⟩
    case round =>
      obtain ⟨k, hk, hkn, rfl, rfl, hown, hxr⟩ := hrel
      have hdl : Hid (d.length = 4) := by show _ = _; rw [hd.out]; rfl
      by_cases hk4 : k < 4 ∧ st + k < n2
      · obtain ⟨hk1, hk2⟩ := hk4
        have hi1 : (k : Int) < (n2 : Int) - (st : Int) := by omega
        have hkl : st + k < (crcPut l).length := by rw [hpl.out]; exact hk2
        obtain ⟨px, hpx⟩ : ∃ px, px = (crcPut l)[st + k] := ⟨_, rfl⟩
        obtain ⟨y, hy⟩ : ∃ y, y = d.getD k 0 := ⟨_, rfl⟩
        have HS : Hid (chg (crcPut l) st d (k + 1) = (chg (crcPut l) st d k).set (st + k) (px ^^^ y)) := by show _ = _; rw [chg_step _ _ _ _ hkl, hpx, hy]
        have HA : Hid (any0 (d.take (k + 1)) = (any0 (d.take k) || y != 0)) := by
          show _ = _
          rw [List.take_succ_eq_append_getElem (by rw [hdl.out]; exact hk1)]
          unfold any0
          rw [List.any_append, hy, List.getD_eq_getElem?_getD, List.getElem?_eq_getElem (by rw [hdl.out]; exact hk1)]
          simp
        have hc1 : wr.cell? ⟨g, st + k, none⟩ = some (.int .u8 (px.toNat : Int)) := by
          rw [World.ownsRow.cellAt (cap := c2) (by have := hown; unfold Own at this; rw [chg_length, hpl.out] at this; exact this) _ (by omega)]
          unfold bvs
          rw [List.getElem?_map, List.getElem?_eq_getElem (by rw [chg_length]; exact hkl), chg_at _ _ _ _ hkl, ← hpx]
          rfl
        have hf1 : wr.frozen? ⟨g, st + k, none⟩ = false := World.ownsRow.frozenAt (cap := c2) (by have := hown; unfold Own at this; rw [chg_length, hpl.out] at this; exact this) _
        have hc2 : wr.cell? ⟨w.heap.size, k, none⟩ = some (.int .u8 (y.toNat : Int)) := by
          refine (hx1.trans hxr).cell ?_
          rw [World.cell?_alloc_at _ _ _ _ rfl, hy, hd.out]
          have h4 : k = 0 ∨ k = 1 ∨ k = 2 ∨ k = 3 := by omega
          rcases h4 with rfl | rfl | rfl | rfl <;> rfl
        have hxor : bits .xor .u8 (px.toNat : Int) (y.toNat : Int) = ((px ^^^ y).toNat : Int) := by
          rw [u8_xor_nat _ _ px.toNat_lt y.toNat_lt, UInt8.toNat_xor]
        have hownh := Lib.hid hown
        have hyl := y.toNat_lt
        have hpl2 := px.toNat_lt
        clear hpx hy hd hown
        have hgw : g ≠ w.heap.size := by
          have h1 := hx1.size
          simp at h1
          omega
        have hc3 : ∀ u, (wr.setCell ⟨g, st + k, none⟩ u).cell? ⟨w.heap.size, k, none⟩ = some (.int .u8 (y.toNat : Int)) := fun u => by
          rw [World.cell?_setCell_other _ _ _ _ (by first | exact fun h => hgw (congrArg Addr.block h) | exact fun h => hgw (congrArg Addr.block h).symm)]
          exact hc2
        have hso := hownh.out.stored (by rw [chg_length, hpl.out]) (st + k) (px ^^^ y)
        have hxs : Hid (Ext w1 (wr.setCell ⟨g, st + k, none⟩ (bv (px ^^^ y)))) := hxr.grown hso.2 (by intro j hj; cases hj; exact hg)
        have hso2 := Lib.hid hso.1
        rw [← HS.out] at hso2
        clear hso hgw
        by_cases hch : any0 (d.take k) = true
        · rw [hch]
          rw [hch] at HA
          go_wp2
          go_region
          go_wp2
          go_roundw
          case rel => exact ⟨k + 1, by omega, by omega, by go_num, by rw [HA.out]; rfl, hso2.out.ext (Ext.drewN _ 1), hxs.out.trans (Ext.drewN _ 1)⟩
          case measure => simp [intOf]; omega
        · have hch2 : any0 (d.take k) = false := by simpa using hch
          rw [hch2]
          rw [hch2] at HA
          clear hch
          have hyb : Hid ((((y.toNat : Int) != 0)) = (y != 0)) := by
            show _ = _
            by_cases h : y = 0
            · subst h; rfl
            · have : y.toNat ≠ 0 := fun e => h (UInt8.toNat_inj.1 (by simpa using e))
              rw [bne_iff_ne.2 h, bne_iff_ne]; omega
          go_wp2
          go_region
          go_wp2
          go_roundw
          case rel => exact ⟨k + 1, by omega, by omega, by go_num, by rw [HA.out, Bool.false_or, ← hyb.out], hso2.out.ext (Ext.drewN _ 1), hxs.out.trans (Ext.drewN _ 1)⟩
          case measure => simp [intOf]; omega
      · have hbr := hown.bs_at
        have hxxr := hxx1.trans hxr
        go_wp2_with fail
        all_goals
          refine (ccheck_calls _ n2 c2 _ wr hn2b (ht.ext hxxr) hbr).mono ?_
          by_cases hch : any0 (d.take k) = true
          · rw [chg_told l st d k (by rw [hdl.out]; exact hk) hk (by rw [hpl.out]; exact hkn) hch]
            rw [hch]
            rintro e w5 ⟨v, rfl, ho5, hx5⟩
            obtain ⟨a5, n5, c5, rfl, hb5⟩ := ho5.bs
            obtain rfl : n5 = 0 := hb5.len.symm
            clear ho5 hch
            go_wp2
            go_ret
            exact ⟨rfl, hxxr.trans hx5⟩
          · have hch2 : any0 (d.take k) = false := by simpa using hch
            rw [chg_same _ st d k (by rw [hdl.out]; exact hk) hch2, crcCheck_put]
            rw [hch2]
            rintro e w5 ⟨v, rfl, ho5, hx5⟩
            obtain ⟨a5, n5, c5, rfl, hb5⟩ := ho5.bs
            have hxx5 := hxxr.trans hx5
            clear ho5 hch hch2
            go_wp2_with fail
            refine (same_ext a5 n5 c5 _ a n c _ w5 hb5 (hb.ext hxx5)).mono ?_
            rintro e w6 ⟨rfl, hx6⟩
            go_wp2
            go_ret
            exact ⟨rfl, hxx5.trans hx6⟩
end Go.Proofs.YtkflikfcpdekdaaDoor
