/-
  FrameTorn: the walk.
-/
import Derived.Test.YtkflikfcpdekdaaDoorLaw07
namespace Go.Proofs.YtkflikfcpdekdaaDoor
open Go.RowKit

set_option maxHeartbeats 800000 in
theorem torn_walk (a : Option Addr) (n c : Nat) (l : List UInt8) (x z : Int) (w : World) (ht : Tab w) (hb : Bs w a n c l) (hx0 : 0 ≤ x) (hx1 : x ≤ 65535) (hz0 : 0 ≤ z) (hz1 : z ≤ 255) :
    Calls Tryd.prog 9 #[.slice a n c, .int .u16 x, .int .u8 z] w fun e w' => e = .returned (.bool true) ∧ Ext w w' := by
  have hl1 := Lib.hid hb.len
  by_cases hbad : n = 0 ∨ 512 < n
  · have hp : ∃ er : Nat, frPut l = ([], er) ∧ er ≠ 0 := by
      unfold frPut; rw [hl1.out]
      by_cases h0 : n = 0
      · exact ⟨1, by rw [if_pos h0], by decide⟩
      · exact ⟨12, by rw [if_neg h0, if_pos (by omega)], by decide⟩
    obtain ⟨er, hp1, hp2⟩ := hp
    have HP := Lib.hid hp1
    have hqe : ((er : Int) != 0) = true := by rw [bne_iff_ne]; omega
    clear hp1 hp2
    by_cases h0 : n = 0
    · subst h0
      go_enter Tryd.func9, Tryd.ntmps9
      go_wp2_with fail
      refine (alive07_calls w ht).mono ?_
      rintro e w1 ⟨rfl, hx1⟩
      go_wp2_with fail
      refine (fput_calls a 0 c l w1 (ht.ext hx1) (hb.ext hx1)).mono ?_
      rw [HP.out]
      rintro e w2 ⟨v, rfl, ho, hx2⟩
      obtain ⟨a2, n2, c2, rfl, hb2⟩ := ho.bs
      obtain rfl : n2 = 0 := hb2.len.symm
      clear ho
      go_wp2
      go_ret
      exact ⟨rfl, hx1.trans hx2⟩
    · have hq0 : ((n : Int) == 0) = false := by rw [beq_eq_false_iff_ne]; omega
      have hq1 : decide ((512 : Int) < (n : Int)) = true := by simp; omega
      clear hbad
      go_enter Tryd.func9, Tryd.ntmps9
      go_wp2_with fail
      refine (alive07_calls w ht).mono ?_
      rintro e w1 ⟨rfl, hx1⟩
      go_wp2_with fail
      refine (fput_calls a n c l w1 (ht.ext hx1) (hb.ext hx1)).mono ?_
      rw [HP.out]
      rintro e w2 ⟨v, rfl, ho, hx2⟩
      obtain ⟨a2, n2, c2, rfl, hb2⟩ := ho.bs
      obtain rfl : n2 = 0 := hb2.len.symm
      clear ho
      go_wp2
      go_ret
      exact ⟨rfl, hx1.trans hx2⟩
  · have hl0 : 0 < l.length := by rw [hl1.out]; omega
    have hl2 : l.length ≤ 512 := by rw [hl1.out]; omega
    have HP : Hid (frPut l = (frm l, 0)) := by show _ = _; unfold frPut; rw [hl1.out, if_neg (by omega), if_neg (by omega)]
    have hfl : Hid ((frm l).length = n + 6) := by show _ = _; rw [frm_length, hl1.out]
    have hl0h := Lib.hid hl0
    have hl2h := Lib.hid hl2
    have hn512 : n ≤ 512 := by omega
    clear hl0 hl2
    by_cases hz : z = 0
    · subst hz
      go_enter Tryd.func9, Tryd.ntmps9
      go_wp2_with fail
      refine (alive07_calls w ht).mono ?_
      rintro e w1 ⟨rfl, hx1⟩
      go_wp2_with fail
      refine (fput_calls a n c l w1 (ht.ext hx1) (hb.ext hx1)).mono ?_
      rw [HP.out]
      rintro e w2 ⟨v, rfl, ho, hx2⟩
      clear ho
      go_wp2
      go_ret
      exact ⟨rfl, hx1.trans hx2⟩
    · have hzb : (z == 0) = false := by rw [beq_eq_false_iff_ne]; exact hz
      obtain ⟨y, hy⟩ : ∃ y : UInt8, (y.toNat : Int) = z := ⟨UInt8.ofNat z.toNat, by simp; omega⟩
      have hyn : Hid (y ≠ 0) := fun e => hz (by rw [← hy, e]; rfl)
      subst hy
      obtain ⟨st, hst, hst2⟩ : ∃ st : Nat, x % ((n : Int) + 6 - 2) = st ∧ st < n + 4 := ⟨(x % ((n : Int) + 6 - 2)).toNat, by have := Int.emod_nonneg x (show ((n : Int) + 6 - 2) ≠ 0 by omega); omega, by
        have := Int.emod_nonneg x (show ((n : Int) + 6 - 2) ≠ 0 by omega)
        have := Int.emod_lt_of_pos x (show (0 : Int) < ((n : Int) + 6 - 2) by omega)
        omega⟩
      clear hz
      go_enter Tryd.func9, Tryd.ntmps9
      go_wp2_with fail
      refine (alive07_calls w ht).mono ?_
      rintro e w1 ⟨rfl, hx1⟩
      go_wp2_with fail
      refine (fput_calls a n c l w1 (ht.ext hx1) (hb.ext hx1)).mono ?_
      rw [HP.out]
      rintro e w2 ⟨v, rfl, ho, hx2⟩
      obtain ⟨a2, n2, c2, rfl, hb2⟩ := ho.bs
      obtain rfl : n2 = n + 6 := by rw [← hb2.len, hfl.out]
      obtain ⟨g, rfl, hg, -⟩ := ho.addr (by rw [hfl.out]; omega)
      have hoh := Lib.hid ho
      have hkl : 2 + st < (frm l).length := by rw [hfl.out]; omega
      obtain ⟨px, hpx⟩ : ∃ px, px = (frm l)[2 + st] := ⟨_, rfl⟩
      have hc1 : w2.cell? ⟨g, 2 + st, none⟩ = some (.int .u8 (px.toNat : Int)) := by
        rw [World.ownsRow.cellAt (cap := c2) (by have := ho; unfold Own at this; rw [hfl.out] at this; exact this) _ (by omega)]
        unfold bvs
        rw [List.getElem?_map, List.getElem?_eq_getElem hkl, ← hpx]
        rfl
      have hf1 : w2.frozen? ⟨g, 2 + st, none⟩ = false := World.ownsRow.frozenAt (cap := c2) (by have := ho; unfold Own at this; rw [hfl.out] at this; exact this) _
      have hxor : bits .xor .u8 (px.toNat : Int) (y.toNat : Int) = ((px ^^^ y).toNat : Int) := by
        rw [u8_xor_nat _ _ px.toNat_lt y.toNat_lt, UInt8.toNat_xor]
      have hso := ho.stored (by rw [hfl.out]) (2 + st) (px ^^^ y)
      have hxs : Ext w1 (w2.setCell ⟨g, 2 + st, none⟩ (bv (px ^^^ y))) := hx2.grown hso.2 (by intro j hj; cases hj; exact hg)
      have hbs := hso.1.bs_at
      have HTK : Hid (frTake ((frm l).set (2 + st) (px ^^^ y)) = ([], 0, 8)) := by
        show _ = _
        rw [hpx]; exact frm_told l hl0h.out hl2h.out (2 + st) (by omega) hkl y hyn.out
      have HCT : Hid (frCut ((frm l).set (2 + st) (px ^^^ y)) = ([], 0)) := frCut_stop _ (by rw [HTK.out]; decide)
      have hyl := y.toNat_lt
      have hpl := px.toNat_lt
      have hbsh := Lib.hid hbs
      obtain ⟨q, hq⟩ : ∃ q, q = (frm l).set (2 + st) (px ^^^ y) := ⟨_, rfl⟩
      rw [← hq] at HTK HCT hbsh
      clear hpx ho hso hb2 hbs hkl hq
      go_wp2_with fail
      have hw3 : Ext w (w2.setCell ⟨g, 2 + st, none⟩ (bv (px ^^^ y))) := hx1.trans hxs
      refine (ftake_calls (some ⟨g, 0, none⟩) (n + 6) c2 q (w2.setCell ⟨g, 2 + st, none⟩ (bv (px ^^^ y))) (ht.ext hw3) hbsh.out).mono ?_
      rw [HTK.out]
      rintro e w4 ⟨a4, n4, c4, rfl, ⟨hb4, -⟩, hx4⟩
      obtain rfl : n4 = 0 := hb4.len.symm
      have hw4 := hw3.trans hx4
      go_wp2_with fail
      refine (fcut_calls (some ⟨g, 0, none⟩) (n + 6) c2 q w4 (by omega) (ht.ext hw4) (hbsh.out.ext hx4)).mono ?_
      rw [HCT.out]
      rintro e w5 ⟨a5, n5, c5, rfl, hb5, hx5⟩
      obtain rfl : n5 = 0 := hb5.len.symm
      go_wp2
      go_ret
      exact ⟨rfl, hw4.trans hx5⟩
end Go.Proofs.YtkflikfcpdekdaaDoor
