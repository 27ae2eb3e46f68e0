/-
  FrameBack: the walk.
-/
import Derived.Test.YtkflikfcpdekdaaDoorJoin
namespace Go.Proofs.YtkflikfcpdekdaaDoor
open Go.RowKit

theorem Bss.take {w : World} {a : Option Addr} {n c : Nat} {L : List (List UInt8)} (h : Bss w a n c L) (k : Nat) (hk : k ≤ n) : Bss w a k c (L.take k) := by
  have hl := h.len
  obtain ⟨vs, hS, hV⟩ := h
  have hvl : vs.length = n := by rw [hV.1, hl]
  refine ⟨vs.take k, ⟨by rw [List.length_take, hvl]; omega, by have := hS.le; omega, hS.max, hS.nil, fun hn => ?_⟩, by rw [List.length_take, List.length_take, hV.1], fun i hi => ?_⟩
  · obtain ⟨b, o, ha, hc⟩ := hS.at_ (by omega)
    refine ⟨b, o, ha, fun i hi => ?_⟩
    rw [List.length_take] at hi
    rw [hc i (by omega)]
    simp
  · rw [List.length_take] at hi
    obtain ⟨a', n', c', h1, h2⟩ := hV.2 i (by omega)
    refine ⟨a', n', c', ?_, by simpa using h2⟩
    rw [List.getElem?_take_of_lt (by omega)]
    exact h1

theorem getElem_le_flatten (L : List (List UInt8)) (k : Nat) (hk : k < L.length) : L[k].length ≤ L.flatten.length := by
  induction L generalizing k with
  | nil => simp at hk
  | cons p M ih =>
    rw [List.flatten_cons, List.length_append]
    cases k with
    | zero => simp
    | succ j =>
      have := ih j (by simpa using hk)
      simp only [List.getElem_cons_succ]
      omega

set_option maxHeartbeats 1600000 in
theorem back_walk (a : Option Addr) (n c : Nat) (L : List (List UInt8)) (x : Int) (w : World) (ht : Tab w) (hb : Bss w a n c L) (hx0 : 0 ≤ x) (hx1 : x ≤ 65535) :
    Calls Tryd.prog 10 #[.slice a n c, .int .u16 x] w fun e w' => e = .returned (.bool true) ∧ Ext w w' := by
  have hl1 := Lib.hid hb.len
  go_enter Tryd.func10, Tryd.ntmps10
  go_wp2_with fail
  refine (alive07_calls w ht).mono ?_
  rintro e w1 ⟨rfl, hx1⟩
  go_wp2_with fail
  refine (many_calls a n c L w1 (hb.ext hx1)).mono ?_
  rintro e w' ⟨bm, rfl, hfew, rfl⟩
  cases bm with
  | true =>
    clear hfew
    go_wp2
    go_ret
    exact ⟨rfl, hx1⟩
  | false =>
    have hfew2 := Lib.hid (hfew rfl)
    have hn : n ≤ 200 := by have := hfew2.out.1; rw [hl1.out] at this; exact this
    clear hfew
    go_wp2_with fail
    refine (fjoin_calls a n c L w1 (by omega) (ht.ext hx1) (hb.ext hx1)).mono ?_
    rintro e w2 ⟨v, rfl, ho, hx2⟩
    obtain ⟨a2, n2, c2, rfl, hb2⟩ := ho.bs
    have hxx2 := hx1.trans hx2
    clear ho
    go_wp2_with fail
    refine (rjoin_calls a n c L w2 (by omega) (hb.ext hxx2)).mono ?_
    rintro e w3 ⟨v, rfl, ho, hx3⟩
    obtain ⟨a3, n3, c3, rfl, hb3⟩ := ho.bs
    have hxx3 := hxx2.trans hx3
    have hqe : (((frJoin L).2 : Int) != ((frJoin L).2 : Int)) = false := by simp
    clear ho
    go_wp2_with fail
    refine (same_ext a2 n2 c2 _ a3 n3 c3 _ w3 (hb2.ext hx3) hb3).mono ?_
    rintro e w4 ⟨rfl, hx4⟩
    have hq1 : ((frJoin L).1 == (frJoin L).1) = true := by simp
    have hxx4 := hxx3.trans hx4
    by_cases hj : (frJoin L).2 = 0
    · obtain ⟨hall, hjo⟩ := frJoin_ok L hj
      have hlen := joined_length L
      rw [← hjo] at hlen
      have hn2 : Hid (n2 = (frJoin L).1.length) := hb2.len.symm
      have hn2b : n2 ≤ 6200 := by have := hfew2.out.2; rw [hn2.out, hlen, hl1.out]; omega
      have HC : Hid (frCut (frJoin L).1 = (L, n2)) := by show _ = _; rw [hn2.out, hjo]; exact frCut_join L hall
      have HW : Hid (∀ e, frCut ((frJoin L).1.take e) = whole L e) := by intro e; rw [hjo]; exact frCut_whole L e hall
      have hqj : (((frJoin L).2 : Int) != 0) = false := by rw [hj]; rfl
      have hb2h := Lib.hid (hb2.ext (hx3.trans hx4))
      clear hj hall hjo hlen hb2 hb3 hqe
      go_wp2_with fail
      refine (fcut_calls a2 n2 c2 _ w4 (by omega) (ht.ext hxx4) hb2h.out).mono ?_
      rw [HC.out]
      rintro e w5 ⟨a5, n5, c5, rfl, hb5, hx5⟩
      have hxx5 := hxx4.trans hx5
      go_wp2_with fail
      refine (samess_ext a5 n5 c5 _ a n c _ w5 hb5 (hb.ext hxx5)).mono ?_
      rintro e w6 ⟨rfl, hx6⟩
      have hq2 : (L == L) = true := by simp
      have hqn : ((n2 : Int) != (n2 : Int)) = false := by simp
      have hxx6 := hxx5.trans hx6
      obtain ⟨en, hen, hen2⟩ : ∃ en : Nat, x % ((n2 : Int) + 1) = en ∧ en ≤ n2 := ⟨(x % ((n2 : Int) + 1)).toNat, by have := Int.emod_nonneg x (show ((n2 : Int) + 1) ≠ 0 by omega); omega, by
        have := Int.emod_nonneg x (show ((n2 : Int) + 1) ≠ 0 by omega)
        have := Int.emod_lt_of_pos x (show (0 : Int) < ((n2 : Int) + 1) by omega)
        omega⟩
      have hc2 := Sl.le hb2h.out
      go_wp2_with fail
      rw [hen]
      clear hen
      refine (fcut_calls a2 en c2 ((frJoin L).1.take en) w6 (by omega) (ht.ext hxx6) ((hb2h.out.ext (hx5.trans hx6)).take en hen2)).mono ?_
      rw [HW.out]
      rintro e w7 ⟨a7, n7, c7, rfl, hb7, hx7⟩
      have hxx7 := hxx6.trans hx7
      obtain ⟨wl, hwl⟩ : ∃ wl, wl = whole L en := ⟨_, rfl⟩
      rw [← hwl] at hb7 ⊢
      have hb7h := Lib.hid hb7
      have HWL := Lib.hid hwl
      have hbx := hb.ext hxx7
      have hnl : Hid (L.length = n) := hl1
      obtain ⟨vs, hS, hV⟩ := hbx
      have hle := hS.le
      have hmx := hS.max
      unfold maxLen at hmx
      have hbig : Hid (∀ (k : Nat) (hk : k < L.length), L[k].length ≤ 6200) := by intro k hk; have h1 := getElem_le_flatten L k hk; have h2 := hfew2.out.2; omega
      clear hwl hb7 hb5 hqn hqj hfew2 HW HC
      go_wp2
      go_loop [14, 15, 16] (fun sz wh i => ∃ k s : Nat, k ≤ n ∧ s ≤ en ∧ i = .int .i64 k ∧ wh = .int .i64 k ∧ sz = .int .i64 s ∧ wl = (L.take k ++ (whole (L.drop k) (en - s)).1, s + (whole (L.drop k) (en - s)).2)) (fun _ _ i => n - (intOf i).toNat)
      case atStart => exact ⟨0, 0, by omega, by omega, rfl, rfl, rfl, by rw [HWL.out]; simp⟩
      case round =>
        obtain ⟨k, s, hk, hs, rfl, rfl, rfl, hw0⟩ := hrel
        have HW0 := Lib.hid hw0
        clear hw0
        by_cases hlt : k < n
        · obtain ⟨b, o, rfl, hc⟩ := hS.at_ (by omega)
          have hkl : k < L.length := by rw [hnl.out]; exact hlt
          obtain ⟨ak, nk, ck, h1, hbk⟩ := hV.2 k hkl
          have hcell := hc k (by rw [hV.1]; exact hkl)
          rw [List.getElem?_eq_getElem (by rw [hV.1]; exact hkl)] at h1
          rw [Option.some.inj h1] at hcell
          have hlk : Hid (L[k].length = nk) := hbk.len
          have hnm : nk ≤ 6200 := by have := hbig.out k hkl; rw [hlk.out] at this; exact this
          clear hc h1
          by_cases hfit : s + nk + 6 ≤ en
          · have hfi : (s : Int) + (nk : Int) + 6 ≤ (en : Int) := by omega
            have hst := Lib.hid (whole_step L k (en - s) hkl (by rw [hlk.out]; omega))
            go_wp2
            go_round
            case rel =>
              refine ⟨k + 1, s + (nk + 6), by omega, by omega, by go_num, by go_num, by go_num, ?_⟩
              rw [HW0.out, hst.out, hlk.out, List.take_succ_eq_append_getElem hkl, show en - s - (nk + 6) = en - (s + (nk + 6)) by omega]
              simp only [List.append_assoc, List.cons_append, List.nil_append, Nat.add_assoc]
            case measure => simp [intOf]; omega
          · have hfi : ¬ ((s : Int) + (nk : Int) + 6 ≤ (en : Int)) := by omega
            have hfd : decide ((s : Int) + (nk : Int) + 6 ≤ (en : Int)) = false := by simp; omega
            have hst := Lib.hid (whole_stop L k (en - s) (fun h => by rw [hlk.out]; omega))
            have HE : Hid (wl = (L.take k, s)) := by show _ = _; rw [HW0.out, hst.out]; simp
            have hbt : Bss w7 (some ⟨b, o, none⟩) k c (L.take k) := Bss.take ⟨vs, hS, hV⟩ k hk
            rw [HE.out] at hb7h ⊢
            have hkc : (k : Int) ≤ (c : Int) := by omega
            go_wp2_with fail
            refine (samess_ext a7 n7 c7 _ (some ⟨b, o, none⟩) k c _ w7 hb7h.out hbt).mono ?_
            rintro e w8 ⟨rfl, hx8⟩
            have hq3 : (L.take k == L.take k) = true := by simp
            go_wp2
            go_ret
            exact ⟨rfl, hxx7.trans hx8⟩
        · obtain rfl : k = n := by omega
          have hst := Lib.hid (whole_stop L k (en - s) (fun h => by exact absurd h (by rw [hnl.out]; omega)))
          have HE : Hid (wl = (L.take k, s)) := by show _ = _; rw [HW0.out, hst.out]; simp
          have hbt : Bss w7 a k c (L.take k) := Bss.take ⟨vs, hS, hV⟩ k hk
          rw [HE.out] at hb7h ⊢
          have hkc : (k : Int) ≤ (c : Int) := by omega
          go_wp2_with fail
          refine (samess_ext a7 n7 c7 _ a k c _ w7 hb7h.out hbt).mono ?_
          rintro e w8 ⟨rfl, hx8⟩
          have hq3 : (L.take k == L.take k) = true := by simp
          go_wp2
          go_ret
          exact ⟨rfl, hxx7.trans hx8⟩
    · have hqj : (((frJoin L).2 : Int) != 0) = true := by rw [bne_iff_ne]; omega
      have hempty : (frJoin L).1 = [] := by
        cases hL : L with
        | nil => rw [hL] at hj; exact absurd rfl hj
        | cons p M =>
          rw [hL] at hj
          rw [frJoin_cons] at hj ⊢
          split
          · rename_i h1
            rw [if_pos h1] at hj
            split
            · rename_i h2; rw [if_pos h2] at hj; exact absurd rfl hj
            · rfl
          · rfl
      have hn20 : n2 = 0 := by rw [← hb2.len, hempty]; rfl
      subst hn20
      clear hj hempty hqe
      go_wp2
      go_ret
      exact ⟨rfl, hxx4⟩
end Go.Proofs.YtkflikfcpdekdaaDoor
