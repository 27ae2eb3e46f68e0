/-
  Frames: Join, the program's and the reference's; the law's bound on what is joined.
-/
import Derived.Test.YtkflikfcpdekdaaDoorLaw07
namespace Go.Proofs.YtkflikfcpdekdaaDoor
open Go.RowKit

set_option maxHeartbeats 800000 in
theorem fjoin_calls (a : Option Addr) (n c : Nat) (L : List (List UInt8)) (w : World) (hn : n ≤ 1000) (ht : Tab w) (hb : Bss w a n c L) :
    Calls Tryd.prog 35 #[.slice a n c] w fun e w' => ∃ v, e = .returned (.tuple #[v, .int .i64 (frJoin L).2]) ∧ Own w' w.heap.size 5 v (frJoin L).1 ∧ Ext w w' := by
  have hl1 := Lib.hid hb.len
  obtain ⟨vs, hS, hV⟩ := hb
  go_enter Tryd.func35, Tryd.ntmps35
  go_wp2
  go_loopw [4, 11] (fun v i wr => ∃ (k : Nat) (pre : List UInt8), k ≤ n ∧ i = .int .i64 k ∧ pre.length ≤ 518 * k ∧ Own wr w.heap.size 5 v pre ∧ frJoin L = jn pre (frJoin (L.drop k)) ∧ Ext w wr) (fun _ i _ => n - (intOf i).toNat)
  case atStart => exact ⟨0, [], by omega, rfl, by simp, own_nil _ _ _, (jn_start L).symm, Ext.refl _⟩
  case round =>
    obtain ⟨k, pre, hk, rfl, hpl, hown, hj, hx⟩ := hrel
    have HJ := Lib.hid hj
    have hownh := Lib.hid hown
    clear hj hown
    by_cases hlt : k < n
    · obtain ⟨b, o, rfl, hc⟩ := hS.at_ (by omega)
      have hkl : k < L.length := by rw [hl1.out]; exact hlt
      obtain ⟨ak, nk, ck, h1, hbk⟩ := hV.2 k hkl
      have hcell := hx.cell (hc k (by rw [hV.1]; exact hkl))
      rw [List.getElem?_eq_getElem (by rw [hV.1]; exact hkl)] at h1
      rw [Option.some.inj h1] at hcell
      have HD : Hid (L.drop k = L[k] :: L.drop (k + 1)) := List.drop_eq_getElem_cons hkl
      obtain ⟨p, hp⟩ : ∃ p, p = L[k] := ⟨_, rfl⟩
      rw [← hp] at hbk HD
      clear hc h1 hp
      by_cases hq : (frPut p).2 = 0
      · have HP := Lib.hid (frPut_ok p hq)
        have HN : Hid (jn pre (frJoin (p :: L.drop (k + 1))) = jn (pre ++ frm p) (frJoin (L.drop (k + 1)))) := jn_step _ _ _ hq
        have hp512 : Hid (p.length ≤ 512) := by
          unfold frPut at hq
          show _ ≤ _
          by_cases h1 : p.length = 0
          · omega
          · rw [if_neg h1] at hq
            by_cases h2 : 512 < p.length
            · rw [if_pos h2] at hq; cases hq
            · omega
        clear hq
        go_wp2_with fail
        refine (fput_calls ak nk ck p wr (ht.ext hx) (hbk.ext hx)).mono ?_
        rw [HP.out]
        rintro e w1 ⟨v1, rfl, ho1, hx1⟩
        obtain ⟨a1, n1, c1, rfl, hb1⟩ := ho1.bs
        have hn1 : n1 ≤ 518 := by rw [← hb1.len, frm_length]; have := hp512.out; omega
        have hb1h := Lib.hid hb1
        have ho2 := Lib.hid (hownh.out.ext hx1)
        have hxx := hx.trans hx1
        clear ho1 hb1
        go_wp2_with (at_builtin; refine wpList_append_bytes rfl _ _ 22 rfl w 5 Tryd.underlying22 infoU8 _ _ rfl ho2.out hxx _ n1 c1 _ rfl hb1h.out (by omega) ?_; intro v' w3 hown3 hx3 hgrow)
        go_roundw
        case rel => exact ⟨k + 1, pre ++ frm p, by omega, by go_num, by rw [List.length_append, frm_length]; have := hp512.out; omega, hown3, by rw [HJ.out, HD.out, HN.out], hx3⟩
        case measure => simp [intOf]; omega
      · have HP := Lib.hid (frPut_bad p hq)
        have HN : Hid (jn pre (frJoin (p :: L.drop (k + 1))) = ([], (frPut p).2)) := jn_bad _ _ _ hq
        obtain ⟨er, her⟩ : ∃ er, er = (frPut p).2 := ⟨_, rfl⟩
        have hqe : ((er : Int) != 0) = true := by rw [bne_iff_ne]; omega
        rw [← her] at HP HN
        clear hq her
        go_wp2_with fail
        refine (fput_calls ak nk ck p wr (ht.ext hx) (hbk.ext hx)).mono ?_
        rw [HP.out]
        rintro e w1 ⟨v1, rfl, ho1, hx1⟩
        clear ho1
        go_wp2
        go_ret2
        exact ⟨_, by rw [HJ.out, HD.out, HN.out]; rfl, by rw [HJ.out, HD.out, HN.out]; exact own_nil _ _ _, hx.trans hx1⟩
    · obtain rfl : k = n := by omega
      have HE : Hid (frJoin L = (pre, 0)) := by show _ = _; rw [HJ.out, List.drop_of_length_le (by rw [hl1.out]; exact Nat.le_refl _), jn_end]
      go_wp2
      go_ret2
      exact ⟨_, by rw [HE.out]; rfl, by rw [HE.out]; exact hownh.out, hx⟩

set_option maxHeartbeats 800000 in
theorem rjoin_calls (a : Option Addr) (n c : Nat) (L : List (List UInt8)) (w : World) (hn : n ≤ 1000) (hb : Bss w a n c L) :
    Calls Tryd.prog 36 #[.slice a n c] w fun e w' => ∃ v, e = .returned (.tuple #[v, .int .i64 (frJoin L).2]) ∧ Own w' w.heap.size 5 v (frJoin L).1 ∧ Ext w w' := by
  have hl1 := Lib.hid hb.len
  obtain ⟨vs, hS, hV⟩ := hb
  go_enter Tryd.func36, Tryd.ntmps36
  go_wp2
  go_loopw [4, 5] (fun v i wr => ∃ (k : Nat) (pre : List UInt8), k ≤ n ∧ i = .int .i64 k ∧ pre.length ≤ 518 * k ∧ Own wr w.heap.size 5 v pre ∧ frJoin L = jn pre (frJoin (L.drop k)) ∧ Ext w wr) (fun _ i _ => n - (intOf i).toNat)
  case atStart => exact ⟨0, [], by omega, rfl, by simp, own_nil _ _ _, (jn_start L).symm, Ext.refl _⟩
  case round =>
    obtain ⟨k, pre, hk, rfl, hpl, hown, hj, hx⟩ := hrel
    have HJ := Lib.hid hj
    have hownh := Lib.hid hown
    clear hj hown
    by_cases hlt : k < n
    · obtain ⟨b, o, rfl, hc⟩ := hS.at_ (by omega)
      have hkl : k < L.length := by rw [hl1.out]; exact hlt
      obtain ⟨ak, nk, ck, h1, hbk⟩ := hV.2 k hkl
      have hcell := hx.cell (hc k (by rw [hV.1]; exact hkl))
      rw [List.getElem?_eq_getElem (by rw [hV.1]; exact hkl)] at h1
      rw [Option.some.inj h1] at hcell
      have HD : Hid (L.drop k = L[k] :: L.drop (k + 1)) := List.drop_eq_getElem_cons hkl
      obtain ⟨p, hp⟩ : ∃ p, p = L[k] := ⟨_, rfl⟩
      rw [← hp] at hbk HD
      clear hc h1 hp
      by_cases hq : (frPut p).2 = 0
      · have HP := Lib.hid (frPut_ok p hq)
        have HN : Hid (jn pre (frJoin (p :: L.drop (k + 1))) = jn (pre ++ frm p) (frJoin (L.drop (k + 1)))) := jn_step _ _ _ hq
        have hp512 : Hid (p.length ≤ 512) := by
          unfold frPut at hq
          show _ ≤ _
          by_cases h1 : p.length = 0
          · omega
          · rw [if_neg h1] at hq
            by_cases h2 : 512 < p.length
            · rw [if_pos h2] at hq; cases hq
            · omega
        clear hq
        go_wp2_with fail
        refine (rfput_calls ak nk ck p wr (hbk.ext hx)).mono ?_
        rw [HP.out]
        rintro e w1 ⟨v1, rfl, ho1, hx1⟩
        obtain ⟨a1, n1, c1, rfl, hb1⟩ := ho1.bs
        have hn1 : n1 ≤ 518 := by rw [← hb1.len, frm_length]; have := hp512.out; omega
        have hb1h := Lib.hid hb1
        have ho2 := Lib.hid (hownh.out.ext hx1)
        have hxx := hx.trans hx1
        clear ho1 hb1
        go_wp2_with (at_builtin; refine wpList_append_bytes rfl _ _ 22 rfl w 5 Tryd.underlying22 infoU8 _ _ rfl ho2.out hxx _ n1 c1 _ rfl hb1h.out (by omega) ?_; intro v' w3 hown3 hx3 hgrow)
        go_roundw
        case rel => exact ⟨k + 1, pre ++ frm p, by omega, by go_num, by rw [List.length_append, frm_length]; have := hp512.out; omega, hown3, by rw [HJ.out, HD.out, HN.out], hx3⟩
        case measure => simp [intOf]; omega
      · have HP := Lib.hid (frPut_bad p hq)
        have HN : Hid (jn pre (frJoin (p :: L.drop (k + 1))) = ([], (frPut p).2)) := jn_bad _ _ _ hq
        obtain ⟨er, her⟩ : ∃ er, er = (frPut p).2 := ⟨_, rfl⟩
        have hqe : ((er : Int) != 0) = true := by rw [bne_iff_ne]; omega
        rw [← her] at HP HN
        clear hq her
        go_wp2_with fail
        refine (rfput_calls ak nk ck p wr (hbk.ext hx)).mono ?_
        rw [HP.out]
        rintro e w1 ⟨v1, rfl, ho1, hx1⟩
        clear ho1
        go_wp2
        go_ret2
        exact ⟨_, by rw [HJ.out, HD.out, HN.out]; rfl, by rw [HJ.out, HD.out, HN.out]; exact own_nil _ _ _, hx.trans hx1⟩
    · obtain rfl : k = n := by omega
      have HE : Hid (frJoin L = (pre, 0)) := by show _ = _; rw [HJ.out, List.drop_of_length_le (by rw [hl1.out]; exact Nat.le_refl _), jn_end]
      go_wp2
      go_ret2
      exact ⟨_, by rw [HE.out]; rfl, by rw [HE.out]; exact hownh.out, hx⟩

/-- What 'many' answers of a list: where it says no, so few. -/
def FewIf (L : List (List UInt8)) (w : World) (e : Ending) (w' : World) : Prop := ∃ b, e = .returned (.bool b) ∧ (b = false → L.length ≤ 200 ∧ L.flatten.length ≤ 5000) ∧ w = w'

set_option maxHeartbeats 800000 in
theorem many_calls (a : Option Addr) (n c : Nat) (L : List (List UInt8)) (w : World) (hb : Bss w a n c L) :
    Calls Tryd.prog 34 #[.slice a n c] w (FewIf L w) := by
  have hl1 := Lib.hid hb.len
  obtain ⟨vs, hS, hV⟩ := hb
  have hm := Nat.le_trans hS.le hS.max
  unfold maxLen at hm
  go_enter Tryd.func34, Tryd.ntmps34
  go_wp2
  go_loop [3, 4] (fun v i => ∃ k s : Nat, k ≤ n ∧ i = .int .i64 k ∧ v = .int .i64 s ∧ L.length ≤ s ∧ (s ≤ 5000 → s = L.length + (L.take k).flatten.length)) (fun _ i => n - (intOf i).toNat)
  case atStart => exact ⟨0, n, by omega, rfl, rfl, by rw [hl1.out]; exact Nat.le_refl _, fun _ => by simp [hl1.out]⟩
  case round =>
    obtain ⟨k, s, hk, rfl, rfl, hsl, hss⟩ := hrel
    have HS := Lib.hid hss
    clear hss
    by_cases hlt : k < n ∧ s ≤ 5000
    · obtain ⟨hlt, hs5⟩ := hlt
      have hs5i : (s : Int) ≤ 5000 := by omega
      obtain ⟨b, o, rfl, hc⟩ := hS.at_ (by omega)
      have hkl : k < L.length := by rw [hl1.out]; exact hlt
      obtain ⟨ak, nk, ck, h1, hbk⟩ := hV.2 k hkl
      have hcell := hc k (by rw [hV.1]; exact hkl)
      rw [List.getElem?_eq_getElem (by rw [hV.1]; exact hkl)] at h1
      rw [Option.some.inj h1] at hcell
      have HN : Hid ((L.take (k + 1)).flatten.length = (L.take k).flatten.length + nk) := by show _ = _; rw [flatten_take_succ L k hkl, List.length_append, hbk.len]
      have hnm := Nat.le_trans (Sl.le hbk) (Sl.max hbk)
      unfold maxLen at hnm
      clear hc h1
      go_wp2
      go_round
      case rel =>
        refine ⟨k + 1, s + min nk 10000, by omega, by go_num, ?_, by omega, fun h => ?_⟩
        · congr 1
          split <;> omega
        · have h1 := HS.out hs5
          rw [HN.out]
          omega
      case measure => simp [intOf]; omega
    · by_cases h5 : 5000 < s
      · have h5i : (5000 : Int) < (s : Int) := by omega
        by_cases hkn : k < n
        · go_wp2
          go_ret
          exact ⟨true, rfl, (fun h => by cases h), rfl⟩
        · obtain rfl : k = n := by omega
          go_wp2
          go_ret
          exact ⟨true, rfl, (fun h => by cases h), rfl⟩
      · obtain rfl : k = n := by omega
        have h5i : decide ((5000 : Int) < (s : Int)) = false := by simp; omega
        by_cases h2 : 200 < k
        · have h2i : decide ((200 : Int) < (k : Int)) = true := by simp; omega
          go_wp2
          go_ret
          exact ⟨true, rfl, (fun h => by cases h), rfl⟩
        · have h2i : decide ((200 : Int) < (k : Int)) = false := by simp; omega
          have hfin : Hid (L.length ≤ 200 ∧ L.flatten.length ≤ 5000) := by
            have h1 := HS.out (by omega)
            rw [List.take_of_length_le (by rw [hl1.out]; exact Nat.le_refl _)] at h1
            have h3 := hl1.out
            exact ⟨by omega, by omega⟩
          go_wp2
          go_ret
          exact ⟨false, rfl, fun _ => hfin.out, rfl⟩
end Go.Proofs.YtkflikfcpdekdaaDoor
