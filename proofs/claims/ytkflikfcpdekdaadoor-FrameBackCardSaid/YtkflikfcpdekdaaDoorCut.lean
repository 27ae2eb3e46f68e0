/-
  Frames: Cut, the program's and the reference's.
-/
import Derived.Test.YtkflikfcpdekdaaDoorFrame
namespace Go.Proofs.YtkflikfcpdekdaaDoor
open Go.RowKit

theorem infoBs : (Tryd.prog.info? 22).map (fun i => (i.zero, i.size, i.bytes)) = some (some (.slice none 0 0), 1, 24) := by kernel_rfl

set_option maxHeartbeats 800000 in
theorem fcut_calls (a : Option Addr) (n c : Nat) (l : List UInt8) (w : World) (hn : n ≤ 1000000) (ht : Tab w) (hb : Bs w a n c l) :
    Calls Tryd.prog 31 #[.slice a n c] w fun e w' => ∃ a' n' c', e = .returned (.tuple #[.slice a' n' c', .int .i64 (frCut l).2]) ∧ Bss w' a' n' c' (frCut l).1 ∧ Ext w w' := by
  have hlen := Lib.hid hb.len
  have hle := Sl.le hb
  have hmx := Sl.max hb
  unfold maxLen at hmx
  go_enter Tryd.func31, Tryd.ntmps31
  go_wp2
  go_loopw [2, 3] (fun v s wr => ∃ (L : List (List UInt8)) (k : Nat) (vs : List Value), k ≤ n ∧ L.length ≤ k ∧ s = .int .i64 k ∧ wr.ownsRow w.heap.size 22 1 v L.length vs ∧ BtAll wr 5 vs L ∧ frCut l = (L ++ (frCut (l.drop k)).1, k + (frCut (l.drop k)).2) ∧ Ext w wr) (fun _ s _ => n - (intOf s).toNat)
  case atStart => exact ⟨[], 0, [], by omega, by simp, rfl, World.ownsRow_nil _ _ _ _, BtAll.nil _ _, by simp, Ext.refl _⟩
  case round =>
    obtain ⟨L, k, vs, hk, hLk, rfl, hown, hall, hcut, hx⟩ := hrel
    have hbk : Bs wr (subA a c k 1) (n - k) (c - k) (l.drop k) := by
      have := (hb.ext hx).sub k n hk (Nat.le_refl _)
      rwa [List.take_of_length_le (by rw [List.length_drop, hlen.out]; exact Nat.le_refl _)] at this
    have HC := Lib.hid hcut
    have hownh := Lib.hid hown
    clear hcut hown
    by_cases hq : (frTake (l.drop k)).2.2 = 0
    · have hsz := frTake_size _ hq
      rw [List.length_drop, hlen.out] at hsz
      have HS := Lib.hid (frCut_step _ hq)
      have hd : Hid ((l.drop k).drop (frTake (l.drop k)).2.1 = l.drop (k + (frTake (l.drop k)).2.1)) := by show _ = _; rw [List.drop_drop]
      obtain ⟨m, hm⟩ : ∃ m, m = (frTake (l.drop k)).2.1 := ⟨_, rfl⟩
      obtain ⟨p, hp⟩ : ∃ p, p = (frTake (l.drop k)).1 := ⟨_, rfl⟩
      have hT : frTake (l.drop k) = (p, m, 0) := by rw [hm, hp, ← hq]
      have HT := Lib.hid hT
      rw [← hm] at hsz hd HS
      rw [← hp] at HS
      clear hm hp hT hq
      go_wp2_with fail
      refine (ftake_calls (subA a c k 1) (n - k) (c - k) (l.drop k) wr (ht.ext hx) hbk).mono ?_
      rw [HT.out]
      rintro e w1 ⟨a1, n1, c1, rfl, hb1, hx1⟩
      have ho1 := Lib.hid (owns_ext hownh.out hx1)
      have hall1 := Lib.hid ((hall.ext hx1).ext (Ext.alloc w1 (.cells #[.slice a1 n1 c1] 22)))
      have hxx := hx.trans hx1
      go_wp2_with (at_builtin; refine wpList_append_sl rfl _ _ 38 rfl w.heap.size 22 Tryd.underlying38 infoBs rfl (by decide) _ L.length vs rfl (ho1.out.alloc _) _ 1 1 [.slice a1 n1 c1] rfl (Sl.one w1 _ _) (by intro u hu; simp at hu; subst hu; rfl) (by omega) (by unfold maxLen; omega) (by have := hxx.size; simp; omega) ?_; intro v' w2 hown2 hgrow)
      have hall2 := hall1.out.grown hgrow (owns_block (ho1.out.alloc _)) (by decide)
      have hb2 := (hb1.ext (Ext.alloc w1 (.cells #[.slice a1 n1 c1] 22))).grown hgrow (owns_block (ho1.out.alloc _)) (by decide)
      have hx2 : Ext w w2 := (hxx.trans (Ext.alloc _ _)).grown hgrow (owns_row ho1.out)
      have hall3 := hall2.snoc hb2
      clear hall hall2 hb1
      go_wp2
      go_roundw
      case rel =>
        refine ⟨L ++ [p], k + m, _, by omega, by simp; omega, by go_num, by simpa using hown2, hall3, ?_, hx2⟩
        rw [HC.out, HS.out, hd.out]
        simp [Nat.add_assoc]
      case measure => simp [intOf]; omega
    · have HS := Lib.hid (frCut_stop _ hq)
      obtain ⟨er, her⟩ : ∃ er, er = (frTake (l.drop k)).2.2 := ⟨_, rfl⟩
      have hqb : ((er : Int) != 0) = true := by rw [bne_iff_ne]; omega
      have HT : Hid ((frTake (l.drop k)).2.2 = er) := her.symm
      clear hq her
      go_wp2_with fail
      refine (ftake_calls (subA a c k 1) (n - k) (c - k) (l.drop k) wr (ht.ext hx) hbk).mono ?_
      rw [HT.out]
      rintro e w1 ⟨a1, n1, c1, rfl, hb1, hx1⟩
      obtain ⟨a2, c2, rfl, hS⟩ := Sl.of_owns (owns_ext hownh.out hx1)
      have hall1 := (hall.ext hx1).bs
      clear hb1
      go_wp2
      go_ret2
      refine ⟨a2, L.length, c2, by rw [HC.out, HS.out]; rfl, ?_, hx.trans hx1⟩
      rw [HC.out, HS.out]
      exact ⟨vs, hS, by simpa using hall1⟩
set_option maxHeartbeats 800000 in
theorem rcut_calls (a : Option Addr) (n c : Nat) (l : List UInt8) (w : World) (hn : n ≤ 1000000) (hb : Bs w a n c l) :
    Calls Tryd.prog 32 #[.slice a n c] w fun e w' => ∃ a' n' c', e = .returned (.tuple #[.slice a' n' c', .int .i64 (frCut l).2]) ∧ Bss w' a' n' c' (frCut l).1 ∧ Ext w w' := by
  have hlen := Lib.hid hb.len
  have hle := Sl.le hb
  have hmx := Sl.max hb
  unfold maxLen at hmx
  go_enter Tryd.func32, Tryd.ntmps32
  go_wp2
  go_loopw [4, 5] (fun v s wr => ∃ (L : List (List UInt8)) (k : Nat) (vs : List Value), k ≤ n ∧ L.length ≤ k ∧ s = .int .i64 k ∧ wr.ownsRow w.heap.size 22 1 v L.length vs ∧ BtAll wr 5 vs L ∧ frCut l = (L ++ (frCut (l.drop k)).1, k + (frCut (l.drop k)).2) ∧ Ext w wr) (fun _ s _ => n - (intOf s).toNat)
  case atStart => exact ⟨[], 0, [], by omega, by simp, rfl, World.ownsRow_nil _ _ _ _, BtAll.nil _ _, by simp, Ext.refl _⟩
  case round =>
    obtain ⟨L, k, vs, hk, hLk, rfl, hown, hall, hcut, hx⟩ := hrel
    have hbk : Bs wr (subA a c k 1) (n - k) (c - k) (l.drop k) := by
      have := (hb.ext hx).sub k n hk (Nat.le_refl _)
      rwa [List.take_of_length_le (by rw [List.length_drop, hlen.out]; exact Nat.le_refl _)] at this
    have HC := Lib.hid hcut
    have hownh := Lib.hid hown
    clear hcut hown
    by_cases hq : (frTake (l.drop k)).2.2 = 0
    · have hsz := frTake_size _ hq
      rw [List.length_drop, hlen.out] at hsz
      have HS := Lib.hid (frCut_step _ hq)
      have hd : Hid ((l.drop k).drop (frTake (l.drop k)).2.1 = l.drop (k + (frTake (l.drop k)).2.1)) := by show _ = _; rw [List.drop_drop]
      obtain ⟨m, hm⟩ : ∃ m, m = (frTake (l.drop k)).2.1 := ⟨_, rfl⟩
      obtain ⟨p, hp⟩ : ∃ p, p = (frTake (l.drop k)).1 := ⟨_, rfl⟩
      have hT : frTake (l.drop k) = (p, m, 0) := by rw [hm, hp, ← hq]
      have HT := Lib.hid hT
      rw [← hm] at hsz hd HS
      rw [← hp] at HS
      clear hm hp hT hq
      go_wp2_with fail
      refine (rtake_calls (subA a c k 1) (n - k) (c - k) (l.drop k) wr hbk).mono ?_
      rw [HT.out]
      rintro e w1 ⟨a1, n1, c1, rfl, hb1, hx1⟩
      have ho1 := Lib.hid (owns_ext hownh.out hx1)
      have hall1 := Lib.hid ((hall.ext hx1).ext (Ext.alloc w1 (.cells #[.slice a1 n1 c1] 22)))
      have hxx := hx.trans hx1
      go_wp2_with (at_builtin; refine wpList_append_sl rfl _ _ 38 rfl w.heap.size 22 Tryd.underlying38 infoBs rfl (by decide) _ L.length vs rfl (ho1.out.alloc _) _ 1 1 [.slice a1 n1 c1] rfl (Sl.one w1 _ _) (by intro u hu; simp at hu; subst hu; rfl) (by omega) (by unfold maxLen; omega) (by have := hxx.size; simp; omega) ?_; intro v' w2 hown2 hgrow)
      have hall2 := hall1.out.grown hgrow (owns_block (ho1.out.alloc _)) (by decide)
      have hb2 := (hb1.ext (Ext.alloc w1 (.cells #[.slice a1 n1 c1] 22))).grown hgrow (owns_block (ho1.out.alloc _)) (by decide)
      have hx2 : Ext w w2 := (hxx.trans (Ext.alloc _ _)).grown hgrow (owns_row ho1.out)
      have hall3 := hall2.snoc hb2
      clear hall hall2 hb1
      go_wp2
      go_roundw
      case rel =>
        refine ⟨L ++ [p], k + m, _, by omega, by simp; omega, by go_num, by simpa using hown2, hall3, ?_, hx2⟩
        rw [HC.out, HS.out, hd.out]
        simp [Nat.add_assoc]
      case measure => simp [intOf]; omega
    · have HS := Lib.hid (frCut_stop _ hq)
      obtain ⟨er, her⟩ : ∃ er, er = (frTake (l.drop k)).2.2 := ⟨_, rfl⟩
      have hqb : ((er : Int) != 0) = true := by rw [bne_iff_ne]; omega
      have HT : Hid ((frTake (l.drop k)).2.2 = er) := her.symm
      clear hq her
      go_wp2_with fail
      refine (rtake_calls (subA a c k 1) (n - k) (c - k) (l.drop k) wr hbk).mono ?_
      rw [HT.out]
      rintro e w1 ⟨a1, n1, c1, rfl, hb1, hx1⟩
      obtain ⟨a2, c2, rfl, hS⟩ := Sl.of_owns (owns_ext hownh.out hx1)
      have hall1 := (hall.ext hx1).bs
      clear hb1
      go_wp2
      go_ret2
      refine ⟨a2, L.length, c2, by rw [HC.out, HS.out]; rfl, ?_, hx.trans hx1⟩
      rw [HC.out, HS.out]
      exact ⟨vs, hS, by simpa using hall1⟩

/-! ### The same payloads? -/
set_option maxHeartbeats 800000 in
theorem samess_calls (a : Option Addr) (n c : Nat) (L : List (List UInt8)) (a2 : Option Addr) (n2 c2 : Nat) (L2 : List (List UInt8)) (w : World) (hb : Bss w a n c L) (hb2 : Bss w a2 n2 c2 L2) :
    Calls Tryd.prog 33 #[.slice a n c, .slice a2 n2 c2] w fun e w' => e = .returned (.bool (L == L2)) ∧ ∃ q, w' = w.drewN q := by
  have hl1 := Lib.hid hb.len
  have hl2 := Lib.hid hb2.len
  obtain ⟨vs, hS, hV⟩ := hb
  obtain ⟨vs2, hS2, hV2⟩ := hb2
  have hm1 := Nat.le_trans hS.le hS.max
  have hm2 := Nat.le_trans hS2.le hS2.max
  unfold maxLen at hm1 hm2
  by_cases he : n = n2
  · subst he
    have hq : ((n : Int) != (n : Int)) = false := by simp
    go_enter Tryd.func33, Tryd.ntmps33
    go_wp2
    go_loopw [5] (fun i wr => ∃ k q : Nat, k ≤ n ∧ i = .int .i64 k ∧ wr = w.drewN q ∧ L.take k = L2.take k) (fun i _ => n - (intOf i).toNat)
    case atStart => exact ⟨0, 0, Nat.zero_le _, rfl, rfl, rfl⟩
    case round =>
      obtain ⟨k, q, hk, rfl, hwr, htk⟩ := hrel
      have HT := Lib.hid htk
      have HW := Lib.hid hwr
      have hxr : Ext w wr := by rw [hwr]; exact Ext.drewN _ _
      clear htk hwr
      by_cases hlt : k < n
      · obtain ⟨b, o, rfl, hc⟩ := hS.at_ (by omega)
        obtain ⟨b2, o2, rfl, hc2⟩ := hS2.at_ (by omega)
        have hkl : k < L.length := by rw [hl1.out]; exact hlt
        have hkl2 : k < L2.length := by rw [hl2.out]; exact hlt
        obtain ⟨ak, nk, ck, h1, hbk⟩ := hV.2 k hkl
        obtain ⟨ak2, nk2, ck2, h12, hbk2⟩ := hV2.2 k hkl2
        have hcell := hxr.cell (hc k (by rw [hV.1]; exact hkl))
        have hcell2 := hxr.cell (hc2 k (by rw [hV2.1]; exact hkl2))
        rw [List.getElem?_eq_getElem (by rw [hV.1]; exact hkl)] at h1
        rw [List.getElem?_eq_getElem (by rw [hV2.1]; exact hkl2)] at h12
        rw [Option.some.inj h1] at hcell
        rw [Option.some.inj h12] at hcell2
        have hsn : Hid (L.take (k + 1) = L.take k ++ [L[k]]) := List.take_succ_eq_append_getElem hkl
        have hsn2 : Hid (L2.take (k + 1) = L2.take k ++ [L2[k]]) := List.take_succ_eq_append_getElem hkl2
        have hne : Hid (L[k] ≠ L2[k] → (L == L2) = false) := fun h => by
          rw [beq_eq_false_iff_ne]; intro e; subst e; exact h rfl
        obtain ⟨x, hx⟩ : ∃ x, x = L[k] := ⟨_, rfl⟩
        obtain ⟨y, hy⟩ : ∃ x, x = L2[k] := ⟨_, rfl⟩
        rw [← hx] at hbk hsn hne
        rw [← hy] at hbk2 hsn2 hne
        have hbe := fun r => (hbk.ext hxr).ext (Ext.drewN wr r)
        have hbe2 := fun r => (hbk2.ext hxr).ext (Ext.drewN wr r)
        clear hc hc2 hx hy h1 h12
        by_cases hxy : x = y
        · subst hxy
          have hq2 : (x == x) = true := by simp
          go_wp2
          go_quiet ((go_at_call 23; exact Calls.quiet_of (same_calls ak nk ck _ ak2 nk2 ck2 _ _ (hbe _) (hbe2 _))))
          go_wp2
          go_roundw
          case rel => exact ⟨k + 1, _, by omega, by go_num, by rw [HW.out, World.drewN_drewN], by rw [hsn.out, hsn2.out, HT.out]⟩
          case measure => simp [intOf]; omega
        · have hq2 : (x == y) = false := by simpa using hxy
          have hfin := Lib.hid (hne.out hxy)
          clear hxy hne
          go_wp2
          go_quiet ((go_at_call 23; exact Calls.quiet_of (same_calls ak nk ck _ ak2 nk2 ck2 _ _ (hbe _) (hbe2 _))))
          go_wp2
          go_ret
          exact ⟨ret_bool hfin.out.symm, by rw [HW.out]; exact drewN_more _ _ _⟩
      · obtain rfl : k = n := by omega
        have hfin : Hid ((L == L2) = true) := by
          have h1 := HT.out
          rw [List.take_of_length_le (by rw [hl1.out]; exact Nat.le_refl _), List.take_of_length_le (by rw [hl2.out]; exact Nat.le_refl _)] at h1
          show _ = _
          rw [h1]; simp
        go_wp2
        go_ret
        exact ⟨ret_bool hfin.out.symm, q, HW.out⟩
  · have hq : ((n : Int) != (n2 : Int)) = true := by rw [bne_iff_ne]; omega
    have hfin : Hid ((L == L2) = false) := by
      show _ = _
      rw [beq_eq_false_iff_ne]; intro e; subst e; exact he (hl1.out.symm.trans hl2.out)
    go_enter Tryd.func33, Tryd.ntmps33
    go_wp2
    go_ret
    exact ⟨ret_bool hfin.out.symm, 0, rfl⟩
end Go.Proofs.YtkflikfcpdekdaaDoor
