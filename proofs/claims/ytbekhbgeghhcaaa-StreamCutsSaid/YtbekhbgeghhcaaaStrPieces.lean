/-
  Layer 19's contracts: pieces held against each other.
-/
import Derived.Test.YtbekhbgeghhcaaaStrSame
namespace Go.Proofs.Ytbekhbgeghhcaaa
open Go.RowKit

/-- In w, '.slice a n c' reads as these pieces. -/
def Ps (w : World) (a : Option Addr) (n c : Nat) (l : List Cn) : Prop := Sl w a n c 2 (pcells l)
theorem Ps.len {w : World} {a : Option Addr} {n c : Nat} {l : List Cn} (h : Ps w a n c l) : l.length = n := by
  have := Sl.len h
  rw [pcells_length] at this
  omega
theorem pcells_at : ∀ (l : List Cn) (k : Nat) (h : k < l.length), (pcells l)[k * 2]? = some (.string ⟨l[k].1.toArray⟩) ∧ (pcells l)[k * 2 + 1]? = some (.bool l[k].2)
  | x :: l, 0, _ => ⟨rfl, rfl⟩
  | x :: l, k + 1, h => by
    have ih := pcells_at l k (by simpa using h)
    have e : pcells (x :: l) = .string ⟨x.1.toArray⟩ :: .bool x.2 :: pcells l := rfl
    rw [e, show (k + 1) * 2 = k * 2 + 1 + 1 by omega]
    simpa using ih
theorem Ps.at {w : World} {a : Option Addr} {n c : Nat} {l : List Cn} (h : Ps w a n c l) (hn : 0 < n) :
    ∃ b o, a = some ⟨b, o, none⟩ ∧ ∀ k (h : k < l.length), w.cell? ⟨b, o + k * 2, none⟩ = some (.string ⟨l[k].1.toArray⟩) ∧ w.cell? ⟨b, o + k * 2 + 1, none⟩ = some (.bool l[k].2) := by
  obtain ⟨b, o, ha, hc⟩ := Sl.at_ h hn
  refine ⟨b, o, ha, fun k hk => ?_⟩
  obtain ⟨h1, h2⟩ := pcells_at l k hk
  obtain ⟨l1, e1⟩ := List.getElem?_eq_some_iff.1 h1
  obtain ⟨l2, e2⟩ := List.getElem?_eq_some_iff.1 h2
  refine ⟨?_, ?_⟩
  · rw [hc _ l1, e1]
  · rw [Nat.add_assoc, hc _ l2, e2]

set_option maxRecDepth 100000 in
set_option maxHeartbeats 800000 in
theorem psame_calls (a : Option Addr) (n c : Nat) (l : List Cn) (a2 : Option Addr) (n2 c2 : Nat) (l2 : List Cn) (w : World) (hb : Ps w a n c l) (hb2 : Ps w a2 n2 c2 l2) :
    Calls Try.prog 11 #[.slice a n c, .slice a2 n2 c2] w fun e w' => e = .returned (.bool (decide (l = l2))) ∧ Ext w w' := by
  have hl1 := Lib.hid hb.len
  have hl2 := Lib.hid hb2.len
  have hm1 := Nat.le_trans (Sl.le hb) (Sl.max hb)
  have hm2 := Nat.le_trans (Sl.le hb2) (Sl.max hb2)
  unfold maxLen at hm1 hm2
  by_cases he : n = n2
  · subst he
    have hq : ((n : Int) != (n : Int)) = false := by simp
    go_enter Try.func11, Try.ntmps11
    go_wp2
    go_loopw [5] (fun i wr => ∃ k q : Nat, k ≤ n ∧ i = .int .i64 k ∧ wr = w.drewN q ∧ l.take k = l2.take k) (fun i _ => n - (intOf i).toNat)
    case atStart => exact ⟨0, 0, Nat.zero_le _, rfl, rfl, rfl⟩
    case round =>
      obtain ⟨k, q, hk, rfl, rfl, htk⟩ := hrel
      have HT := Lib.hid htk
      clear htk
      by_cases hlt : k < n
      · obtain ⟨b, o, rfl, hc⟩ := hb.at (by omega)
        obtain ⟨b2, o2, rfl, hc2⟩ := hb2.at (by omega)
        have hkl : k < l.length := by rw [hl1.out]; exact hlt
        have hkl2 : k < l2.length := by rw [hl2.out]; exact hlt
        obtain ⟨d0, d1⟩ := hc k hkl
        obtain ⟨e0, e1⟩ := hc2 k hkl2
        have hsn : Hid (l.take (k + 1) = l.take k ++ [l[k]]) := List.take_succ_eq_append_getElem hkl
        have hsn2 : Hid (l2.take (k + 1) = l2.take k ++ [l2[k]]) := List.take_succ_eq_append_getElem hkl2
        have hne : Hid (l[k] ≠ l2[k] → decide (l = l2) = false) := fun h => by
          rw [decide_eq_false_iff_not]; intro e; subst e; exact h rfl
        obtain ⟨⟨x, xo⟩, hx⟩ : ∃ x, x = l[k] := ⟨_, rfl⟩
        obtain ⟨⟨y, yo⟩, hy⟩ : ∃ x, x = l2[k] := ⟨_, rfl⟩
        rw [← hx] at d0 d1 hsn hne
        rw [← hy] at e0 e1 hsn2 hne
        dsimp only at d0 d1 e0 e1
        clear hc hc2 hx hy
        by_cases hxy : (x, xo) = (y, yo)
        · cases hxy
          go_wp2
          go_quiet (fail)
          go_wp2
          go_roundw
          case rel => exact ⟨k + 1, _, by omega, by go_num, rfl, by rw [hsn.out, hsn2.out, HT.out]⟩
          case measure => simp [intOf]; omega
        · have hfin := Lib.hid (hne.out hxy)
          clear hne
          by_cases hx1 : x = y
          · subst hx1
            have hx2 : xo ≠ yo := fun h => hxy (by rw [h])
            have hx3 : (xo == yo) = false := by simp [hx2]
            clear hxy
            go_wp2
            go_region
            go_wp2
            go_ret
            exact ⟨ret_bool hfin.out.symm, Ext.drewN _ _⟩
          · clear hxy
            go_wp2
            go_region
            go_wp2
            go_ret
            exact ⟨ret_bool hfin.out.symm, Ext.drewN _ _⟩
      · obtain rfl : k = n := by omega
        have hfin : Hid (decide (l = l2) = true) := by
          have h1 := HT.out
          rw [List.take_of_length_le (by rw [hl1.out]; exact Nat.le_refl _), List.take_of_length_le (by rw [hl2.out]; exact Nat.le_refl _)] at h1
          show _ = _
          rw [h1]; simp
        go_wp2
        go_ret
        exact ⟨ret_bool hfin.out.symm, Ext.drewN _ _⟩
  · have hq : ((n : Int) != (n2 : Int)) = true := by rw [bne_iff_ne]; omega
    have hfin : Hid (decide (l = l2) = false) := by
      show _ = _
      rw [decide_eq_false_iff_not]; intro e; subst e; exact he (hl1.out.symm.trans hl2.out)
    go_enter Try.func11, Try.ntmps11
    go_wp2
    go_ret
    exact ⟨ret_bool hfin.out.symm, Ext.refl _⟩
end Go.Proofs.Ytbekhbgeghhcaaa
