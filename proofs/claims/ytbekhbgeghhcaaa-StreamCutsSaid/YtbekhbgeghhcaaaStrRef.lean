/-
  Layer 19's contracts: the document's Right, Rest; the code's Rest.
-/
import Derived.Test.YtbekhbgeghhcaaaStrRight
namespace Go.Proofs.Ytbekhbgeghhcaaa
open Go.RowKit

set_option maxRecDepth 100000 in
set_option maxHeartbeats 800000 in
theorem rright_calls (a : Option Addr) (n c : Nat) (l : List UInt8) (o : Bool) (w : World) (hb : Bs w a n c l) :
    Calls Try.prog 13 #[cv a n c o] w fun e w' => e = .returned (.bool (crt (l, o))) ∧ Ext w w' := by
  have hlen := Lib.hid hb.len
  have hm := Nat.le_trans hb.le hb.max
  unfold maxLen at hm
  have hx := Ext.alloc w (.cells #[.slice a n c, .bool o] 24)
  have hc := Lib.hid (crt_iff (l, o))
  obtain ⟨r, hr⟩ : ∃ r, crt (l, o) = r := ⟨_, rfl⟩
  rw [hr] at hc ⊢
  clear hr
  unfold cv
  go_enter Try.func13, Try.ntmps13
  go_wp2
  go_loopw [3] (fun i wr => ∃ k q : Nat, k ≤ n ∧ i = .int .i64 k ∧ wr = (w.alloc (.cells #[.slice a n c, .bool o] 24)).drewN q ∧ ∀ b ∈ l.take k, b ≠ 10) (fun i _ => n - (intOf i).toNat)
  case atStart => exact ⟨0, 0, Nat.zero_le _, rfl, rfl, by simp⟩
  case round =>
    obtain ⟨k, q, hk, rfl, rfl, htk⟩ := hrel
    have HT := Lib.hid htk
    clear htk
    by_cases hlt : k < n
    · obtain ⟨b, off, rfl, hcl⟩ := hb.at (by omega)
      have hkl : k < l.length := by rw [hlen.out]; exact hlt
      have hcell := hx.cell (hcl k hkl)
      have hsn : Hid (l.take (k + 1) = l.take k ++ [l[k]]) := List.take_succ_eq_append_getElem hkl
      have hmem : Hid (l[k] ∈ l) := List.getElem_mem hkl
      obtain ⟨x, hxk⟩ : ∃ x, x = l[k] := ⟨_, rfl⟩
      rw [← hxk] at hcell hsn hmem
      clear hcl hxk
      by_cases hxy : x = 10
      · subst hxy
        obtain rfl : r = false := by
          cases r with
          | false => rfl
          | true => exact absurd rfl ((hc.out.1 rfl).1 _ hmem.out)
        go_wp2
        go_ret
        exact ⟨rfl, hx.trans (Ext.drewN _ _)⟩
      · have hxi : ((x.toNat : Int) == 10) = false := by
          rw [beq_eq_false_iff_ne]
          intro h
          exact hxy (UInt8.toNat_inj.1 (by show x.toNat = 10; omega))
        go_wp2
        go_roundw
        case rel =>
          refine ⟨k + 1, _, by omega, by go_num, rfl, ?_⟩
          rw [hsn.out]
          intro y hy
          rcases List.mem_append.1 hy with hy | hy
          · exact HT.out y hy
          · simp at hy; subst hy; exact hxy
        case measure => simp [intOf]; omega
    · obtain rfl : k = n := by omega
      have hall : Hid (∀ b ∈ l, b ≠ 10) := by have := HT.out; rwa [← hlen.out, List.take_length] at this
      have hnil : Hid (l = [] ↔ k = 0) := by show _ ↔ _; rw [← hlen.out]; exact List.length_eq_zero_iff.symm
      have hr : Hid (r = true ↔ k ≤ 200 ∧ (o = true → k = 0)) := by
        show _ ↔ _
        rw [hc.out, ← hnil.out, ← hlen.out]
        exact ⟨fun h => h.2, fun h => ⟨hall.out, h⟩⟩
      clear hc HT
      by_cases h2 : (k : Int) ≤ 200
      · cases o with
        | false =>
          obtain rfl : r = true := hr.out.2 ⟨by omega, fun h => by cases h⟩
          go_wp2
          go_ret
          exact ⟨rfl, hx.trans (Ext.drewN _ _)⟩
        | true =>
          obtain rfl : r = ((k : Int) == 0) := by
            rw [Bool.eq_iff_iff, hr.out]
            simp; omega
          go_wp2
          go_ret
          exact ⟨rfl, hx.trans (Ext.drewN _ _)⟩
      · obtain rfl : r = false := by
          cases r with
          | false => rfl
          | true => have := hr.out.1 rfl; omega
        go_wp2
        go_ret
        exact ⟨rfl, hx.trans (Ext.drewN _ _)⟩

/-- How many bytes of a line. -/
def rst (c : Cn) : Int := if crt c then (if c.2 then 201 else c.1.length) else 0
set_option maxRecDepth 100000 in
theorem rest_calls (a : Option Addr) (n c : Nat) (l : List UInt8) (o : Bool) (w : World) (hb : Bs w a n c l) :
    Calls Try.prog 14 #[cv a n c o] w fun e w' => e = .returned (.int .i64 (rst (l, o))) ∧ Ext w w' := by
  have hlen := hb.len
  have hx := Ext.alloc w (.cells #[.slice a n c, .bool o] 24)
  have hr := right_calls a n c l o _ (hb.ext hx)
  unfold rst
  dsimp only
  rw [hlen]
  obtain ⟨r, hr2⟩ : ∃ r, crt (l, o) = r := ⟨_, rfl⟩
  rw [hr2] at hr ⊢
  unfold cv at hr ⊢
  cases r <;> cases o <;>
  · go_enter Try.func14, Try.ntmps14
    go_wp2_with fail
    refine hr.mono ?_
    rintro e w1 ⟨rfl, hx1⟩
    obtain ⟨b0, b1⟩ := box2 hx1
    go_wp2
    go_ret
    exact ⟨rfl, hx.trans hx1⟩
set_option maxRecDepth 100000 in
theorem rrest_calls (a : Option Addr) (n c : Nat) (l : List UInt8) (o : Bool) (w : World) (hb : Bs w a n c l) :
    Calls Try.prog 15 #[cv a n c o] w fun e w' => e = .returned (.int .i64 (rst (l, o))) ∧ Ext w w' := by
  have hlen := hb.len
  have hx := Ext.alloc w (.cells #[.slice a n c, .bool o] 24)
  have hr := rright_calls a n c l o _ (hb.ext hx)
  unfold rst
  dsimp only
  rw [hlen]
  obtain ⟨r, hr2⟩ : ∃ r, crt (l, o) = r := ⟨_, rfl⟩
  rw [hr2] at hr ⊢
  unfold cv at hr ⊢
  cases r <;> cases o <;>
  · go_enter Try.func15, Try.ntmps15
    go_wp2_with fail
    refine hr.mono ?_
    rintro e w1 ⟨rfl, hx1⟩
    obtain ⟨b0, b1⟩ := box2 hx1
    go_wp2
    go_ret
    exact ⟨rfl, hx.trans hx1⟩
end Go.Proofs.Ytbekhbgeghhcaaa
