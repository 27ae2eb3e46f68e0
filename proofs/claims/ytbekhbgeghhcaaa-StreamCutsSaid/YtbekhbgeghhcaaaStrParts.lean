/-
  Layer 19's contracts: the iterator of a chunk's parts.
-/
import Derived.Test.YtbekhbgeghhcaaaStrCut
import Derived.Test.YtbekhbgeghhcaaaStrRange
import Derived.WalkKit
import Derived.OwnWalkIn
import Derived.TacticsInMore
import Derived.LoopNIn
import Derived.LoopIn
namespace Go.Proofs.Ytbekhbgeghhcaaa
open Go.RowKit
attribute [local go_sem] Oper.semAt_some

theorem parts_calls (a : Option Addr) (n c : Nat) (w : World) :
    Calls Try.prog 18 #[.slice a n c] w fun e w' => e = .returned (.func (.func 22) #[] #[.pointer (some ⟨w.heap.size, 0, none⟩)]) ∧ w' = w.alloc (.cells #[.slice a n c] 22) := by
  go_enter Try.func18, Try.ntmps18
  go_wp2_with fail
  go_ret
  exact ⟨rfl, rfl⟩

/-- A part as the code sees it: a slice that read so in w0. -/
abbrev Part (w0 : World) := { x : Cn × (Option Addr × Nat × Nat) // Bs w0 x.2.1 x.2.2.1 x.2.2.2 x.1.1 }
def partV {w0 : World} (x : Part w0) : Array Value := #[.slice x.1.2.1 x.1.2.2.1 x.1.2.2.2, .bool x.1.1.2]
/-- What a round keeps: all that lay in w0, and the iterator's cell. -/
def KpB (w0 : World) (B : Nat) (W W' : World) : Prop := Ext w0 W → Ext w0 W' ∧ W'.heap[B]? = W.heap[B]? ∧ W.heap.size ≤ W'.heap.size

/-- How many bytes the iterator's cell holds still. -/
def leftB (B : Nat) (w : World) : Nat := match w.cell? ⟨B, 0, none⟩ with
  | some (.slice _ n _) => n
  | _ => 0
theorem split10 (l : List UInt8) (h : ¬ ∀ b ∈ l, b ≠ 10) : ∃ p m, l = p ++ 10 :: m ∧ ∀ b ∈ p, b ≠ 10 := by
  have h5 : (10 : UInt8) ∈ l := by
    by_cases h6 : (10 : UInt8) ∈ l
    · exact h6
    · exact absurd (fun b hb (hb2 : b = 10) => h6 (by rw [← hb2]; exact hb)) h
  obtain ⟨p, m, hpm, hn⟩ := List.eq_append_cons_of_mem h5
  exact ⟨p, m, hpm, fun b hb (hb2 : b = 10) => hn (by rw [← hb2]; exact hb)⟩
set_option maxRecDepth 100000 in
set_option maxHeartbeats 1600000 in
theorem parts_seq {w0 : World} (k B : Nat) (a : Option Addr) (n c : Nat) (l : List UInt8) (w : World) (hk : 3 ≤ k) (hw : Ext w0 w) (hB : w.heap[B]? = some (.cells #[.slice a n c] 22 (0, 0))) (hB0 : w0.heap.size ≤ B) (hb : Bs w0 a n c l) :
    SeqBox Fence.wide k Try.prog 22 #[.pointer (some ⟨B, 0, none⟩)] (partV (w0 := w0)) (KpB w0 B) (fun xs => xs.map (·.1.1) = partsOf l) (l.length + 2) B w := by
  intro lp J W hW hJ hJB hY h0
  have hBl : B < w.heap.size := (Array.getElem?_eq_some_iff.1 hB).1
  have hBW : W.heap[B]? = some (.cells #[.slice a n c] 22 (0, 0)) := (hW.block B hBl).trans hB
  have hwW : Ext w0 W := hw.trans (show Ext w W from hW)
  refine callsIn_of_wp Try.func22 rfl trivial ?_ rfl
  simp only [Try.ntmps22, List.size_toArray, List.length_cons, List.length_nil, Nat.reduceAdd, Nat.reduceSub, Array.replicate_succ, Array.replicate_zero, List.push_toArray, List.append_toArray, List.nil_append, List.cons_append]
  gi_wp2
  gi_loopw [] (fun wr => ∃ (pre : List (Part w0)) (a1 : Option Addr) (n1 c1 : Nat) (r : List UInt8), partsOf l = pre.map (·.1.1) ++ partsOf r ∧ pre.length + r.length ≤ l.length ∧ Bs w0 a1 n1 c1 r ∧ wr.heap[B]? = some (.cells #[.slice a1 n1 c1] 22 (0, 0)) ∧ Ext w0 wr ∧ J pre wr) (fun wr => leftB B wr)
  case atStart => exact ⟨[], a, n, c, l, rfl, by simp, hb, hBW, hwW, h0⟩
  case round =>
    obtain ⟨pre, a1, n1, c1, r, hp, hpl, hb1, hB1, hx1, hJ1⟩ := hrel
    have hBr : B < wr.heap.size := (Array.getElem?_eq_some_iff.1 hB1).1
    have hc1 : wr.cell? ⟨B, 0, none⟩ = some (.slice a1 n1 c1) := by simp [World.cell?, hB1]
    have hf1 : wr.frozen? ⟨B, 0, none⟩ = false := by simp [World.frozen?, hB1]
    have hxa := Ext.alloc wr (.cells #[.int .u8 10] 5)
    have hJ2 : J pre (wr.alloc (.cells #[.int .u8 10] 5)) := hJ _ _ _ none hJ1 (World.grownBy_alloc wr _ none) (fun _ e => by cases e)
    have hc10 : (wr.alloc (.cells #[.int .u8 10] 5)).cell? ⟨wr.heap.size, 0, none⟩ = some (.int .u8 10) := by simp [World.cell?_alloc_at]
    by_cases h10 : ∀ x ∈ r, x ≠ 10
    · have hcut := cut_no a1 n1 c1 r wr.heap.size 0 1 _ (hb1.ext (hx1.trans hxa)) hc10 h10
      obtain ⟨fn, tmps, assign, body, hy, hR⟩ := hY pre ⟨((r, false), (a1, n1, c1)), hb1⟩ _ hJ2 (by omega)
      dsimp only [partV] at hy
      gi_wp2_with (refine ⟨trivial, fun _ => by omega, ?_⟩; gi_at_call 23; refine (callsIn_wide.2 hcut).mono ?_; rintro e w' ⟨rfl, rfl⟩)
      refine ⟨fun _ => by omega, hR.mono ?_⟩
      rintro e W3 ⟨rfl, hJ3, hk3⟩
      gi_wp2
      refine bodyPost_ret (results_none rfl _ _ _) rfl ?_
      exact ⟨⟨_, rfl⟩, pre ++ [⟨((r, false), (a1, n1, c1)), hb1⟩], by simp [hp, partsOf_no r h10], hJ3⟩
    · obtain ⟨p, m, rfl, hpn⟩ := split10 r h10
      have hcut := cut_yes a1 n1 c1 p m wr.heap.size 0 1 _ (hb1.ext (hx1.trans hxa)) hc10 hpn
      have hlen := hb1.len
      simp only [List.length_append, List.length_cons] at hlen hpl
      have hb2 : Bs w0 a1 p.length c1 p := by
        have := hb1.take p.length (by omega)
        rwa [List.take_append_of_le_length (Nat.le_refl _), List.take_length] at this
      have hb3 : Bs w0 (subA a1 c1 (p.length + 1) 1) (n1 - (p.length + 1)) (c1 - (p.length + 1)) m := by
        have := hb1.sub (p.length + 1) n1 (by omega) (Nat.le_refl _)
        rw [List.take_of_length_le (by simp; omega)] at this
        have hd : (p ++ 10 :: m).drop (p.length + 1) = m := by simp
        rwa [hd] at this
      gi_wp2
      refine ⟨trivial, fun _ => by omega, (callsIn_wide.2 hcut).mono ?_⟩
      rintro e w1 ⟨rfl, hx2⟩
      have hJ3 : J pre w1 := hJ _ _ _ none hJ2 ⟨hx2.os, hx2.tape, hx2.output, hx2.size, fun k hk _ => hx2.block k hk⟩ (fun _ e => by cases e)
      have hxw1 : Ext w0 w1 := (hx1.trans hxa).trans hx2
      have hB2 : w1.heap[B]? = some (.cells #[.slice a1 n1 c1] 22 (0, 0)) := ((hxa.trans hx2).block B hBr).trans hB1
      obtain ⟨fn, tmps, assign, body, hy, hR⟩ := hY pre ⟨((p, true), (a1, p.length, c1)), hb2⟩ _ hJ3 (by omega)
      dsimp only [partV] at hy
      gi_wp2
      refine ⟨fun _ => by omega, hR.mono ?_⟩
      rintro e W3 ⟨rfl, hJ4, hk3⟩
      obtain ⟨hx3, hB3, hs3⟩ := hk3 hxw1
      rw [hB2] at hB3
      have hc3 : W3.cell? ⟨B, 0, none⟩ = some (.slice a1 n1 c1) := by simp [World.cell?, hB3]
      have hf3 : W3.frozen? ⟨B, 0, none⟩ = false := by simp [World.frozen?, hB3]
      gi_wp2
      have hB4 : (W3.setCell ⟨B, 0, none⟩ (.slice (subA a1 c1 (p.length + 1) 1) (n1 - (p.length + 1)) (c1 - (p.length + 1)))).heap[B]? = some (.cells #[.slice (subA a1 c1 (p.length + 1) 1) (n1 - (p.length + 1)) (c1 - (p.length + 1))] 22 (0, 0)) := one_setCell hB3
      go_roundw
      case rel =>
        exact ⟨pre ++ [⟨((p, true), (a1, p.length, c1)), hb2⟩], _, _, _, m, by rw [hp, partsOf_yes p m hpn]; simp, by simp; omega, hb3, hB4, Below.setCell hx3 (by simpa using hB0) _, hJB _ _ _ hJ4⟩
      case measure =>
        unfold leftB
        rw [hc1, World.cell?, hB4]
        simp
        omega
end Go.Proofs.Ytbekhbgeghhcaaa
