/-
  A record's frame: the program's and the reference's.
-/
import Derived.Test.YtkflikfcpdekdaaDoorSegRput1
import Derived.Test.YtkflikfcpdekdaaDoorFrame
import Derived.Test.YtkflikfcpdekdaaDoorScanPlain
namespace Go.Proofs.YtkflikfcpdekdaaDoor
open Go.RowKit

set_option maxHeartbeats 800000 in
theorem sframe_yes (r : Rec) (a : Option Addr) (n c : Nat) (w : World) (ht : Tab w) (hb : Rg w a n c r.rungs) (hr : right r = true) :
    Calls Tryd.prog 41 #[rv r a n c] w fun e w' => ∃ v, e = .returned (.tuple #[v, .int .i64 0]) ∧ Own w' w.heap.size 5 v (sfr r) ∧ Ext w w' := by
  have hfp := frPut_seg r hr
  have hc0 := fun w' (hx : Ext w w') => put_calls r a n c w' (hb.ext hx) hr
  have hc1 := fun a n c w' h1 h2 => fput_calls a n c (segPut r) w' h1 h2
  rw [hfp] at hc1
  have hs : Hid (frm (segPut r) = sfr r) := rfl
  obtain ⟨sp, hsp⟩ : ∃ sp, segPut r = sp := ⟨_, rfl⟩
  rw [hsp] at hc0 hc1 hs
  have hc1 := Lib.hid hc1
  obtain ⟨kind, path, method, factor, rungs, rung, time, now, value⟩ := r
  unfold rv at *
  have hc0 := Lib.hid hc0
  clear hr hfp hsp
  go_enter Tryd.func41, Tryd.ntmps41
  go_wp2_with fail
  refine (hc0.out _ (Ext.alloc _ _)).mono ?_
  rintro e w2 ⟨v, rfl, ho, hx2⟩
  have hxx := (Ext.alloc _ _).trans hx2
  obtain ⟨a1, n1, c1, rfl, hb1⟩ := ho.bs
  clear ho hx2 hc0
  go_wp2_with fail
  refine (hc1.out a1 n1 c1 w2 (ht.ext hxx) hb1).mono ?_
  rintro e w3 ⟨v, rfl, ho, hx3⟩
  have hoh := Lib.hid (ho.mono hxx.size)
  clear ho hb1 hc1
  go_wp2
  go_ret2
  exact ⟨_, rfl, by rw [← hs.out]; exact hoh.out, hxx.trans hx3⟩
set_option maxHeartbeats 800000 in
theorem sframe_no (r : Rec) (a : Option Addr) (n c : Nat) (w : World) (hb : Rg w a n c r.rungs) (hr : right r = false) :
    Calls Tryd.prog 41 #[rv r a n c] w fun e w' => e = .returned (.tuple #[.slice none 0 0, .int .i64 1]) ∧ Ext w w' := by
  have hc0 := fun w' (hx : Ext w w') => putno_calls r a n c w' (hb.ext hx) hr
  obtain ⟨kind, path, method, factor, rungs, rung, time, now, value⟩ := r
  unfold rv at *
  have hc0 := Lib.hid hc0
  clear hr
  go_enter Tryd.func41, Tryd.ntmps41
  go_wp2_with fail
  refine (hc0.out _ (Ext.alloc _ _)).mono ?_
  rintro e w2 ⟨rfl, hx2⟩
  have hxx := (Ext.alloc _ _).trans hx2
  clear hx2 hc0
  go_wp2
  go_ret2
  exact ⟨rfl, hxx⟩
set_option maxHeartbeats 800000 in
theorem rframe_yes (r : Rec) (a : Option Addr) (n c : Nat) (w : World) (hb : Rg w a n c r.rungs) (hr : right r = true) :
    Calls Tryd.prog 42 #[rv r a n c] w fun e w' => ∃ v, e = .returned (.tuple #[v, .int .i64 0]) ∧ Own w' w.heap.size 5 v (sfr r) ∧ Ext w w' := by
  have hfp := frPut_seg r hr
  have hc0 := fun w' (hx : Ext w w') => rrput_calls r a n c w' (hb.ext hx) hr
  have hc1 := fun a n c w' h2 => rfput_calls a n c (segPut r) w' h2
  rw [hfp] at hc1
  have hs : Hid (frm (segPut r) = sfr r) := rfl
  obtain ⟨sp, hsp⟩ : ∃ sp, segPut r = sp := ⟨_, rfl⟩
  rw [hsp] at hc0 hc1 hs
  have hc1 := Lib.hid hc1
  obtain ⟨kind, path, method, factor, rungs, rung, time, now, value⟩ := r
  unfold rv at *
  have hc0 := Lib.hid hc0
  clear hr hfp hsp
  go_enter Tryd.func42, Tryd.ntmps42
  go_wp2_with fail
  refine (hc0.out _ (Ext.alloc _ _)).mono ?_
  rintro e w2 ⟨v, rfl, ho, hx2⟩
  have hxx := (Ext.alloc _ _).trans hx2
  obtain ⟨a1, n1, c1, rfl, hb1⟩ := ho.bs
  clear ho hx2 hc0
  go_wp2_with fail
  refine (hc1.out a1 n1 c1 w2 hb1).mono ?_
  rintro e w3 ⟨v, rfl, ho, hx3⟩
  have hoh := Lib.hid (ho.mono hxx.size)
  clear ho hb1 hc1
  go_wp2
  go_ret2
  exact ⟨_, rfl, by rw [← hs.out]; exact hoh.out, hxx.trans hx3⟩
set_option maxHeartbeats 800000 in
theorem rframe_no (r : Rec) (a : Option Addr) (n c : Nat) (w : World) (hb : Rg w a n c r.rungs) (hr : right r = false) :
    Calls Tryd.prog 42 #[rv r a n c] w fun e w' => e = .returned (.tuple #[.slice none 0 0, .int .i64 1]) ∧ Ext w w' := by
  have hc0 := fun w' (hx : Ext w w') => rputno_calls r a n c w' (hb.ext hx) hr
  obtain ⟨kind, path, method, factor, rungs, rung, time, now, value⟩ := r
  unfold rv at *
  have hc0 := Lib.hid hc0
  clear hr
  go_enter Tryd.func42, Tryd.ntmps42
  go_wp2_with fail
  refine (hc0.out _ (Ext.alloc _ _)).mono ?_
  rintro e w2 ⟨rfl, hx2⟩
  have hxx := (Ext.alloc _ _).trans hx2
  clear hx2 hc0
  go_wp2
  go_ret2
  exact ⟨rfl, hxx⟩
end Go.Proofs.YtkflikfcpdekdaaDoor
