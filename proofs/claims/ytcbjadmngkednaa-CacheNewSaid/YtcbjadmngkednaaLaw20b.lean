/-
  The walk of CacheNew: a new cache of any size is the document's, or refused.
-/
import Derived.Test.YtcbjadmngkednaaLaw20a
namespace Go.Proofs.Ytcbjadmngkednaa
open Go.RowKit

set_option maxRecDepth 100000 in
set_option maxHeartbeats 800000 in
theorem cachenew_walk (m : Int) (w : World) : Calls Try.prog 4 #[.int .i64 m] w fun e w' => e = .returned (.bool true) ∧ Ext w w' := by
  obtain ⟨R, hR⟩ : ∃ R, newC m = R := ⟨_, rfl⟩
  have hn := Lib.hid (new_calls m)
  have hrn := Lib.hid (rnew_calls m)
  rw [hR] at hn hrn
  clear hR
  go_enter Try.func4, Try.ntmps4
  go_wp2_with fail
  refine (alive20_calls _).mono ?_
  rintro e w1 ⟨rfl, hx1⟩
  go_wp2_with fail
  refine (hn.out _).mono ?_
  rintro e w2 ⟨rfl, hx2⟩
  unfold cav
  go_wp2_with fail
  refine (hrn.out _).mono ?_
  rintro e w3 ⟨rfl, hx3⟩
  unfold cav
  have hb3 := (hx3.block _ (by simp)).trans (heap_alloc_new w2 (.cells #[.int .i64 R.1.max, .slice none 0 0, .int .i64 0, .int .i64 0] 24))
  obtain ⟨⟨y0, y1, y2, y3⟩, _⟩ := cells_four hb3
  have hX := ((hx1.trans hx2).trans (Ext.alloc w2 (.cells #[.int .i64 R.1.max, .slice none 0 0, .int .i64 0, .int .i64 0] 24))).trans hx3
  have hl3 := lt_of_block hb3
  have hsa := fun W => casame_calls R.1.max none 0 0 0 0 [] R.1.max none 0 0 0 0 [] W (Ws.nil W) (Ws.nil W)
  simp only [decide_true] at hsa
  unfold cav at hsa
  have hsah := Lib.hid hsa
  clear hsa
  go_wp2_with fail
  refine (hsah.out _).mono ?_
  rintro e w4 ⟨rfl, hx4⟩
  have hee : (R.2 == R.2) = true := by simp
  go_wp2_with fail
  go_ret
  exact ⟨by simp, (hX.trans (Ext.alloc _ _)).trans hx4⟩
end Go.Proofs.Ytcbjadmngkednaa
