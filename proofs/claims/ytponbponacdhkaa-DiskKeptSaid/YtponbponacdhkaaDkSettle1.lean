/-
  Layer 6's contracts: the first file that goes.
-/
import Derived.Test.YtponbponacdhkaaDkCreate
namespace Go.Proofs.Ytponbponacdhkaa
open Go.RowKit

/-- Does a file go? -/
def goes (met : List Int) (y : Fh) : Bool := !decide (y.1.id ∈ met)
theorem settled1_calls (y : Fh) (B b : Nat) (met : List Int) (w : World) (hB : w.heap[B]? = some (.cells #[.map (some b)] 79 (0, 0))) (hM : Met w b met) (hz : 0 ≤ y.1.id ∧ y.1.id ≤ 1099511627776) :
    Calls Try.prog 49 #[.agg #[.int .i64 y.1.id, .slice y.2.1 y.2.2.1 y.2.2.2, .int .i64 y.1.sure], .pointer (some ⟨B, 0, none⟩)] w fun e w' => e = .returned (.bool (goes met y)) ∧ Ext w w' := by
  obtain ⟨⟨id, bys, su⟩, pa, pn, pc⟩ := y
  unfold goes
  dsimp only at *
  have hx := Ext.alloc w (.cells #[.int .i64 id, .slice pa pn pc, .int .i64 su] 58)
  have hlk := (hM.ext hx).lookup id (wf_small id hz.1 hz.2)
  have hc : (w.alloc (.cells #[.int .i64 id, .slice pa pn pc, .int .i64 su] 58)).cell? ⟨B, 0, none⟩ = some (.map (some b)) := hx.cell (by simp [World.cell?, hB])
  have hlb := lt_of_block hB
  obtain ⟨q, hq⟩ : ∃ q, decide (id ∈ met) = q := ⟨_, rfl⟩
  rw [hq] at hlk ⊢
  clear hM hB hq
  go_enter Try.func49, Try.ntmps49
  go_wp2_with fail
  go_ret
  exact ⟨rfl, hx⟩
set_option maxRecDepth 100000 in
set_option maxHeartbeats 3200000 in
theorem findex_calls (a : Option Addr) (n c : Nat) (M : List Fh) (B b : Nat) (met : List Int) (w : World) (hb : Row fcl 3 w a n c M) (hB : w.heap[B]? = some (.cells #[.map (some b)] 79 (0, 0))) (hM : Met w b met) (hz : ∀ y ∈ M, 0 ≤ y.1.id ∧ y.1.id ≤ 1099511627776) (hn : n ≤ 100000) :
    Calls Try.prog 56 #[.slice a n c, .func (.func 49) #[] #[.pointer (some ⟨B, 0, none⟩)]] w fun e w' => Ext w w' ∧
      ((e = .returned (.int .i64 (-1)) ∧ ∀ y ∈ M, goes met y = false) ∨ ∃ i : Nat, ∃ hi : i < M.length, e = .returned (.int .i64 i) ∧ goes met M[i] = true ∧ ∀ y ∈ M.take i, goes met y = false) := by
  have hlen : M.length = n := Row.len fcl_len (by decide) hb
  subst hlen
  have hbh := Lib.hid hb
  have hBh := Lib.hid hB
  have hMh := Lib.hid hM
  have hzh := Lib.hid hz
  clear hb hB hM hz
  go_enter Try.func56, Try.ntmps56
  go_wp2_with fail
  go_loopw [8] (fun vi wr => ∃ k : Nat, k ≤ M.length ∧ vi = .int .i64 k ∧ Hid (∀ y ∈ M.take k, goes met y = false) ∧ Ext w wr) (fun vi _ => M.length - (intOf vi).toNat)
  case atStart => exact ⟨0, Nat.zero_le _, rfl, (fun y hy => by simp at hy), Ext.refl _⟩
  case round =>
    obtain ⟨k, hk, rfl, hno, hX⟩ := hrel
    by_cases hlt : k < M.length
    · obtain ⟨b0, o0, rfl, hc⟩ := Row.at fcl_len hbh.out (by omega)
      have d0 := hX.cell (hc k hlt 0 _ rfl)
      have d1 := hX.cell (hc k hlt 1 _ rfl)
      have d2 := hX.cell (hc k hlt 2 _ rfl)
      rw [Nat.add_zero] at d0
      have hcl := settled1_calls M[k] B b met wr ((hX.block _ (lt_of_block hBh.out)).trans hBh.out) (hMh.out.ext hX) (hzh.out _ (List.getElem_mem hlt))
      have htk : M.take (k + 1) = M.take k ++ [M[k]] := List.take_succ_eq_append_getElem hlt
      have hgk : ∀ q, goes met M[k] = q → goes met M[k] = q := fun _ h => h
      obtain ⟨y, hy⟩ : ∃ y, M[k] = y := ⟨_, rfl⟩
      rw [hy] at d0 d1 d2 hcl htk
      have htkh := Lib.hid htk
      have hyh := Lib.hid hy
      obtain ⟨⟨⟨id, bys, su⟩, pa, pn, pc⟩, hyy⟩ : ∃ z, z = y := ⟨y, rfl⟩
      rw [← hyy] at d0 d1 d2 hcl
      dsimp only at d0 d1 d2 hcl
      have hyyh := Lib.hid hyy
      have hlb := World.block_lt_of_cell? wr _ d0
      cases hq : goes met ((⟨id, bys, su⟩ : Fl), (pa, pn, pc)) with
      | true =>
        rw [hq] at hcl
        have hqh := Lib.hid hq
        clear hc hy htk hgk hyy hq
        go_wp2_with fail
        refine hcl.mono ?_
        rintro e w1 ⟨rfl, hx1⟩
        go_wp2_with fail
        go_ret
        refine ⟨hX.trans hx1, .inr ⟨k, hlt, rfl, ?_, hno.out⟩⟩
        rw [hyh.out, ← hyyh.out]
        exact hqh.out
      | false =>
        rw [hq] at hcl
        have hqh := Lib.hid hq
        clear hc hy htk hgk hyy hq
        go_wp2_with fail
        refine hcl.mono ?_
        rintro e w1 ⟨rfl, hx1⟩
        go_wp2_with fail
        go_roundw
        case rel =>
          refine ⟨k + 1, by omega, by go_num, ?_, hX.trans hx1⟩
          show ∀ _ ∈ _, _
          intro z hz
          rw [htkh.out] at hz
          rcases List.mem_append.1 hz with hz | hz
          · exact hno.out z hz
          · obtain rfl : z = y := by simpa using hz
            rw [← hyyh.out]
            exact hqh.out
        case measure => simp [intOf]; omega
    · obtain rfl : k = M.length := by omega
      have hno2 := hno.out
      rw [List.take_length] at hno2
      have hno3 := Lib.hid hno2
      clear hno2 hno
      go_wp2_with fail
      go_ret
      exact ⟨hX, .inl ⟨rfl, hno3.out⟩⟩
end Go.Proofs.Ytponbponacdhkaa
