/-
  Layer 19's contracts: bytes.IndexByte; is a connection as it must be (the code's and the document's answers); how many bytes of a line it holds.
-/
import Derived.Test.YtbekhbgeghhcaaaProg
import Derived.Test.YtbekhbgeghhcaaaLib
import Derived.Test.YtbekhbgeghhcaaaBytes
import Derived.Test.YtbekhbgeghhcaaaStreamPlain
import Derived.Shelf.Bytes.SlIndexAt
namespace Go.Proofs.Ytbekhbgeghhcaaa
open Go.RowKit

theorem run_ib {a : Option Addr} {n c : Nat} {l : List UInt8} (w : World) (hb : Bs w a n c l) :
    (Extern.BytealgIndexByte.indexByte #[.slice a n c, .int .u8 10]).run Try.prog w = .ok (.int .i64 (Lib.indexByte l 10)) w := by
  have hlen := hb.len
  have hbo : Lib.bytesOf (l.map fun x => (x.toNat : Int)) = l := by
    unfold Lib.bytesOf
    rw [List.map_map]
    refine (List.map_congr_left fun x _ => ?_).trans (List.map_id _)
    simp
  cases a with
  | none =>
    have hc := hb.nil rfl
    have hn : n = 0 := by have := hb.le; omega
    subst hc hn
    have : l = [] := List.length_eq_zero_iff.1 hlen
    subst this
    exact Lib.run_indexByteNil w 0 0 10
  | some ad =>
    have h := Lib.run_indexByteAt (P := Try.prog) w ad n c (l.map fun x => (x.toNat : Int)) (by simp [hlen]) (fun i hi => ?_) 10
    · rw [hbo] at h; exact h
    · obtain ⟨b, o, ha, hc⟩ := hb.at_ (by omega)
      cases ha
      have h1 := hc i (by rw [bvs_length]; omega)
      rw [show (⟨b, o, none⟩ : Addr).add i = ⟨b, o + i, none⟩ by unfold Addr.add; split <;> simp_all, h1]
      simp [bvs, bv, hlen, hi]
theorem ib_calls (a : Option Addr) (n c : Nat) (l : List UInt8) (w : World) (hb : Bs w a n c l) :
    Calls Try.prog 21 #[.slice a n c, .int .u8 10] w fun e w' => e = .returned (.int .i64 (Lib.indexByte l 10)) ∧ w' = w := by
  have hr := run_ib w hb
  go_enter Try.func21, Try.ntmps21
  go_wp2
  rw [run_callFunc_extern Try.func25 (by kernel_rfl) (by kernel_rfl) (by kernel_rfl) (e := Extern.BytealgIndexByte.indexByte) (by kernel_rfl), hr]
  simp only [Result.andThen]
  rw [Oper.upon_value]
  go_wp2
  go_ret
  exact ⟨rfl, rfl⟩
theorem ib_neg : ∀ l : List UInt8, (Lib.indexByte l 10 < 0) ↔ ∀ b ∈ l, b ≠ 10
  | [] => by simp [Lib.indexByte]
  | b :: l => by
    have ih := ib_neg l
    have hg := Lib.indexByte_ge l 10
    unfold Lib.indexByte
    by_cases hb : b = 10
    · simp [hb]
    · have hb2 : (b == 10) = false := by simp [hb]
      rw [hb2]
      by_cases h1 : Lib.indexByte l 10 = -1
      · have h2 := ih.1 (by omega)
        simp only [h1, List.mem_cons]
        constructor
        · intro _ x hx
          rcases hx with hx | hx
          · subst hx; exact hb
          · exact h2 x hx
        · intro _; decide
      · have h2 : ¬ Lib.indexByte l 10 < 0 := by omega
        have h3 : (Lib.indexByte l 10 == -1) = false := by simp [h1]
        simp only [h3, Bool.false_eq_true, if_false, List.mem_cons]
        constructor
        · intro h; omega
        · intro h; exact absurd (ih.2 (fun x hx => h x (.inr hx))) h2
theorem box2 {w W : World} {v0 v1 : Value} {t : TypeId} (h : Ext (w.alloc (.cells #[v0, v1] t)) W) :
    W.cell? ⟨w.heap.size, 0, none⟩ = some v0 ∧ W.cell? ⟨w.heap.size, 1, none⟩ = some v1 := by
  have hB := h.block w.heap.size (by simp)
  rw [heap_alloc_new] at hB
  exact ⟨by simp [World.cell?, hB], by simp [World.cell?, hB]⟩
/-- A connection as a value. -/
def cv (p : Option Addr) (n c : Nat) (o : Bool) : Value := .agg #[.slice p n c, .bool o]

set_option maxRecDepth 100000 in
theorem right_calls (a : Option Addr) (n c : Nat) (l : List UInt8) (o : Bool) (w : World) (hb : Bs w a n c l) :
    Calls Try.prog 12 #[cv a n c o] w fun e w' => e = .returned (.bool (crt (l, o))) ∧ Ext w w' := by
  have hlen := hb.len
  have hx := Ext.alloc w (.cells #[.slice a n c, .bool o] 24)
  have hib := ib_calls a n c l _ (hb.ext hx)
  have hng := ib_neg l
  obtain ⟨z, hz⟩ : ∃ z, Lib.indexByte l 10 = z := ⟨_, rfl⟩
  rw [hz] at hib hng
  have hc := crt_iff (l, o)
  dsimp only at hc
  rw [← hng, hlen] at hc
  have hnil : l = [] ↔ n = 0 := by rw [← hlen]; exact List.length_eq_zero_iff.symm
  have hz0 : n = 0 → z < 0 := fun h => by rw [hng, hnil.2 h]; simp
  rw [hnil] at hc
  obtain ⟨r, hr⟩ : ∃ r, crt (l, o) = r := ⟨_, rfl⟩
  rw [hr] at hc ⊢
  unfold cv
  clear hng hz hr hnil
  cases o with
  | true =>
    obtain rfl : r = ((n : Int) == 0) := by
      rw [Bool.eq_iff_iff, hc]
      simp; omega
    clear hc hz0
    go_enter Try.func12, Try.ntmps12
    go_wp2_with fail
    go_ret
    exact ⟨rfl, hx⟩
  | false =>
    by_cases hn : (200 : Int) < (n : Int)
    · obtain rfl : r = false := by
        cases r with
        | false => rfl
        | true => have := hc.1 rfl; omega
      clear hc hz0
      go_enter Try.func12, Try.ntmps12
      go_wp2_with fail
      go_ret
      exact ⟨rfl, hx⟩
    · obtain rfl : r = decide (z < 0) := by
        rw [Bool.eq_iff_iff, hc]
        simp; omega
      clear hc hz0
      go_enter Try.func12, Try.ntmps12
      go_wp2_with fail
      refine hib.mono ?_
      rintro e w1 ⟨rfl, rfl⟩
      go_wp2
      go_ret
      exact ⟨rfl, hx⟩
end Go.Proofs.Ytbekhbgeghhcaaa
