/-
  Layer 20's contracts: where a path stands.
-/
import Derived.Test.YtcbjadmngkednaaCacheSmall
import Derived.Lib.Bytealg
namespace Go.Proofs.Ytcbjadmngkednaa
open Go.RowKit

theorem compare_lt : ∀ a b : List UInt8, Lib.compareBytes a b < 0 ↔ bl a b = true
  | [], [] => by simp [Lib.compareBytes, bl, Op.bytesLess]
  | [], _ :: _ => by simp [Lib.compareBytes, bl, Op.bytesLess]
  | _ :: _, [] => by simp [Lib.compareBytes, bl, Op.bytesLess]
  | x :: a, y :: b => by
    have ih := compare_lt a b
    simp only [bl, Op.bytesLess, Bool.or_eq_true, Bool.and_eq_true, decide_eq_true_eq, beq_iff_eq] at ih ⊢
    unfold Lib.compareBytes
    by_cases h1 : x < y
    · simp [h1]
    · by_cases h2 : y < x
      · have hne : x ≠ y := fun e => by subst e; exact h1 h2
        simp [h1, h2, hne]
      · have he : x = y := UInt8.le_antisymm (UInt8.not_lt.1 h2) (UInt8.not_lt.1 h1)
        simp [h1, h2, he, ih]
theorem compare_eq : ∀ a b : List UInt8, Lib.compareBytes a b = 0 ↔ a = b
  | [], [] => by simp [Lib.compareBytes]
  | [], _ :: _ => by simp [Lib.compareBytes]
  | _ :: _, [] => by simp [Lib.compareBytes]
  | x :: a, y :: b => by
    have ih := compare_eq a b
    unfold Lib.compareBytes
    by_cases h1 : x < y
    · have hne : x ≠ y := fun e => by subst e; exact UInt8.lt_irrefl x h1
      simp [h1, hne]
    · by_cases h2 : y < x
      · have hne : x ≠ y := fun e => by subst e; exact h1 h2
        simp [h1, h2, hne]
      · have he : x = y := UInt8.le_antisymm (UInt8.not_lt.1 h2) (UInt8.not_lt.1 h1)
        simp [h1, h2, he, ih]

theorem comparestring_calls (a b : List UInt8) (w : World) : Calls Try.prog 47 #[.string ⟨a.toArray⟩, .string ⟨b.toArray⟩] w fun e w' => e = .returned (.int .i64 (Lib.compareBytes a b)) ∧ w' = w := by
  have hr := Lib.run_compareString (P := Try.prog) ⟨a.toArray⟩ ⟨b.toArray⟩ w
  go_enter Try.func47, Try.ntmps47
  go_wp2
  rw [run_callFunc_extern Try.func49 (by kernel_rfl) (by kernel_rfl) (by kernel_rfl) (e := Extern.BytealgCompare.compare) (by kernel_rfl), hr]
  simp only [Result.andThen]
  rw [Oper.upon_value]
  go_wp2
  go_ret
  exact ⟨rfl, rfl⟩
theorem compare_calls (a b : List UInt8) (w : World) : Calls Try.prog 42 #[.string ⟨a.toArray⟩, .string ⟨b.toArray⟩] w fun e w' => e = .returned (.int .i64 (Lib.compareBytes a b)) ∧ w' = w := by
  go_enter Try.func42, Try.ntmps42
  go_wp2_with fail
  refine (comparestring_calls a b w).mono ?_
  rintro e w1 ⟨rfl, rfl⟩
  go_wp2
  go_ret
  exact ⟨rfl, rfl⟩
theorem place1_calls (a s : List UInt8) (pa : Option Addr) (pn pc : Nat) (w : World) : Calls Try.prog 41 #[.agg #[.string ⟨a.toArray⟩, .slice pa pn pc], .string ⟨s.toArray⟩] w fun e w' => e = .returned (.int .i64 (Lib.compareBytes a s)) ∧ Ext w w' := by
  have hx := Ext.alloc w (.cells #[.string ⟨a.toArray⟩, .slice pa pn pc] 59)
  go_enter Try.func41, Try.ntmps41
  go_wp2_with fail
  refine (compare_calls a s _).mono ?_
  rintro e w1 ⟨rfl, rfl⟩
  go_wp2
  go_ret
  exact ⟨rfl, hx⟩

/-- Where a path stands among these, or would. -/
def Stands (s : List UInt8) (L : List Wt) (i : Nat) : Prop := i ≤ L.length ∧ (∀ k (h : k < L.length), k < i → bl L[k].1 s = true) ∧ ∀ k (h : k < L.length), i ≤ k → bl L[k].1 s = false
theorem rising_at {L : List Wt} (h : (L.map (·.1)).Pairwise fun a b => bl a b = true) (i j : Nat) (hj : j < L.length) (hij : i < j) : bl (L[i]'(by omega)).1 L[j].1 = true := by
  rw [List.pairwise_iff_getElem] at h
  have := h i j (by rw [List.length_map]; omega) (by rw [List.length_map]; exact hj) hij
  simpa using this
set_option maxRecDepth 100000 in
set_option maxHeartbeats 1600000 in
theorem search_calls (a : Option Addr) (n c : Nat) (M : List Wh) (s : List UInt8) (w : World) (hb : Ws w a n c M) (hr : ((ws M).map (·.1)).Pairwise fun a b => bl a b = true) (hn : n ≤ 1000000) :
    Calls Try.prog 40 #[.slice a n c, .string ⟨s.toArray⟩, .func (.func 41) #[] #[]] w fun e w' =>
      ∃ (i : Nat) (b : Bool), e = .returned (.tuple #[.int .i64 i, .bool b]) ∧ Stands s (ws M) i ∧ (b = true ↔ ∃ h : i < (ws M).length, (ws M)[i].1 = s) ∧ Ext w w' := by
  have hlen := Lib.hid hb.len
  have hwl : Hid ((ws M).length = n) := by show _ = _; unfold ws; rw [List.length_map]; exact hlen.out
  have hrh := Lib.hid hr
  clear hr
  go_enter Try.func40, Try.ntmps40
  go_wp2_with fail
  go_loopw [9, 10] (fun vi vj wr => ∃ i j : Nat, i ≤ j ∧ j ≤ n ∧ vi = .int .i64 i ∧ vj = .int .i64 j ∧ Hid (∀ k (h : k < (ws M).length), k < i → bl (ws M)[k].1 s = true) ∧ Hid (∀ k (h : k < (ws M).length), j ≤ k → bl (ws M)[k].1 s = false) ∧ Ext w wr) (fun vi vj _ => (intOf vj).toNat - (intOf vi).toNat)
  case atStart => exact ⟨0, n, by omega, by omega, rfl, rfl, fun k _ h => absurd h (by omega), fun k h1 h2 => by rw [hwl.out] at h1; omega, Ext.refl _⟩
  case round =>
    obtain ⟨i, j, hij, hjn, rfl, rfl, hlo, hhi, hX⟩ := hrel
    by_cases hlt : i < j
    · obtain ⟨m, hm⟩ : ∃ m, m = (i + j) / 2 := ⟨_, rfl⟩
      have hmi : ((i : Int) + (j : Int)) / 2 = (m : Int) := by omega
      have him : i ≤ m := by omega
      have hmj : m < j := by omega
      clear hm
      obtain ⟨b, o, rfl, hc⟩ := hb.at (by omega)
      have hmM : m < M.length := by rw [hlen.out]; omega
      have hmW : m < (ws M).length := by rw [hwl.out]; omega
      obtain ⟨d0, d1⟩ := hc m hmM
      replace d0 := hX.cell d0
      replace d1 := hX.cell d1
      have hwm : (ws M)[m] = M[m].1 := by simp [ws]
      have hlt2 := compare_lt M[m].1.1 s
      obtain ⟨⟨⟨pp, pts⟩, pa, pn, pc⟩, hx⟩ : ∃ x, M[m] = x := ⟨_, rfl⟩
      rw [hx] at d0 d1 hlt2 hwm
      dsimp only at d0 d1 hlt2
      have hcl := place1_calls pp s pa pn pc wr
      obtain ⟨z, hz⟩ : ∃ z, Lib.compareBytes pp s = z := ⟨_, rfl⟩
      rw [hz] at hcl hlt2
      clear hc hx hz
      have hwmh := Lib.hid hwm
      clear hwm
      by_cases hlo2 : bl pp s = true
      · have hz0 : z < 0 := hlt2.2 hlo2
        clear hlt2
        go_wp2_with fail
        refine hcl.mono ?_
        rintro e w1 ⟨rfl, hx1⟩
        go_wp2
        go_roundw
        case rel =>
          refine ⟨m + 1, j, by omega, hjn, by go_num, rfl, fun k hk hkm => ?_, hhi, hX.trans hx1⟩
          by_cases hkm2 : k = m
          · subst hkm2
            rw [hwmh.out]; exact hlo2
          · have h1 := rising_at hrh.out k m hmW (by omega)
            rw [hwmh.out] at h1
            exact bl_trans _ _ _ h1 hlo2
        case measure => simp [intOf]; omega
      · have hz0 : ¬ z < 0 := fun h => hlo2 (hlt2.1 h)
        clear hlt2
        go_wp2_with fail
        refine hcl.mono ?_
        rintro e w1 ⟨rfl, hx1⟩
        go_wp2
        go_roundw
        case rel =>
          refine ⟨i, m, by omega, by omega, rfl, rfl, hlo, fun k hk hkm => ?_, hX.trans hx1⟩
          by_cases hkm2 : k = m
          · subst hkm2
            rw [hwmh.out]; simpa using hlo2
          · have h1 := rising_at hrh.out m k hk (by omega)
            rw [hwmh.out] at h1
            cases h2 : bl (ws M)[k].1 s with
            | false => rfl
            | true => exact absurd (bl_trans _ _ _ h1 h2) hlo2
        case measure => simp [intOf]; omega
    · obtain rfl : i = j := by omega
      have hst : Stands s (ws M) i := ⟨by rw [hwl.out]; exact hjn, hlo.out, hhi.out⟩
      have hsth := Lib.hid hst
      clear hst hlo hhi
      by_cases hin : i < n
      · obtain ⟨b, o, rfl, hc⟩ := hb.at (by omega)
        have hmM : i < M.length := by rw [hlen.out]; omega
        have hmW : i < (ws M).length := by rw [hwl.out]; omega
        obtain ⟨d0, d1⟩ := hc i hmM
        replace d0 := hX.cell d0
        replace d1 := hX.cell d1
        have hwm : (ws M)[i] = M[i].1 := by simp [ws]
        have hceq := compare_eq M[i].1.1 s
        obtain ⟨⟨⟨pp, pts⟩, pa, pn, pc⟩, hx⟩ : ∃ x, M[i] = x := ⟨_, rfl⟩
        rw [hx] at d0 d1 hceq hwm
        dsimp only at d0 d1 hceq
        have hcl := place1_calls pp s pa pn pc wr
        obtain ⟨z, hz⟩ : ∃ z, Lib.compareBytes pp s = z := ⟨_, rfl⟩
        rw [hz] at hcl hceq
        have hiff : Hid ((z == 0) = true ↔ ∃ h : i < (ws M).length, (ws M)[i].1 = s) := by
          show _ ↔ _
          rw [beq_iff_eq, hceq]
          constructor
          · intro h; exact ⟨hmW, by rw [hwm]; exact h⟩
          · rintro ⟨_, h⟩; rw [hwm] at h; exact h
        clear hc hx hz hwm hceq
        go_wp2_with fail
        refine hcl.mono ?_
        rintro e w1 ⟨rfl, hx1⟩
        go_wp2
        go_ret2
        exact ⟨i, _, rfl, hsth.out, hiff.out, hX.trans hx1⟩
      · have hno : Hid (false = true ↔ ∃ h : i < (ws M).length, (ws M)[i].1 = s) := by
          show _ ↔ _
          constructor
          · intro h; cases h
          · rintro ⟨h, _⟩; rw [hwl.out] at h; omega
        go_wp2
        go_ret2
        exact ⟨i, _, rfl, hsth.out, hno.out, hX⟩
end Go.Proofs.Ytcbjadmngkednaa
