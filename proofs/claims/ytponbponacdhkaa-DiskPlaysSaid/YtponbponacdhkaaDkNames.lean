/-
  Layer 6's contracts: names in order: where one stands; slices.Clone of names.
-/
import Derived.Test.YtponbponacdhkaaDkRow
import Derived.Lib.Bytealg
namespace Go.Proofs.Ytponbponacdhkaa
open Go.RowKit

abbrev Nm := List UInt8 × Int
def nc (x : Nm) : List Value := [.string ⟨x.1.toArray⟩, .int .i64 x.2]
theorem nc_len (x : Nm) : (nc x).length = 2 := rfl
abbrev Ns (w : World) (a : Option Addr) (n c : Nat) (M : List Nm) : Prop := Row nc 2 w a n c M
theorem Ns.at {w : World} {a : Option Addr} {n c : Nat} {M : List Nm} (h : Ns w a n c M) (hn : 0 < n) :
    ∃ b o, a = some ⟨b, o, none⟩ ∧ ∀ k (hk : k < M.length), w.cell? ⟨b, o + k * 2, none⟩ = some (.string ⟨M[k].1.toArray⟩) ∧ w.cell? ⟨b, o + k * 2 + 1, none⟩ = some (.int .i64 M[k].2) := by
  obtain ⟨b, o, ha, hc⟩ := Row.at nc_len h hn
  exact ⟨b, o, ha, fun k hk => ⟨hc k hk 0 _ rfl, hc k hk 1 _ rfl⟩⟩
theorem compare_lt : ∀ a b : List UInt8, Lib.compareBytes a b < 0 ↔ bl a b = true
  | [], [] => by simp [Lib.compareBytes, bl, Op.bytesLess]
  | [], _ :: _ => by simp [Lib.compareBytes, bl, Op.bytesLess]
  | _ :: _, [] => by simp [Lib.compareBytes, bl, Op.bytesLess]
  | x :: a, y :: b => by
    have ih := compare_lt a b
    simp only [bl, Op.bytesLess, Bool.or_eq_true, Bool.and_eq_true, decide_eq_true_eq, beq_iff_eq] at ih ⊢
    unfold Lib.compareBytes
    by_cases h1 : x < y
    · simp [h1]
    · by_cases h2 : y < x
      · have hne : x ≠ y := fun e => by subst e; exact h1 h2
        simp [h1, h2, hne]
      · have he : x = y := UInt8.le_antisymm (UInt8.not_lt.1 h2) (UInt8.not_lt.1 h1)
        simp [he, ih]
theorem compare_eq : ∀ a b : List UInt8, Lib.compareBytes a b = 0 ↔ a = b
  | [], [] => by simp [Lib.compareBytes]
  | [], _ :: _ => by simp [Lib.compareBytes]
  | _ :: _, [] => by simp [Lib.compareBytes]
  | x :: a, y :: b => by
    have ih := compare_eq a b
    unfold Lib.compareBytes
    by_cases h1 : x < y
    · have hne : x ≠ y := fun e => by subst e; exact UInt8.lt_irrefl x h1
      simp [h1, hne]
    · by_cases h2 : y < x
      · have hne : x ≠ y := fun e => by subst e; exact h1 h2
        simp [h1, h2, hne]
      · have he : x = y := UInt8.le_antisymm (UInt8.not_lt.1 h2) (UInt8.not_lt.1 h1)
        simp [he, ih]

theorem comparestring_calls (a b : List UInt8) (w : World) : Calls Try.prog 59 #[.string ⟨a.toArray⟩, .string ⟨b.toArray⟩] w fun e w' => e = .returned (.int .i64 (Lib.compareBytes a b)) ∧ w' = w := by
  have hr := Lib.run_compareString (P := Try.prog) ⟨a.toArray⟩ ⟨b.toArray⟩ w
  go_enter Try.func59, Try.ntmps59
  go_wp2
  rw [run_callFunc_extern Try.func62 (by kernel_rfl) (by kernel_rfl) (by kernel_rfl) (e := Extern.BytealgCompare.compare) (by kernel_rfl), hr]
  simp only [Result.andThen]
  rw [Oper.upon_value]
  go_wp2
  go_ret
  exact ⟨rfl, rfl⟩
theorem compare_calls (a b : List UInt8) (w : World) : Calls Try.prog 54 #[.string ⟨a.toArray⟩, .string ⟨b.toArray⟩] w fun e w' => e = .returned (.int .i64 (Lib.compareBytes a b)) ∧ w' = w := by
  go_enter Try.func54, Try.ntmps54
  go_wp2_with fail
  refine (comparestring_calls a b w).mono ?_
  rintro e w1 ⟨rfl, rfl⟩
  go_wp2
  go_ret
  exact ⟨rfl, rfl⟩
theorem place1_calls (a s : List UInt8) (pa : Int) (w : World) : Calls Try.prog 53 #[.agg #[.string ⟨a.toArray⟩, .int .i64 pa], .string ⟨s.toArray⟩] w fun e w' => e = .returned (.int .i64 (Lib.compareBytes a s)) ∧ Ext w w' := by
  have hx := Ext.alloc w (.cells #[.string ⟨a.toArray⟩, .int .i64 pa] 81)
  go_enter Try.func53, Try.ntmps53
  go_wp2_with fail
  refine (compare_calls a s _).mono ?_
  rintro e w1 ⟨rfl, rfl⟩
  go_wp2
  go_ret
  exact ⟨rfl, hx⟩

/-- Where a path stands among these, or would. -/
def Stands (s : List UInt8) (L : List Nm) (i : Nat) : Prop := i ≤ L.length ∧ (∀ k (h : k < L.length), k < i → bl L[k].1 s = true) ∧ ∀ k (h : k < L.length), i ≤ k → bl L[k].1 s = false
theorem rising_at {L : List Nm} (h : (L.map (·.1)).Pairwise fun a b => bl a b = true) (i j : Nat) (hj : j < L.length) (hij : i < j) : bl (L[i]'(by omega)).1 L[j].1 = true := by
  rw [List.pairwise_iff_getElem] at h
  have := h i j (by rw [List.length_map]; omega) (by rw [List.length_map]; exact hj) hij
  simpa using this
set_option maxRecDepth 100000 in
set_option maxHeartbeats 1600000 in
theorem search_calls (a : Option Addr) (n c : Nat) (M : List Nm) (s : List UInt8) (w : World) (hb : Ns w a n c M) (hr : (M.map (·.1)).Pairwise fun a b => bl a b = true) (hn : n ≤ 1000000) :
    Calls Try.prog 52 #[.slice a n c, .string ⟨s.toArray⟩, .func (.func 53) #[] #[]] w fun e w' =>
      ∃ (i : Nat) (b : Bool), e = .returned (.tuple #[.int .i64 i, .bool b]) ∧ Stands s M i ∧ (b = true ↔ ∃ h : i < M.length, M[i].1 = s) ∧ Ext w w' := by
  have hlen := Lib.hid (Row.len nc_len (by decide) hb)
  have hwl := hlen
  have hrh := Lib.hid hr
  clear hr
  go_enter Try.func52, Try.ntmps52
  go_wp2_with fail
  go_loopw [9, 10] (fun vi vj wr => ∃ i j : Nat, i ≤ j ∧ j ≤ n ∧ vi = .int .i64 i ∧ vj = .int .i64 j ∧ Hid (∀ k (h : k < M.length), k < i → bl M[k].1 s = true) ∧ Hid (∀ k (h : k < M.length), j ≤ k → bl M[k].1 s = false) ∧ Ext w wr) (fun vi vj _ => (intOf vj).toNat - (intOf vi).toNat)
  case atStart => exact ⟨0, n, by omega, by omega, rfl, rfl, fun k _ h => absurd h (by omega), fun k h1 h2 => by rw [hwl.out] at h1; omega, Ext.refl _⟩
  case round =>
    obtain ⟨i, j, hij, hjn, rfl, rfl, hlo, hhi, hX⟩ := hrel
    by_cases hlt : i < j
    · obtain ⟨m, hm⟩ : ∃ m, m = (i + j) / 2 := ⟨_, rfl⟩
      have hmi : ((i : Int) + (j : Int)) / 2 = (m : Int) := by omega
      have him : i ≤ m := by omega
      have hmj : m < j := by omega
      clear hm
      obtain ⟨b, o, rfl, hc⟩ := Ns.at hb (by omega)
      have hmM : m < M.length := by rw [hlen.out]; omega
      have hmW : m < M.length := by rw [hwl.out]; omega
      obtain ⟨d0, d1⟩ := hc m hmM
      replace d0 := hX.cell d0
      replace d1 := hX.cell d1
      have hlt2 := compare_lt M[m].1 s
      obtain ⟨⟨pp, pa⟩, hx⟩ : ∃ x, M[m] = x := ⟨_, rfl⟩
      have hwm : M[m].1 = pp := by rw [hx]
      rw [hx] at d0 d1 hlt2
      dsimp only at d0 d1 hlt2
      have hcl := place1_calls pp s pa wr
      obtain ⟨z, hz⟩ : ∃ z, Lib.compareBytes pp s = z := ⟨_, rfl⟩
      rw [hz] at hcl hlt2
      clear hc hx hz
      have hwmh := Lib.hid hwm
      clear hwm
      by_cases hlo2 : bl pp s = true
      · have hz0 : z < 0 := hlt2.2 hlo2
        clear hlt2
        go_wp2_with fail
        refine hcl.mono ?_
        rintro e w1 ⟨rfl, hx1⟩
        go_wp2
        go_roundw
        case rel =>
          refine ⟨m + 1, j, by omega, hjn, by go_num, rfl, fun k hk hkm => ?_, hhi, hX.trans hx1⟩
          by_cases hkm2 : k = m
          · subst hkm2
            rw [hwmh.out]; exact hlo2
          · have h1 := rising_at hrh.out k m hmW (by omega)
            rw [hwmh.out] at h1
            exact bl_trans _ _ _ h1 hlo2
        case measure => simp [intOf]; omega
      · have hz0 : ¬ z < 0 := fun h => hlo2 (hlt2.1 h)
        clear hlt2
        go_wp2_with fail
        refine hcl.mono ?_
        rintro e w1 ⟨rfl, hx1⟩
        go_wp2
        go_roundw
        case rel =>
          refine ⟨i, m, by omega, by omega, rfl, rfl, hlo, fun k hk hkm => ?_, hX.trans hx1⟩
          by_cases hkm2 : k = m
          · subst hkm2
            rw [hwmh.out]; simpa using hlo2
          · have h1 := rising_at hrh.out m k hk (by omega)
            rw [hwmh.out] at h1
            cases h2 : bl M[k].1 s with
            | false => rfl
            | true => exact absurd (bl_trans _ _ _ h1 h2) hlo2
        case measure => simp [intOf]; omega
    · obtain rfl : i = j := by omega
      have hst : Stands s M i := ⟨by rw [hwl.out]; exact hjn, hlo.out, hhi.out⟩
      have hsth := Lib.hid hst
      clear hst hlo hhi
      by_cases hin : i < n
      · obtain ⟨b, o, rfl, hc⟩ := Ns.at hb (by omega)
        have hmM : i < M.length := by rw [hlen.out]; omega
        have hmW : i < M.length := by rw [hwl.out]; omega
        obtain ⟨d0, d1⟩ := hc i hmM
        replace d0 := hX.cell d0
        replace d1 := hX.cell d1
        have hceq := compare_eq M[i].1 s
        obtain ⟨⟨pp, pa⟩, hx⟩ : ∃ x, M[i] = x := ⟨_, rfl⟩
        have hwm : M[i].1 = pp := by rw [hx]
        rw [hx] at d0 d1 hceq
        dsimp only at d0 d1 hceq
        have hcl := place1_calls pp s pa wr
        obtain ⟨z, hz⟩ : ∃ z, Lib.compareBytes pp s = z := ⟨_, rfl⟩
        rw [hz] at hcl hceq
        have hiff : Hid ((z == 0) = true ↔ ∃ h : i < M.length, M[i].1 = s) := by
          show _ ↔ _
          rw [beq_iff_eq, hceq]
          constructor
          · intro h; exact ⟨hmW, by rw [hwm]; exact h⟩
          · rintro ⟨_, h⟩; rw [hwm] at h; exact h
        clear hc hx hz hwm hceq
        go_wp2_with fail
        refine hcl.mono ?_
        rintro e w1 ⟨rfl, hx1⟩
        go_wp2
        go_ret2
        exact ⟨i, _, rfl, hsth.out, hiff.out, hX.trans hx1⟩
      · have hno : Hid (false = true ↔ ∃ h : i < M.length, M[i].1 = s) := by
          show _ ↔ _
          constructor
          · intro h; cases h
          · rintro ⟨h, _⟩; rw [hwl.out] at h; omega
        go_wp2
        go_ret2
        exact ⟨i, _, rfl, hsth.out, hno.out, hX⟩
theorem infoNm : (Try.prog.info? 81).map (fun i => (i.zero, i.size, i.bytes)) = some (some (.agg #[.string ⟨#[]⟩, .int .i64 0]), 2, 24) := by kernel_rfl
theorem nc_one (l : List Nm) : ∀ u ∈ rcells nc l, u.oneCell' = true := by
  intro u hu
  unfold rcells at hu
  rw [List.mem_flatMap] at hu
  obtain ⟨x, _, hx⟩ := hu
  simp [nc] at hx
  rcases hx with rfl | rfl <;> rfl
set_option maxHeartbeats 400000 in
theorem nclone_calls (a : Option Addr) (n c : Nat) (M : List Nm) (w : World) (hn : n ≤ 1000000) (hb : Row nc 2 w a n c M) :
    Calls Try.prog 47 #[.slice a n c] w fun e w' => ∃ v, e = .returned v ∧ ORow nc 2 w' w.heap.size 81 v M ∧ Ext w w' := by
  have hb1 := Lib.hid hb
  have hlen := Lib.hid (Row.len nc_len (by decide) hb)
  have hq := fun (w : World) (a : Option Addr) (n c n2 c2 : Nat) => Lib.run_eql_slice_nil (P := Try.prog) w 26 _ a n c n2 c2 Try.underlying26
  clear hb
  cases a with
  | none =>
    have hc : Hid (c = 0) := Sl.nil hb1.out rfl
    have hl : Hid (M = []) := List.eq_nil_of_length_eq_zero (by have := hlen.out; have := Sl.le hb1.out; have := hc.out; omega)
    go_enter Try.func47, Try.ntmps47
    go_wp2
    go_ret
    exact ⟨_, rfl, by rw [hl.out]; exact World.ownsRow_nil _ _ _ _, Ext.refl _⟩
  | some a =>
    have hz1 : Hid ((0 + n) * 24 ≤ 140737488355328) := by show _ ≤ _; omega
    have hz2 : Hid (0 + n ≤ maxLen) := by show _ ≤ _; unfold maxLen; omega
    have hz3 : Hid (w.heap.size ≤ (w.alloc (.cells #[] 81)).heap.size) := by show _ ≤ _; simp
    have ho := Lib.hid (owns_made w 81 2)
    have hsrc := Lib.hid (hb1.out.ext (Ext.alloc w (.cells #[] 81)))
    go_enter Try.func47, Try.ntmps47
    go_wp2_with (at_builtin; refine wpList_append_sl rfl _ _ 26 rfl w.heap.size 81 Try.underlying26 infoNm rfl (by decide) _ _ _ rfl ho.out _ _ _ (rcells nc M) rfl hsrc.out (nc_one M) hz1.out hz2.out hz3.out ?_; intro v' w1 hown hgrow)
    go_ret
    refine ⟨_, rfl, ?_, (Ext.alloc w _).grown hgrow (fun k e => owns_row ho.out k e)⟩
    rw [Nat.zero_add, List.nil_append, ← hlen.out] at hown
    exact hown

set_option maxRecDepth 100000 in
theorem place_calls (a : Option Addr) (n c : Nat) (M : List Nm) (s : List UInt8) (w : World) (hb : Ns w a n c M) (hr : (M.map (·.1)).Pairwise fun a b => bl a b = true) (hn : n ≤ 1000000) :
    Calls Try.prog 41 #[.slice a n c, .string ⟨s.toArray⟩] w fun e w' =>
      ∃ (i : Nat) (b : Bool), e = .returned (.tuple #[.int .i64 i, .bool b]) ∧ Stands s M i ∧ (b = true ↔ ∃ h : i < M.length, M[i].1 = s) ∧ Ext w w' := by
  have hs := search_calls a n c M s _ hb hr hn
  clear hr
  go_enter Try.func41, Try.ntmps41
  go_wp2_with fail
  refine hs.mono ?_
  rintro e w1 ⟨i, b, rfl, hst, hiff, hx1⟩
  have hh := Lib.hid hst
  have hh2 := Lib.hid hiff
  clear hst hiff
  go_wp2
  go_ret2
  exact ⟨i, b, rfl, hh.out, hh2.out, hx1⟩
end Go.Proofs.Ytponbponacdhkaa
