/-
  Layer 6's contracts: may a name be; added, dropped, done.
-/
import Derived.Test.YtponbponacdhkaaDkPlain
namespace Go.Proofs.Ytponbponacdhkaa
open Go.RowKit

theorem valid_calls (s : List UInt8) (w : World) (hl : s.length ≤ 140737488355328) : Calls Try.prog 30 #[.string ⟨s.toArray⟩] w fun e w' => e = .returned (.bool (vld s)) ∧ w' = w := by
  have hv : vld s = (!s.isEmpty && decide ((s.length : Int) ≤ 96)) := by
    unfold vld
    rw [Bool.eq_iff_iff]
    simp
    intro _
    omega
  rw [hv]
  cases hs : s.isEmpty with
  | true =>
    obtain rfl : s = [] := by simpa using hs
    go_enter Try.func30, Try.ntmps30
    go_wp2
    go_ret
    exact ⟨rfl, rfl⟩
  | false =>
    rw [Bool.not_false, Bool.true_and]
    go_enter Try.func30, Try.ntmps30
    go_wp2
    go_ret
    exact ⟨rfl, rfl⟩
theorem own_lt {w : World} {base : Nat} {e : TypeId} {s : Nat} {v : Value} {n : Nat} {xs : List Value} (h : w.ownsRow base e s v n xs) {B : Nat} (hB : w.heap.size ≤ B) : v.ownBlock ≠ some B := fun he => by
  have := (World.ownsRow.lt h B he).2
  omega
set_option maxRecDepth 100000 in
set_option maxHeartbeats 1600000 in
theorem added_calls (a : Option Addr) (n c : Nat) (M : List Nm) (s : List UInt8) (id : Int) (w : World) (hb : Ns w a n c M) (hr : Rising M) (hn : n ≤ 10000) :
    Calls Try.prog 50 #[.slice a n c, .string ⟨s.toArray⟩, .int .i64 id] w fun e w' => ∃ v, e = .returned v ∧ ORow nc 2 w' w.heap.size 81 v (insN s id M) ∧ Ext w w' := by
  have hlen := Row.len nc_len (by decide) hb
  subst hlen
  have hp := Lib.hid (place_calls a M.length c M s w hb hr (by omega))
  have hcl := Lib.hid (fun W (h : Ext w W) => nclone_calls a M.length c M W (by omega) (hb.ext h))
  clear hr
  go_enter Try.func50, Try.ntmps50
  go_wp2_with fail
  refine hp.out.mono ?_
  rintro e w1 ⟨i, b, rfl, hst, _, hx1⟩
  have hsth := Lib.hid hst
  clear hst
  go_wp2_with fail
  refine (hcl.out w1 hx1).mono ?_
  rintro e w2 ⟨v, rfl, hown, hx2⟩
  obtain ⟨a2, c2, rfl, _⟩ := Sl.of_owns hown
  have hownh := Lib.hid hown
  clear hown
  have hX2 := hx1.trans hx2
  go_wp2_with fail
  have hx3 := Ext.alloc w2 (.cells #[.string ⟨s.toArray⟩, .int .i64 id] 81)
  refine (insert_calls w1.heap.size _ M i (s, id) w2.heap.size (w2.alloc (.cells #[.string ⟨s.toArray⟩, .int .i64 id] 81)) (owns_ext hownh.out hx3) hsth.out.1 (heap_alloc_new _ _) (own_lt hownh.out (Nat.le_refl _)) (by omega) (by have := hx2.size; simp; omega)).mono ?_
  rintro e w3 ⟨v3, rfl, hown3, hg3⟩
  have hI := insN_stands s id M i hsth.out
  go_wp2_with fail
  go_ret
  refine ⟨_, rfl, ?_, ?_⟩
  · rw [hI]
    exact owns_mono hown3 hx1.size
  · exact (hX2.trans hx3).grown hg3 (fun k e => by
      have h1 := owns_row hownh.out k e
      have h2 := hx1.size
      omega)
set_option maxRecDepth 100000 in
set_option maxHeartbeats 1600000 in
theorem dropped_calls (a : Option Addr) (n c : Nat) (M : List Nm) (s : List UInt8) (w : World) (hb : Ns w a n c M) (hr : Rising M) (hn : n ≤ 10000) :
    Calls Try.prog 51 #[.slice a n c, .string ⟨s.toArray⟩] w fun e w' => ∃ a2 n2 c2, e = .returned (.slice a2 n2 c2) ∧ Ns w' a2 n2 c2 (dropN s M) ∧ ((findN s M).isSome = true → ORow nc 2 w' w.heap.size 81 (.slice a2 n2 c2) (dropN s M)) ∧ n2 ≤ n ∧ Ext w w' := by
  have hlen := Row.len nc_len (by decide) hb
  subst hlen
  have hp := Lib.hid (place_calls a M.length c M s w hb hr (by omega))
  have hcl := Lib.hid (fun W (h : Ext w W) => nclone_calls a M.length c M W (by omega) (hb.ext h))
  have hrh := Lib.hid hr
  clear hr
  go_enter Try.func51, Try.ntmps51
  go_wp2_with fail
  refine hp.out.mono ?_
  rintro e w1 ⟨i, b, rfl, hst, hiff, hx1⟩
  have hsth := Lib.hid hst
  have hiffh := Lib.hid hiff
  clear hst hiff
  cases b with
  | false =>
    go_wp2_with fail
    go_ret
    have hno : ¬ ∃ h : i < M.length, M[i].1 = s := fun h => by have := hiffh.out.2 h; cases this
    obtain ⟨h1, h2⟩ := drop_above (stands_not M i hrh.out hsth.out hno)
    refine ⟨a, _, c, rfl, by rw [h1]; exact hb.ext hx1, fun h => ?_, Nat.le_refl _, hx1⟩
    rw [h2] at h
    cases h
  | true =>
    obtain ⟨hi, his⟩ := hiffh.out.1 rfl
    obtain ⟨f1, f2⟩ := stands_found M i hrh.out hsth.out hi his
    have f2h := Lib.hid f2
    clear f1 f2 his
    have hw1 : IntKind.i64.wrap ((i : Int) + 1) = (i : Int) + 1 := by rw [IntKind.wrap_i64]; omega
    go_wp2_with fail
    refine (hcl.out w1 hx1).mono ?_
    rintro e w2 ⟨v, rfl, hown, hx2⟩
    obtain ⟨a2, c2, rfl, _⟩ := Sl.of_owns hown
    have hownh := Lib.hid hown
    clear hown
    have hX2 := hx1.trans hx2
    go_wp2_with fail
    refine (delete_calls w1.heap.size _ M i w2 hownh.out hi (by omega)).mono ?_
    rintro e w3 ⟨v3, rfl, hown3, hg3⟩
    obtain ⟨a3, c3, hv3, hr3⟩ := ORow.row hown3
    subst hv3
    go_wp2_with fail
    go_ret
    rw [f2h.out]
    refine ⟨a3, _, c3, rfl, hr3, fun _ => owns_mono hown3 hx1.size, by rw [List.length_eraseIdx_of_lt hi]; omega, hX2.grown hg3 (fun k e => ?_)⟩
    have h1 := owns_row hownh.out k e
    have h2 := hx1.size
    omega
end Go.Proofs.Ytponbponacdhkaa
