/-
  Layer 20's contracts: place; slices.Clone of waits, of points; how many (the document's); new caches.
-/
import Derived.Test.YtcbjadmngkednaaCachePlace
namespace Go.Proofs.Ytcbjadmngkednaa
open Go.RowKit

set_option maxRecDepth 100000 in
theorem place_calls (m : Int) (a : Option Addr) (n c : Nat) (came dropped : Int) (M : List Wh) (s : List UInt8) (w : World) (hb : Ws w a n c M) (hr : ((ws M).map (·.1)).Pairwise fun a b => bl a b = true) (hn : n ≤ 1000000) :
    Calls Try.prog 29 #[cav m a n c came dropped, .string ⟨s.toArray⟩] w fun e w' =>
      ∃ (i : Nat) (b : Bool), e = .returned (.tuple #[.int .i64 i, .bool b]) ∧ Stands s (ws M) i ∧ (b = true ↔ ∃ h : i < (ws M).length, (ws M)[i].1 = s) ∧ Ext w w' := by
  have hx := Ext.alloc w (.cells #[.int .i64 m, .slice a n c, .int .i64 came, .int .i64 dropped] 24)
  have hs := search_calls a n c M s _ (hb.ext hx) hr hn
  unfold cav
  clear hr
  go_enter Try.func29, Try.ntmps29
  go_wp2_with fail
  refine hs.mono ?_
  rintro e w1 ⟨i, b, rfl, hst, hiff, hx1⟩
  have hh := Lib.hid hst
  have hh2 := Lib.hid hiff
  clear hst hiff
  go_wp2
  go_ret2
  exact ⟨i, b, rfl, hh.out, hh2.out, hx.trans hx1⟩

theorem infoAr : (Try.prog.info? 50).map (fun i => (i.zero, i.size, i.bytes)) = some (some (.agg #[.int .i64 0, .int .i64 0, .int .i64 0, .int .i64 0]), 4, 32) := by kernel_rfl
theorem infoWt : (Try.prog.info? 59).map (fun i => (i.zero, i.size, i.bytes)) = some (some (.agg #[.string ⟨#[]⟩, .slice none 0 0]), 2, 40) := by kernel_rfl
theorem ac_one (l : List Ar) : ∀ u ∈ rcells ac l, u.oneCell' = true := by
  intro u hu
  unfold rcells at hu
  rw [List.mem_flatMap] at hu
  obtain ⟨x, _, hx⟩ := hu
  simp [ac] at hx
  rcases hx with rfl | rfl | rfl | rfl <;> rfl
theorem wc_one (l : List Wh) : ∀ u ∈ rcells wc l, u.oneCell' = true := by
  intro u hu
  unfold rcells at hu
  rw [List.mem_flatMap] at hu
  obtain ⟨x, _, hx⟩ := hu
  simp [wc] at hx
  rcases hx with rfl | rfl <;> rfl
theorem owns_made (w : World) (e : TypeId) (s : Nat) : (w.alloc (.cells #[] e)).ownsRow w.heap.size e s (.slice (some ⟨w.heap.size, 0, none⟩) 0 0) 0 [] := World.ownsRow_made w #[] 0 (Nat.le_refl _) (Nat.zero_le _) (by simp)
set_option maxHeartbeats 400000 in
theorem aclone_calls (a : Option Addr) (n c : Nat) (l : List Ar) (w : World) (hn : n ≤ 1000000) (hb : As w a n c l) :
    Calls Try.prog 32 #[.slice a n c] w fun e w' => ∃ v, e = .returned v ∧ ORow ac 4 w' w.heap.size 50 v l ∧ Ext w w' := by
  have hb1 := Lib.hid hb
  have hlen := Lib.hid hb.len
  have hq := fun (w : World) (a : Option Addr) (n c n2 c2 : Nat) => Lib.run_eql_slice_nil (P := Try.prog) w 46 _ a n c n2 c2 Try.underlying46
  clear hb
  cases a with
  | none =>
    have hc : Hid (c = 0) := Sl.nil hb1.out rfl
    have hl : Hid (l = []) := List.eq_nil_of_length_eq_zero (by have := hlen.out; have := Sl.le hb1.out; have := hc.out; omega)
    go_enter Try.func32, Try.ntmps32
    go_wp2
    go_ret
    exact ⟨_, rfl, by rw [hl.out]; exact World.ownsRow_nil _ _ _ _, Ext.refl _⟩
  | some a =>
    have hz1 : Hid ((0 + n) * 32 ≤ 140737488355328) := by show _ ≤ _; omega
    have hz2 : Hid (0 + n ≤ maxLen) := by show _ ≤ _; unfold maxLen; omega
    have hz3 : Hid (w.heap.size ≤ (w.alloc (.cells #[] 50)).heap.size) := by show _ ≤ _; simp
    have ho := Lib.hid (owns_made w 50 4)
    have hsrc := Lib.hid (hb1.out.ext (Ext.alloc w (.cells #[] 50)))
    go_enter Try.func32, Try.ntmps32
    go_wp2_with (at_builtin; refine wpList_append_sl rfl _ _ 46 rfl w.heap.size 50 Try.underlying46 infoAr rfl (by decide) _ _ _ rfl ho.out _ _ _ (rcells ac l) rfl hsrc.out (ac_one l) hz1.out hz2.out hz3.out ?_; intro v' w1 hown hgrow)
    go_ret
    refine ⟨_, rfl, ?_, (Ext.alloc w _).grown hgrow (fun k e => owns_row ho.out k e)⟩
    rw [Nat.zero_add, List.nil_append, ← hlen.out] at hown
    exact hown
set_option maxHeartbeats 400000 in
theorem wclone_calls (a : Option Addr) (n c : Nat) (M : List Wh) (w : World) (hn : n ≤ 1000000) (hb : Row wc 2 w a n c M) :
    Calls Try.prog 30 #[.slice a n c] w fun e w' => ∃ v, e = .returned v ∧ ORow wc 2 w' w.heap.size 59 v M ∧ Ext w w' := by
  have hb1 := Lib.hid hb
  have hlen := Lib.hid (Row.len wc_len (by decide) hb)
  have hq := fun (w : World) (a : Option Addr) (n c n2 c2 : Nat) => Lib.run_eql_slice_nil (P := Try.prog) w 22 _ a n c n2 c2 Try.underlying22
  clear hb
  cases a with
  | none =>
    have hc : Hid (c = 0) := Sl.nil hb1.out rfl
    have hl : Hid (M = []) := List.eq_nil_of_length_eq_zero (by have := hlen.out; have := Sl.le hb1.out; have := hc.out; omega)
    go_enter Try.func30, Try.ntmps30
    go_wp2
    go_ret
    exact ⟨_, rfl, by rw [hl.out]; exact World.ownsRow_nil _ _ _ _, Ext.refl _⟩
  | some a =>
    have hz1 : Hid ((0 + n) * 40 ≤ 140737488355328) := by show _ ≤ _; omega
    have hz2 : Hid (0 + n ≤ maxLen) := by show _ ≤ _; unfold maxLen; omega
    have hz3 : Hid (w.heap.size ≤ (w.alloc (.cells #[] 59)).heap.size) := by show _ ≤ _; simp
    have ho := Lib.hid (owns_made w 59 2)
    have hsrc := Lib.hid (hb1.out.ext (Ext.alloc w (.cells #[] 59)))
    go_enter Try.func30, Try.ntmps30
    go_wp2_with (at_builtin; refine wpList_append_sl rfl _ _ 22 rfl w.heap.size 59 Try.underlying22 infoWt rfl (by decide) _ _ _ rfl ho.out _ _ _ (rcells wc M) rfl hsrc.out (wc_one M) hz1.out hz2.out hz3.out ?_; intro v' w1 hown hgrow)
    go_ret
    refine ⟨_, rfl, ?_, (Ext.alloc w _).grown hgrow (fun k e => owns_row ho.out k e)⟩
    rw [Nat.zero_add, List.nil_append, ← hlen.out] at hown
    exact hown

set_option maxRecDepth 100000 in
theorem rcount_calls (m : Int) (a : Option Addr) (n c : Nat) (came dropped : Int) (M : List Wh) (w : World) (hb : Ws w a n c M) (hs : cnt (ws M) ≤ 1000000) :
    Calls Try.prog 23 #[cav m a n c came dropped] w fun e w' => e = .returned (.int .i64 (cnt (ws M) : Nat)) ∧ Ext w w' := by
  have hlen := Lib.hid hb.len
  have hm := Nat.le_trans (Sl.le hb.1) (Sl.max hb.1)
  unfold maxLen at hm
  have hx := Ext.alloc w (.cells #[.int .i64 m, .slice a n c, .int .i64 came, .int .i64 dropped] 24)
  unfold cav
  go_enter Try.func23, Try.ntmps23
  go_wp2
  go_loop [3, 4] (fun s i => ∃ k : Nat, k ≤ n ∧ i = .int .i64 k ∧ s = .int .i64 (cnt (ws (M.take k)) : Nat)) (fun _ i => n - (intOf i).toNat)
  case atStart => exact ⟨0, by omega, rfl, rfl⟩
  case round =>
    obtain ⟨k, hk, rfl, rfl⟩ := hrel
    by_cases hlt : k < n
    · obtain ⟨b, o, rfl, hc⟩ := hb.at (by omega)
      have hkM : k < M.length := by rw [hlen.out]; exact hlt
      obtain ⟨d0, d1⟩ := hc k hkM
      have hlt2 := World.block_lt_of_cell? w _ d0
      have hct := cnt_take_succ M k hkM
      have hle := cnt_take_le M (k + 1)
      have hpl := (hb.2 M[k] (List.getElem_mem hkM)).len
      rw [hpl] at hct
      obtain ⟨s, hs2⟩ : ∃ s, cnt (ws (M.take k)) = s := ⟨_, rfl⟩
      rw [hs2] at hct ⊢
      rw [hct] at hle
      have hcth := Lib.hid hct
      obtain ⟨⟨⟨pp, pts⟩, pa, pn, pc⟩, hx2⟩ : ∃ x, M[k] = x := ⟨_, rfl⟩
      rw [hx2] at d0 d1 hle hcth
      dsimp only at d0 d1 hle hcth
      clear hc hs2 hct hpl hx2
      go_wp2
      go_round
      case rel => exact ⟨k + 1, by omega, by go_num, by rw [hcth.out]; go_num⟩
      case measure => simp [intOf]; omega
    · obtain rfl : k = n := by omega
      have htk : M.take k = M := List.take_of_length_le (by rw [hlen.out]; exact Nat.le_refl _)
      rw [htk]
      clear htk
      go_wp2
      go_ret
      exact ⟨rfl, hx⟩

/-- A new cache. -/
def newC (m : Int) : Ca × Int := if 1 ≤ m ∧ m ≤ 500 then (⟨m, [], 0, 0⟩, 0) else (⟨0, [], 0, 0⟩, 1)
theorem new_calls (m : Int) (w : World) : Calls Try.prog 16 #[.int .i64 m] w fun e w' => e = .returned (.tuple #[cav (newC m).1.max none 0 0 0 0, .int .i64 (newC m).2]) ∧ Ext w w' := by
  have hx := Ext.alloc w (.cells #[.int .i64 0, .slice none 0 0, .int .i64 0, .int .i64 0] 24)
  unfold cav newC
  by_cases h1 : m < 1
  · rw [if_neg (by omega)]
    go_enter Try.func16, Try.ntmps16
    go_wp2
    refine bodyPost_ret (v := .tuple #[.agg #[.int .i64 0, .slice none 0 0, .int .i64 0, .int .i64 0], .int .i64 1]) (by simp [results, Try.results16, go_sem]) rfl ?_
    exact ⟨rfl, hx⟩
  · by_cases h2 : 500 < m
    · rw [if_neg (by omega)]
      go_enter Try.func16, Try.ntmps16
      go_wp2
      refine bodyPost_ret (v := .tuple #[.agg #[.int .i64 0, .slice none 0 0, .int .i64 0, .int .i64 0], .int .i64 1]) (by simp [results, Try.results16, go_sem]) rfl ?_
      exact ⟨rfl, hx⟩
    · rw [if_pos (by omega)]
      go_enter Try.func16, Try.ntmps16
      go_wp2
      refine bodyPost_ret (v := .tuple #[.agg #[.int .i64 m, .slice none 0 0, .int .i64 0, .int .i64 0], .int .i64 0]) (by simp [results, Try.results16, go_sem]) rfl ?_
      exact ⟨rfl, Ext.alloc _ _⟩
theorem rnew_calls (m : Int) (w : World) : Calls Try.prog 17 #[.int .i64 m] w fun e w' => e = .returned (.tuple #[cav (newC m).1.max none 0 0 0 0, .int .i64 (newC m).2]) ∧ Ext w w' := by
  have hx := Ext.alloc w (.cells #[.int .i64 0, .slice none 0 0, .int .i64 0, .int .i64 0] 24)
  unfold cav newC
  by_cases h1 : m < 1
  · rw [if_neg (by omega)]
    go_enter Try.func17, Try.ntmps17
    go_wp2
    refine bodyPost_ret (v := .tuple #[.agg #[.int .i64 0, .slice none 0 0, .int .i64 0, .int .i64 0], .int .i64 1]) (by simp [results, Try.results17, go_sem]) rfl ?_
    exact ⟨rfl, hx⟩
  · by_cases h2 : 500 < m
    · rw [if_neg (by omega)]
      go_enter Try.func17, Try.ntmps17
      go_wp2
      refine bodyPost_ret (v := .tuple #[.agg #[.int .i64 0, .slice none 0 0, .int .i64 0, .int .i64 0], .int .i64 1]) (by simp [results, Try.results17, go_sem]) rfl ?_
      exact ⟨rfl, hx⟩
    · rw [if_pos (by omega)]
      go_enter Try.func17, Try.ntmps17
      go_wp2
      refine bodyPost_ret (v := .tuple #[.agg #[.int .i64 m, .slice none 0 0, .int .i64 0, .int .i64 0], .int .i64 0]) (by simp [results, Try.results17, go_sem]) rfl ?_
      exact ⟨rfl, Ext.alloc _ _⟩
end Go.Proofs.Ytcbjadmngkednaa
