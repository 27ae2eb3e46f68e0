/-
  Layer 6's contracts: how many bytes a disk holds; are two lists of names the same? (where they are); a new disk.
-/
import Derived.Test.YtponbponacdhkaaDkFiled
namespace Go.Proofs.Ytponbponacdhkaa
open Go.RowKit

theorem total_snoc (L : List Fl) (f : Fl) : total (L ++ [f]) = total L + f.bytes.length := by simp [total]
theorem total_append (L M : List Fl) : total (L ++ M) = total L + total M := by simp [total]
theorem total_take_le (L : List Fl) (k : Nat) : total (L.take k) ≤ total L := by
  have h := total_append (L.take k) (L.drop k)
  rw [List.take_append_drop] at h
  omega
set_option maxRecDepth 100000 in
set_option maxHeartbeats 3200000 in
theorem used_calls (D : Dk) (x : DV) (base : Nat) (w : World) (hO : OD w base x D) (hG : Good D) :
    Calls Try.prog 20 #[dkv D x] w fun e w' => e = .returned (.int .i64 (total D.files : Nat)) ∧ Ext w w' := by
  obtain ⟨hf1, hf2, hf3⟩ : x.fm.length ≤ x.fn ∧ x.fn ≤ x.fm.length ∧ x.fn ≤ 256 := by
    have h1 := hO.fn
    have h2 := hG.nf
    omega
  have hx0 := Ext.alloc w (.cells (dcs D x) 29)
  have hb0 := heap_alloc_new w (.cells (dcs D x) 29)
  have hOh := Lib.hid hO
  have hGh := Lib.hid hG
  have htot : total D.files ≤ 1073741824 := by have h1 := hG.total; have h2 := hG.quota; omega
  clear hO hG
  unfold dkv
  unfold dcs at *
  obtain ⟨W0, hW0⟩ : ∃ W0, w.alloc (.cells #[.int .i64 D.quota, .slice x.fa x.fn x.fc, .slice x.na x.nn x.nc, .slice x.ka x.kn x.kc, .slice x.ma x.mn x.mc, .int .i64 D.next] 29) = W0 := ⟨_, rfl⟩
  rw [hW0] at hx0 hb0
  obtain ⟨⟨y0, y1, y2, y3, y4, y5⟩, _⟩ := cells_six hb0
  have hl0 := lt_of_block hb0
  go_enter Try.func20, Try.ntmps20
  go_wp2_with fail
  clear hW0
  go_loopw [3, 9] (fun vs vi wr => ∃ k s : Nat, k ≤ x.fn ∧ vi = .int .i64 k ∧ vs = .int .i64 s ∧ Hid (s = total (D.files.take k)) ∧ Ext W0 wr) (fun _ vi _ => x.fn - (intOf vi).toNat)
  case atStart => exact ⟨0, 0, Nat.zero_le _, rfl, rfl, rfl, Ext.refl _⟩
  case round =>
    obtain ⟨k, s, hk, rfl, rfl, hs, hX⟩ := hrel
    by_cases hlt : k < x.fn
    · obtain ⟨b0, o0, hfa, hc⟩ := files_at hOh.out (by omega)
      obtain ⟨wo, hwo⟩ : ∃ wo : World, wr = wo := ⟨_, rfl⟩
      rw [hwo] at hX ⊢
      clear hwo
      have hkm : k < x.fm.length := by omega
      obtain ⟨hkD, hkf⟩ := fm_at hOh.out hkm
      have hXw := hx0.trans hX
      have d0 := hXw.cell (hc k hkm).1
      have d1 := hXw.cell (hc k hkm).2.1
      have d2 := hXw.cell (hc k hkm).2.2
      have hbl := bytes_len hOh.out (List.getElem_mem hkm)
      have htk : total (D.files.take (k + 1)) = total (D.files.take k) + x.fm[k].1.bytes.length := by
        rw [List.take_succ_eq_append_getElem hkD, total_snoc, hkf]
      have hle := total_take_le D.files (k + 1)
      rw [hbl] at htk
      obtain ⟨⟨⟨id, by0, su⟩, pa, pn, pc⟩, hx⟩ : ∃ y, x.fm[k] = y := ⟨_, rfl⟩
      rw [hx] at d0 d1 d2 htk
      dsimp only at d0 d1 d2 htk
      have hs2 : Hid (s + pn = total (D.files.take (k + 1))) := by show _ = _; rw [htk, hs.out]
      have hsb : s + pn ≤ 1073741824 := by rw [hs2.out]; omega
      clear hc hx hkf hbl htk hle
      have hlb := World.block_lt_of_cell? wo _ d0
      have hfa2 := Lib.hid hfa
      clear hfa
      have e1 : x.fa = some ⟨b0, o0, none⟩ := hfa2.out
      go_wp2_with fail
      go_roundw
      case rel => exact ⟨k + 1, s + pn, by omega, by go_num, by go_num, hs2, hX.trans (Ext.alloc _ _)⟩
      case measure => simp [intOf]; omega
    · obtain rfl : k = x.fn := by omega
      have hs2 : s = total D.files := by
        rw [hs.out, List.take_of_length_le]
        have := congrArg List.length hOh.out.fm
        rw [List.length_map] at this
        omega
      subst hs2
      go_wp2_with fail
      go_ret
      exact ⟨rfl, hx0.trans hX⟩
set_option maxRecDepth 100000 in
set_option maxHeartbeats 3200000 in
theorem equal_calls (a : Option Addr) (n c : Nat) (a2 : Option Addr) (c2 : Nat) (M : List Nm) (w : World) (hb : Ns w a n c M) (hb2 : Ns w a2 n c2 M) :
    Calls Try.prog 39 #[.slice a n c, .slice a2 n c2] w fun e w' => e = .returned (.bool true) ∧ Ext w w' := by
  have hlen := Row.len nc_len (by decide) hb
  subst hlen
  have hbh := Lib.hid hb
  have hb2h := Lib.hid hb2
  have hmx := Nat.le_trans (Sl.le hb) (Sl.max hb)
  unfold maxLen at hmx
  clear hb hb2
  go_enter Try.func39, Try.ntmps39
  go_wp2_with fail
  go_loopw [13] (fun vi wr => ∃ k : Nat, k ≤ M.length ∧ vi = .int .i64 k ∧ Ext w wr) (fun vi _ => M.length - (intOf vi).toNat)
  case atStart => exact ⟨0, Nat.zero_le _, rfl, Ext.refl _⟩
  case round =>
    obtain ⟨k, hk, rfl, hX⟩ := hrel
    by_cases hlt : k < M.length
    · obtain ⟨b0, o0, rfl, hc⟩ := Ns.at hbh.out (by omega)
      obtain ⟨b1, o1, rfl, hc1⟩ := Ns.at hb2h.out (by omega)
      have d0 := hX.cell (hc k hlt).1
      have d1 := hX.cell (hc k hlt).2
      have d2 := hX.cell (hc1 k hlt).1
      have d3 := hX.cell (hc1 k hlt).2
      obtain ⟨⟨s, z⟩, hx⟩ : ∃ x, M[k] = x := ⟨_, rfl⟩
      rw [hx] at d0 d1 d2 d3
      dsimp only at d0 d1 d2 d3
      clear hc hc1 hx
      go_wp2_with fail
      go_region
      go_wp2_with fail
      go_roundw
      case rel => exact ⟨k + 1, by omega, by go_num, hX.trans (Ext.drewN _ 1)⟩
      case measure => simp [intOf]; omega
    · obtain rfl : k = M.length := by omega
      go_wp2_with fail
      go_ret
      exact ⟨rfl, hX⟩
theorem new_calls (q : Int) (w : World) (h0 : 0 ≤ q) (h1 : q ≤ 1073741824) : Calls Try.prog 8 #[.int .i64 q] w fun e w' => e = .returned (.tuple #[.agg #[.int .i64 q, .slice none 0 0, .slice none 0 0, .slice none 0 0, .slice none 0 0, .int .i64 1], .int .i64 0]) ∧ Ext w w' := by
  have hq : ¬ q < 0 := by omega
  have hq2 : ¬ 1073741824 < q := by omega
  go_enter Try.func8, Try.ntmps8
  go_wp2
  refine bodyPost_ret (v := .tuple #[.agg #[.int .i64 q, .slice none 0 0, .slice none 0 0, .slice none 0 0, .slice none 0 0, .int .i64 1], .int .i64 0]) (by simp [results, Try.results8, go_sem]) rfl ?_
  exact ⟨rfl, Ext.alloc _ _⟩
end Go.Proofs.Ytponbponacdhkaa
