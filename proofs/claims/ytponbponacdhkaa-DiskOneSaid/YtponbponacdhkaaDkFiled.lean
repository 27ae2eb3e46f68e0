/-
  Layer 6's contracts: are the files as they must be? how many bytes a disk holds; are two lists of names the same? (where they are)
-/
import Derived.Test.YtponbponacdhkaaDkDisk
namespace Go.Proofs.Ytponbponacdhkaa
open Go.RowKit

/-- A file's header, in memory. -/
theorem files_at {w : World} {base : Nat} {x : DV} {D : Dk} (h : OD w base x D) (hn : 0 < x.fn) : ∃ b o, x.fa = some ⟨b, o, none⟩ ∧ ∀ k (hk : k < x.fm.length), w.cell? ⟨b, o + k * 3, none⟩ = some (.int .i64 x.fm[k].1.id) ∧
    w.cell? ⟨b, o + k * 3 + 1, none⟩ = some (.slice x.fm[k].2.1 x.fm[k].2.2.1 x.fm[k].2.2.2) ∧ w.cell? ⟨b, o + k * 3 + 2, none⟩ = some (.int .i64 x.fm[k].1.sure) := by
  obtain ⟨b, o, ha, hc⟩ := Row.at fcl_len (slice_row h.files).1 hn
  exact ⟨b, o, ha, fun k hk => ⟨hc k hk 0 _ rfl, hc k hk 1 _ rfl, hc k hk 2 _ rfl⟩⟩
theorem fm_at {w : World} {base : Nat} {x : DV} {D : Dk} (h : OD w base x D) {k : Nat} (hk : k < x.fm.length) : ∃ hk' : k < D.files.length, x.fm[k].1 = D.files[k] := by
  have h1 := h.fm
  have hk' : k < D.files.length := by rw [← h1, List.length_map]; exact hk
  refine ⟨hk', ?_⟩
  have : (x.fm.map (·.1))[k]'(by rw [List.length_map]; exact hk) = D.files[k] := by simp only [h1]
  rw [← this, List.getElem_map]
theorem bytes_len {w : World} {base : Nat} {x : DV} {D : Dk} (h : OD w base x D) {y : Fh} (hy : y ∈ x.fm) : y.1.bytes.length = y.2.2.1 := by
  obtain ⟨a, n, c, hv, hb⟩ := (h.bytes y hy).bs
  have h1 := Sl.len hb
  injection hv with _ h2 _
  rw [h2]
  simpa [bvs] using h1

set_option maxRecDepth 100000 in
set_option maxHeartbeats 3200000 in
theorem filed_calls (D : Dk) (x : DV) (base : Nat) (w : World) (hO : OD w base x D) (hG : Good D) :
    Calls Try.prog 38 #[dkv D x] w fun e w' => e = .returned (.bool true) ∧ Ext w w' := by
  obtain ⟨hf1, hf2, hf3⟩ : x.fm.length ≤ x.fn ∧ x.fn ≤ x.fm.length ∧ x.fn ≤ 256 := by
    have h1 := hO.fn
    have h2 := hG.nf
    omega
  have hx0 := Ext.alloc w (.cells (dcs D x) 29)
  have hb0 := heap_alloc_new w (.cells (dcs D x) 29)
  have hOh := Lib.hid hO
  have hGh := Lib.hid hG
  have hn1 := hG.next.2
  clear hO hG
  unfold dkv
  unfold dcs at *
  obtain ⟨W0, hW0⟩ : ∃ W0, w.alloc (.cells #[.int .i64 D.quota, .slice x.fa x.fn x.fc, .slice x.na x.nn x.nc, .slice x.ka x.kn x.kc, .slice x.ma x.mn x.mc, .int .i64 D.next] 29) = W0 := ⟨_, rfl⟩
  rw [hW0] at hx0 hb0
  obtain ⟨⟨y0, y1, y2, y3, y4, y5⟩, _⟩ := cells_six hb0
  have hl0 := lt_of_block hb0
  go_enter Try.func38, Try.ntmps38
  go_wp2_with fail
  clear hW0
  go_loopw [8] (fun vi wr => ∃ k : Nat, k ≤ x.fn ∧ vi = .int .i64 k ∧ Ext W0 wr) (fun vi _ => x.fn - (intOf vi).toNat)
  case atStart => exact ⟨0, Nat.zero_le _, rfl, Ext.refl _⟩
  case round =>
    obtain ⟨k, hk, rfl, hX⟩ := hrel
    by_cases hlt : k < x.fn
    · obtain ⟨b0, o0, hfa, hc⟩ := files_at hOh.out (by omega)
      obtain ⟨wo, hwo⟩ : ∃ wo : World, wr = wo := ⟨_, rfl⟩
      rw [hwo] at hX ⊢
      clear hwo
      have hkm : k < x.fm.length := by omega
      obtain ⟨hkD, hkf⟩ := fm_at hOh.out hkm
      have hXw := hx0.trans hX
      have d0 := hXw.cell (hc k hkm).1
      have d1 := hXw.cell (hc k hkm).2.1
      have d2 := hXw.cell (hc k hkm).2.2
      have z1 := hX.cell y1
      have z5 := hX.cell y5
      have hrg := hGh.out.range D.files[k] (List.getElem_mem hkD)
      have hbl := bytes_len hOh.out (List.getElem_mem hkm)
      have hprev : ∀ j, j + 1 = k → ∃ q : Int, (∀ W, Ext w W → W.cell? ⟨b0, o0 + j * 3, none⟩ = some (.int .i64 q)) ∧ q < D.files[k].id := fun j hj => by
        have hjm : j < x.fm.length := by omega
        obtain ⟨hjD, hjf⟩ := fm_at hOh.out hjm
        refine ⟨x.fm[j].1.id, fun W h => h.cell (hc j hjm).1, ?_⟩
        rw [hjf]
        exact List.pairwise_iff_getElem.1 hGh.out.files j k hjD hkD (by omega)
      rw [← hkf] at hrg hprev
      obtain ⟨⟨⟨id, by0, su⟩, pa, pn, pc⟩, hx⟩ : ∃ y, x.fm[k] = y := ⟨_, rfl⟩
      rw [hx] at d0 d1 d2 hrg hprev hbl
      dsimp only at d0 d1 d2 hrg hprev hbl
      have hpvh := Lib.hid hprev
      have q1 : decide (id < 1) = false := decide_eq_false (by omega)
      have q2 : decide (D.next ≤ id) = false := decide_eq_false (by omega)
      have q3 : decide (su < 0) = false := decide_eq_false (by omega)
      have q4 : decide ((pn : Int) < su) = false := decide_eq_false (by omega)
      clear hc hx hprev hrg hkf hbl
      go_upto_region 4 with fail
      have hx1 := Ext.alloc wo (.cells #[.int .i64 id, .slice pa pn pc, .int .i64 su] 58)
      have hb1 := heap_alloc_new wo (.cells #[.int .i64 id, .slice pa pn pc, .int .i64 su] 58)
      obtain ⟨B, hB⟩ : ∃ B, wo.heap.size = B := ⟨_, rfl⟩
      obtain ⟨W1, hW1⟩ : ∃ W1, wo.alloc (.cells #[.int .i64 id, .slice pa pn pc, .int .i64 su] 58) = W1 := ⟨_, rfl⟩
      rw [hW1] at hx1
      rw [hW1, hB] at hb1 ⊢
      clear hW1 hB
      have hX1 := hX.trans hx1
      obtain ⟨e0, e1, e2⟩ := cells_three hb1
      replace z1 := hx1.cell z1
      replace z5 := hx1.cell z5
      clear d0 d1 d2 hX hx1 hb1 hXw
      obtain ⟨X, iX, f, hxS0, hSx0⟩ := letters (fun w' => Ext W1 w') W1 (Ext.refl W1)
      have hxS := Lib.hid hxS0
      have hSx := Lib.hid hSx0
      clear hxS0 hSx0
      have u0 : ∀ x', (f x').cell? ⟨B, 0, none⟩ = some (.int .i64 id) := fun x' => (hxS.out x').cell e0
      have u1 : ∀ x', (f x').cell? ⟨B, 1, none⟩ = some (.slice pa pn pc) := fun x' => (hxS.out x').cell e1
      have u2 : ∀ x', (f x').cell? ⟨B, 2, none⟩ = some (.int .i64 su) := fun x' => (hxS.out x').cell e2
      have u3 : ∀ x', (f x').cell? ⟨w.heap.size, 5, none⟩ = some (.int .i64 D.next) := fun x' => (hxS.out x').cell z5
      rw [hfa] at z1
      have u4 : ∀ x', (f x').cell? ⟨w.heap.size, 1, none⟩ = some (.slice (some ⟨b0, o0, none⟩) x.fn x.fc) := fun x' => (hxS.out x').cell z1
      clear e0 e1 e2 z1 z5
      cases k with
      | zero =>
        refine region_class (fun w' => ∃ x' : X, w' = f x') (by kernel_rfl) (by kernel_rfl) (hSx.out _ (Ext.drewN W1 1)) ?_
        repeat (go_big_quiet_step (fail))
        refine wpQuiet_nil ?_
        rintro _ ⟨x1, rfl⟩
        have hxA := hxS.out x1
        go_wp2_with fail
        go_roundw
        case rel => exact ⟨0 + 1, by omega, by go_num, hX1.trans hxA⟩
        case measure => simp [intOf]; omega
      | succ j =>
        obtain ⟨q, hq0, hq1⟩ := hpvh.out j rfl
        have u5 : ∀ x', (f x').cell? ⟨b0, o0 + j * 3, none⟩ = some (.int .i64 q) := fun x' => hq0 _ (hx0.trans (hX1.trans (hxS.out x')))
        have q5 : decide (id ≤ q) = false := decide_eq_false (by omega)
        clear hq0
        refine region_class (fun w' => ∃ x' : X, w' = f x') (by kernel_rfl) (by kernel_rfl) (hSx.out _ (Ext.drewN W1 1)) ?_
        repeat (go_big_quiet_step (fail))
        refine wpQuiet_nil ?_
        rintro _ ⟨x1, rfl⟩
        have hxA := hxS.out x1
        go_wp2_with fail
        go_roundw
        case rel => exact ⟨j + 1 + 1, by omega, by go_num, hX1.trans hxA⟩
        case measure => simp [intOf]; omega
    · obtain rfl : k = x.fn := by omega
      go_wp2_with fail
      go_ret
      exact ⟨rfl, hx0.trans hX⟩
end Go.Proofs.Ytponbponacdhkaa
