/-
  Layer 6's contracts: a file's bytes.
-/
import Derived.Test.YtponbponacdhkaaDkSettled
namespace Go.Proofs.Ytponbponacdhkaa
open Go.RowKit

def ReadPost (D : Dk) (s : List UInt8) (l : List UInt8) (err : Int) : Prop :=
  (findN s D.names = none ∧ l = [] ∧ err = 4) ∨ ∃ (z : Int) (t : Nat) (ht : t < D.files.length), findN s D.names = some (s, z) ∧ D.files[t].id = z ∧ l = D.files[t].bytes ∧ err = 0
set_option maxRecDepth 100000 in
set_option maxHeartbeats 6400000 in
theorem read_calls (D : Dk) (x : DV) (base : Nat) (s : List UInt8) (w : World) (hO : OD w base x D) (hG : Good D) (hv : vld s = true) :
    Calls Try.prog 15 #[dkv D x, .string ⟨s.toArray⟩] w fun e w' => ∃ a n c l err, e = .returned (.tuple #[.slice a n c, .int .i64 err]) ∧ ReadPost D s l err ∧ Bs w' a n c l ∧ Ext w w' := by
  have hfd := Lib.hid (fun W (h : Ext w W) => find_calls D x base s W (hO.ext h) hG hv)
  have hOh := Lib.hid hO
  have hGh := Lib.hid hG
  have hvh := Lib.hid hv
  clear hO hG hv
  unfold dkv at *
  unfold dcs at *
  obtain ⟨fa, fn, fc, fm, na, nn, nc0, ka, kn, kc, ma, mn, mc⟩ := x
  dsimp only at *
  have hbk := heap_alloc_new w (.cells #[.int .i64 D.quota, .slice fa fn fc, .slice na nn nc0, .slice ka kn kc, .slice ma mn mc, .int .i64 D.next] 29)
  have hx0 := Ext.alloc w (.cells #[.int .i64 D.quota, .slice fa fn fc, .slice na nn nc0, .slice ka kn kc, .slice ma mn mc, .int .i64 D.next] 29)
  obtain ⟨W0, hW0⟩ : ∃ W0, w.alloc (.cells #[.int .i64 D.quota, .slice fa fn fc, .slice na nn nc0, .slice ka kn kc, .slice ma mn mc, .int .i64 D.next] 29) = W0 := ⟨_, rfl⟩
  rw [hW0] at hx0 hbk
  obtain ⟨⟨y0, y1, y2, y3, y4, y5⟩, _⟩ := cells_six hbk
  go_enter Try.func15, Try.ntmps15
  go_wp2_with fail
  refine (hfd.out _ hx0).mono ?_
  rintro e w1 ⟨i, err, rfl, hpost, hx1⟩
  clear hW0 y0 y1 y2 y3 y4 y5
  have hX1 := hx0.trans hx1
  have hb1 := (hx1.block _ (lt_of_block hbk)).trans hbk
  obtain ⟨⟨y0, y1, y2, y3, y4, y5⟩, ⟨i0, i1, i2, i3, i4, i5⟩⟩ := cells_six hb1
  have hlb1 := lt_of_block hb1
  have hs0 := hx0.size
  clear hx1 hbk hx0 hfd
  rcases hpost with ⟨hnone, rfl, rfl⟩ | ⟨z, t, ht, hsome, htz, rfl, rfl⟩
  · have hnh := Lib.hid hnone
    clear hnone
    go_wp2_with fail
    go_ret2
    exact ⟨none, 0, 0, [], 4, rfl, .inl ⟨hnh.out, rfl, rfl⟩, ⟨rfl, Nat.le_refl _, Nat.zero_le _, (fun _ => rfl), (fun h => absurd h (by omega))⟩, hX1⟩
  · have hsh := Lib.hid hsome
    have hzh := Lib.hid htz
    clear hsome htz
    have hnm := hOh.out.fn
    have htm : t < fm.length := by have h1 := hnm.1; have h2 := hnm.2.1; dsimp only at h1 h2; omega
    obtain ⟨b0, o0, hfa, hc⟩ := files_at hOh.out (by have h2 := hnm.2.1; dsimp only at h2 ⊢; omega)
    dsimp only at hfa
    subst hfa
    have d0 := hX1.cell (hc t htm).1
    have d1 := hX1.cell (hc t htm).2.1
    have d2 := hX1.cell (hc t htm).2.2
    have hkf := (fm_at hOh.out htm).2
    have hby := hOh.out.bytes fm[t] (List.getElem_mem htm)
    have hbl := bytes_len hOh.out (List.getElem_mem htm)
    dsimp only at d0 d1 d2 hkf hby hbl
    obtain ⟨⟨⟨id, bys, su⟩, pa, pn, pc⟩, hx⟩ : ∃ y, fm[t] = y := ⟨_, rfl⟩
    have htf : (t : Int) < (fn : Int) := by have h2 := hnm.2.1; dsimp only at h2; omega
    clear hnm
    rw [hx] at d0 d1 d2 hkf hby hbl
    dsimp only at d0 d1 d2 hkf hby hbl
    have hkfh := Lib.hid hkf
    have hbyh := Lib.hid hby
    have hblh := Lib.hid hbl
    clear hc hx hkf hby hbl
    have hpnb : pn ≤ 1073741824 := by
      have h1 := mem_total (List.getElem_mem ht)
      have h2 := hGh.out.total
      have h3 := hGh.out.quota
      have h4 := hblh.out
      rw [← hkfh.out] at h1
      dsimp only at h1
      omega
    have hcl := Lib.hid (clone_calls pa pn pc bys w1 (by omega) ((hbyh.out.bs_at).ext hX1))
    have hlb := World.block_lt_of_cell? w1 _ d0
    go_wp2_with fail
    refine hcl.out.mono ?_
    rintro e w2 ⟨v, rfl, hob, hx2⟩
    obtain ⟨a2, n2, c2, rfl, hbs⟩ := hob.bs
    have hbsh := Lib.hid hbs
    clear hob hbs
    go_wp2_with fail
    go_ret2
    exact ⟨a2, n2, c2, bys, 0, rfl, .inr ⟨z, t, ht, hsh.out, hzh.out, by rw [← hkfh.out], rfl⟩, hbsh.out, hX1.trans hx2⟩
end Go.Proofs.Ytponbponacdhkaa
