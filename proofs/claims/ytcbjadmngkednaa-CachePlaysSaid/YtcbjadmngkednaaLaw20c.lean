/-
  The walk of CacheTaken: what was taken doesn't wait any more, and all else does as before.
-/
import Derived.Test.YtcbjadmngkednaaCacheGreat
namespace Go.Proofs.Ytcbjadmngkednaa
open Go.RowKit

set_option maxRecDepth 100000 in
set_option maxHeartbeats 800000 in
theorem of_none_calls (m : Int) (a : Option Addr) (n c : Nat) (came dropped : Int) (M : List Wh) (s : List UInt8) (w : World) (hb : Cw w a n c M) (hc : crtC ⟨m, ws M, came, dropped⟩ = true) (hf : findW s (ws M) = none) :
    Calls Try.prog 25 #[cav m a n c came dropped, .string ⟨s.toArray⟩] w fun e w' => e = .returned (.slice none 0 0) ∧ Ext w w' := by
  have hx := Ext.alloc w (.cells #[.int .i64 m, .slice a n c, .int .i64 came, .int .i64 dropped] 24)
  have hr := (hb.ext hx).right (m := m) (came := came) (dropped := dropped)
  have hri := (crt_good hc).rising
  rw [hc] at hr
  have hrh := Lib.hid hr
  have hpl := Lib.hid (fun W (h : Ext w W) => place_calls m a n c came dropped M s W (hb.rd.ext h) hri (by have := hb.len; omega))
  have hrih := Lib.hid hri
  have hfh := Lib.hid hf
  clear hr hri hc hf
  unfold cav at *
  go_enter Try.func25, Try.ntmps25
  go_wp2_with fail
  refine hrh.out.mono ?_
  rintro e w1 ⟨rfl, hx1⟩
  obtain ⟨y0, y1, y2, y3⟩ := box4 hx1
  have hX := hx.trans hx1
  go_wp2_with fail
  refine (hpl.out w1 hX).mono ?_
  rintro e w2 ⟨i, b, rfl, hst, hiff, hx2⟩
  have hX2 := hX.trans hx2
  cases b with
  | false =>
    clear hst hiff
    go_wp2_with fail
    go_ret
    exact ⟨rfl, hX2⟩
  | true =>
    obtain ⟨hiW, his⟩ := hiff.1 rfl
    obtain ⟨f1, _, _⟩ := stands_found s ⟨0, 0, 0, 0⟩ _ i hrih.out hst hiW his
    rw [hfh.out] at f1
    cases f1
theorem Cw.of_great {w : World} {a : Option Addr} {n c : Nat} {M : List Wh} (h : Ws w a n c M) (hg : ¬ 1000 < n + cnt (ws M)) (hp : ∀ x ∈ M, x.1.1.length ≤ 140737488355328) : Cw w a n c M := ⟨h, by omega, by omega, hp⟩

theorem takeC_cases (c : Ca) (s : List UInt8) : (∃ k : Int, k ≠ 0 ∧ takeC c s = ((c, []), k)) ∨ (∃ x, crtC c = true ∧ findW s c.waits = some x ∧ x.2 ≠ [] ∧ takeC c s = (({ c with waits := c.waits.filter fun x => x.1 != s }, x.2), 0)) := by
  unfold takeC
  by_cases h : crtC c = false
  · rw [if_pos h]; exact .inl ⟨1, by decide, rfl⟩
  · rw [if_neg h]
    have hc : crtC c = true := by simpa using h
    cases hf : findW s c.waits with
    | none => exact .inl ⟨15, by decide, rfl⟩
    | some x => exact .inr ⟨x, hc, rfl, ((crt_good hc).named x (findW_some hf).1).2, rfl⟩
set_option maxRecDepth 100000 in
set_option maxHeartbeats 3200000 in
theorem taken_walk (m : Int) (a : Option Addr) (n c : Nat) (came dropped : Int) (M : List Wh) (s t : List UInt8) (w : World) (hb : Ws w a n c M) (hn : n ≤ 1152921504606846976) (hp : ∀ x ∈ M, x.2.2.1 ≤ 1152921504606846976) (hpaths : ∀ x ∈ M, x.1.1.length ≤ 140737488355328) :
    Calls Try.prog 7 #[cav m a n c came dropped, .string ⟨s.toArray⟩, .string ⟨t.toArray⟩] w fun e w' => e = .returned (.bool true) ∧ Ext w w' := by
  have hx := Ext.alloc w (.cells #[.int .i64 m, .slice a n c, .int .i64 came, .int .i64 dropped] 24)
  have hgr := Lib.hid (fun W (h : Ext w W) => great_calls m a n c came dropped M W (hb.ext h) hn hp)
  have hcwh := Lib.hid (fun (hg : ¬ 1000 < n + cnt (ws M)) => Cw.of_great hb hg hpaths)
  have hbh := Lib.hid hb
  clear hb hn hp hpaths
  by_cases hg : 1000 < n + cnt (ws M)
  · rw [decide_eq_true hg] at hgr
    unfold cav at *
    go_enter Try.func7, Try.ntmps7
    go_wp2_with fail
    refine (alive20_calls _).mono ?_
    rintro e w1 ⟨rfl, hx1⟩
    obtain ⟨y0, y1, y2, y3⟩ := box4 hx1
    have hX := hx.trans hx1
    go_wp2_with fail
    refine (hgr.out _ hX).mono ?_
    rintro e w2 ⟨rfl, hx2⟩
    go_wp2_with fail
    go_ret
    exact ⟨rfl, hX.trans hx2⟩
  · rw [decide_eq_false hg] at hgr
    have hcw := hcwh.out hg
    have htk := Lib.hid (fun W (h : Ext w W) => take_calls m a n c came dropped M s W (hcw.ext h))
    have hct := Lib.hid (fun W (h : Ext w W) => count_calls m a n c came dropped M W (hcw.ext h))
    have hofc := Lib.hid (fun W (h : Ext w W) => of_calls m a n c came dropped M t W (hcw.ext h))
    have hcwhh := Lib.hid hcw
    clear hg hcwh hcw
    rcases takeC_cases ⟨m, ws M, came, dropped⟩ s with ⟨k, hk, hT⟩ | ⟨x, hc, hfx, hxn, hT⟩
    · rw [hT] at htk
      have hTh := Lib.hid hT
      have hk1 : (k != 0) = true := by simp [hk]
      have hk2 : (k == 0) = false := by simp [hk]
      clear hT hk
      unfold cav at *
      go_enter Try.func7, Try.ntmps7
      go_wp2_with fail
      refine (alive20_calls _).mono ?_
      rintro e w1 ⟨rfl, hx1⟩
      have hB1 := box4 hx1
      obtain ⟨y0, y1, y2, y3⟩ := hB1
      have hX := hx.trans hx1
      go_wp2_with fail
      refine (hgr.out _ hX).mono ?_
      rintro e w2 ⟨rfl, hx2⟩
      replace y0 := hx2.cell y0
      replace y1 := hx2.cell y1
      replace y2 := hx2.cell y2
      replace y3 := hx2.cell y3
      have hX2 := hX.trans hx2
      go_wp2_with fail
      refine (htk.out _ hX2).mono ?_
      rintro e w3 ⟨a2, n2, c2, M2, pa, pn, pc, rfl, hw2, hm2, hpt, _, hx3⟩
      obtain rfl : pn = 0 := hpt.len.symm
      replace y0 := hx3.cell y0
      replace y1 := hx3.cell y1
      replace y2 := hx3.cell y2
      replace y3 := hx3.cell y3
      have hX3 := hX2.trans hx3
      have hl0 := World.block_lt_of_cell? w3 _ y0
      have hsa := fun W (h : Ext w3 W) => casame_calls m a2 n2 c2 came dropped M2 m a n c came dropped M W (hw2.ext h) (hbh.out.ext (hX3.trans h))
      rw [show decide ((⟨m, ws M2, came, dropped⟩ : Ca) = ⟨m, ws M, came, dropped⟩) = true by rw [decide_eq_true_eq, hm2]] at hsa
      unfold cav at hsa
      have hsah := Lib.hid hsa
      clear hsa hw2 hm2 hpt
      go_wp2_with fail
      refine (hsah.out _ (Ext.alloc _ _)).mono ?_
      rintro e w4 ⟨rfl, hx4⟩
      go_wp2_with fail
      go_ret
      exact ⟨by simp, (hX3.trans (Ext.alloc _ _)).trans hx4⟩
    · rw [hT] at htk
      have hTh := Lib.hid hT
      have hkk := Lib.hid (take_right ⟨m, ws M, came, dropped⟩ s hc)
      have hff := Lib.hid (findW_filter s s (ws M))
      have hft := Lib.hid (findW_filter s t (ws M))
      have hcf := Lib.hid (cnt_filter s (ws M) x (crt_good hc).rising hfx)
      have hcfl := Lib.hid (cnt_filter_le s (ws M))
      have hcl := Lib.hid (show (if crtC ⟨m, ws M, came, dropped⟩ = true then ((cnt (ws M) : Nat) : Int) else 0) = (cnt (ws M) : Nat) by rw [if_pos hc])
      rw [hcl.out] at hct
      have hch := Lib.hid hc
      have hlx : 0 < x.2.length := List.length_pos_iff.2 hxn
      clear hT hc hfx hxn
      unfold cav at *
      go_enter Try.func7, Try.ntmps7
      go_wp2_with fail
      refine (alive20_calls _).mono ?_
      rintro e w1 ⟨rfl, hx1⟩
      obtain ⟨y0, y1, y2, y3⟩ := box4 hx1
      have hX := hx.trans hx1
      go_wp2_with fail
      refine (hgr.out _ hX).mono ?_
      rintro e w2 ⟨rfl, hx2⟩
      replace y0 := hx2.cell y0
      replace y1 := hx2.cell y1
      replace y2 := hx2.cell y2
      replace y3 := hx2.cell y3
      have hX2 := hX.trans hx2
      go_wp2_with fail
      refine (htk.out _ hX2).mono ?_
      rintro e w3 ⟨a2, n2, c2, M2, pa, pn, pc, rfl, hw2, hm2, hpt, _, hx3⟩
      have hpl := hpt.len
      replace y0 := hx3.cell y0
      replace y1 := hx3.cell y1
      replace y2 := hx3.cell y2
      replace y3 := hx3.cell y3
      have hX3 := hX2.trans hx3
      have hl0 := World.block_lt_of_cell? w3 _ y0
      have hcw2 : Cw w3 a2 n2 c2 M2 := Cw.of hw2 _ hm2 (Nat.le_trans (List.length_filter_le _ _) (by have := hcwhh.out.rd.len; have h2 := hcwhh.out.len; unfold ws; rw [List.length_map, this]; exact h2)) (Nat.le_trans hcfl.out hcwhh.out.tot) (fun y hy => by
        have h1 := (List.mem_filter.1 hy).1
        obtain ⟨z, hz, rfl⟩ := List.mem_map.1 h1
        exact hcwhh.out.paths z hz)
      go_upto_region 8 with fail
      obtain ⟨B, hBe⟩ : ∃ B, w3.heap.size = B := ⟨_, rfl⟩
      obtain ⟨w4, hw4⟩ : ∃ w4, w3.alloc (.cells #[.int .i64 m, .slice a2 n2 c2, .int .i64 came, .int .i64 dropped] 24) = w4 := ⟨_, rfl⟩
      have hx4 : Ext w3 w4 := by rw [← hw4]; exact Ext.alloc _ _
      have hbx : w4.heap[B]? = some (.cells #[.int .i64 m, .slice a2 n2 c2, .int .i64 came, .int .i64 dropped] 24 (0, 0)) := by rw [← hw4, ← hBe]; exact heap_alloc_new _ _
      rw [hw4, hBe]
      have hX4 := hX3.trans hx4
      have hcw4 := hcw2.ext hx4
      replace y0 := hx4.cell y0
      replace y1 := hx4.cell y1
      replace y2 := hx4.cell y2
      replace y3 := hx4.cell y3
      obtain ⟨⟨z0, z1, z2, z3⟩, _⟩ := cells_four hbx
      clear hw4 hBe hl0 hpt hw2 hx3 hx2 hx1 hcw2
      have hc2 : crtC ⟨m, ws M2, came, dropped⟩ = true := by rw [hm2]; exact hkk.out
      have hf2 : findW s (ws M2) = none := by rw [hm2, hff.out]; simp
      have hft2 : t ≠ s → findW t (ws M2) = findW t (ws M) := fun h => by rw [hm2, hft.out]; simp [h]
      obtain ⟨N2, hN2⟩ : ∃ N2, cnt (ws M2) = N2 := ⟨_, rfl⟩
      obtain ⟨N, hN⟩ : ∃ N, cnt (ws M) = N := ⟨_, rfl⟩
      have hsum : N2 + pn = N := by
        have h1 := hcf.out
        rw [← hm2, hN2, hN] at h1
        rw [← hpl]; exact h1
      have hNb : N ≤ 5000 := by rw [← hN]; exact hcwhh.out.tot
      have hct2 := fun W (h : Ext w4 W) => count_calls m a2 n2 c2 came dropped M2 W (hcw4.ext h)
      rw [hc2, if_pos rfl, hN2] at hct2
      rw [hN] at hct
      have hri2 := fun W (h : Ext w4 W) => (hcw4.ext h).right (m := m) (came := came) (dropped := dropped)
      rw [hc2] at hri2
      have hof0 := fun W (h : Ext w4 W) => of_none_calls m a2 n2 c2 came dropped M2 s W (hcw4.ext h) hc2 hf2
      have hof2 := Lib.hid (fun W (h : Ext w4 W) => of_calls m a2 n2 c2 came dropped M2 t W (hcw4.ext h))
      have hsame : Hid (t ≠ s → ofC ⟨m, ws M2, came, dropped⟩ t = ofC ⟨m, ws M, came, dropped⟩ t) := fun h => by
        unfold ofC
        rw [if_neg (by rw [hc2]; simp), if_neg (by rw [hch.out]; simp)]
        dsimp only
        rw [hft2 h]
      clear hc2 hf2 hft2
      unfold cav at hct2 hri2 hof0 hof2
      obtain ⟨X, iX, f, hxS0, hSx0⟩ := letters (fun w' => Ext w4 w') w4 (Ext.refl w4)
      have hxS := Lib.hid hxS0
      have hSx := Lib.hid hSx0
      clear hxS0 hSx0
      have u0 : ∀ x', (f x').cell? ⟨w.heap.size, 0, none⟩ = some (.int .i64 m) := fun x' => (hxS.out x').cell y0
      have u1 : ∀ x', (f x').cell? ⟨w.heap.size, 1, none⟩ = some (.slice a n c) := fun x' => (hxS.out x').cell y1
      have u2 : ∀ x', (f x').cell? ⟨w.heap.size, 2, none⟩ = some (.int .i64 came) := fun x' => (hxS.out x').cell y2
      have u3 : ∀ x', (f x').cell? ⟨w.heap.size, 3, none⟩ = some (.int .i64 dropped) := fun x' => (hxS.out x').cell y3
      have v0 : ∀ x', (f x').cell? ⟨B, 0, none⟩ = some (.int .i64 m) := fun x' => (hxS.out x').cell z0
      have v1 : ∀ x', (f x').cell? ⟨B, 1, none⟩ = some (.slice a2 n2 c2) := fun x' => (hxS.out x').cell z1
      have v2 : ∀ x', (f x').cell? ⟨B, 2, none⟩ = some (.int .i64 came) := fun x' => (hxS.out x').cell z2
      have v3 : ∀ x', (f x').cell? ⟨B, 3, none⟩ = some (.int .i64 dropped) := fun x' => (hxS.out x').cell z3
      have k1 : Hid (∀ x', Calls Try.prog 25 #[.agg #[.int .i64 m, .slice a2 n2 c2, .int .i64 came, .int .i64 dropped], .string ⟨s.toArray⟩] (f x') fun e w'' => e = .returned (.slice none 0 0) ∧ ∃ y, w'' = f y) := fun x' => (hof0 _ (hxS.out x')).mono (fun e w'' ⟨he, h2⟩ => ⟨he, hSx.out w'' ((hxS.out x').trans h2)⟩)
      have k2 : Hid (∀ x', Calls Try.prog 19 #[.agg #[.int .i64 m, .slice a2 n2 c2, .int .i64 came, .int .i64 dropped]] (f x') fun e w'' => e = .returned (.int .i64 (N2 : Nat)) ∧ ∃ y, w'' = f y) := fun x' => (hct2 _ (hxS.out x')).mono (fun e w'' ⟨he, h2⟩ => ⟨he, hSx.out w'' ((hxS.out x').trans h2)⟩)
      have k3 : Hid (∀ x', Calls Try.prog 19 #[.agg #[.int .i64 m, .slice a n c, .int .i64 came, .int .i64 dropped]] (f x') fun e w'' => e = .returned (.int .i64 (N : Nat)) ∧ ∃ y, w'' = f y) := fun x' => (hct.out _ (hX4.trans (hxS.out x'))).mono (fun e w'' ⟨he, h2⟩ => ⟨he, hSx.out w'' ((hxS.out x').trans h2)⟩)
      have k4 : Hid (∀ x', Calls Try.prog 14 #[.agg #[.int .i64 m, .slice a2 n2 c2, .int .i64 came, .int .i64 dropped]] (f x') fun e w'' => e = .returned (.bool true) ∧ ∃ y, w'' = f y) := fun x' => (hri2 _ (hxS.out x')).mono (fun e w'' ⟨he, h2⟩ => ⟨he, hSx.out w'' ((hxS.out x').trans h2)⟩)
      have hpn0 : ((pn : Int) == 0) = false := by rw [beq_eq_false_iff_ne]; omega
      have hwr : IntKind.i64.wrap ((N2 : Int) + (pn : Int)) = (N : Int) := by rw [IntKind.wrap_i64]; omega
      have hnn : ((N : Int) != (N : Int)) = false := by simp
      have hplh := Lib.hid hpl
      clear hct2 hri2 hof0 hsum hN hN2 hpl hm2
      refine region_class (fun w' => ∃ x' : X, w' = f x') (by kernel_rfl) (by kernel_rfl) (hSx.out _ (Ext.drewN w4 1)) ?_
      repeat (go_big_quiet_step ((first | (go_at_call 25; exact (k1.out _)) | (go_at_call 19; exact (k2.out _)) | (go_at_call 19; exact (k3.out _)) | (go_at_call 14; exact (k4.out _)))))
      refine wpQuiet_nil ?_
      rintro _ ⟨x1, rfl⟩
      have hx5 := hxS.out x1
      obtain ⟨w5, hw5⟩ : ∃ w5, f x1 = w5 := ⟨_, rfl⟩
      rw [hw5] at hx5 ⊢
      replace y0 := hx5.cell y0
      replace y1 := hx5.cell y1
      replace y2 := hx5.cell y2
      replace y3 := hx5.cell y3
      replace z0 := hx5.cell z0
      replace z1 := hx5.cell z1
      replace z2 := hx5.cell z2
      replace z3 := hx5.cell z3
      have hX5 := hX4.trans hx5
      clear u0 u1 u2 u3 v0 v1 v2 v3 k1 k2 k3 k4 hxS hSx hw5 hwr hnn
      by_cases hts : t = s
      · subst hts
        have htt : (t == t) = true := by simp
        go_wp2_with fail
        go_quiet (fail)
        go_wp2_with fail
        go_ret
        exact ⟨rfl, hX5.trans (Ext.drewN _ _)⟩
      · have htt : (t == s) = false := by simp [hts]
        have hsame2 := Lib.hid (hsame.out hts)
        go_upto_region 10 with fail
        obtain ⟨X, iX, f, hxS0, hSx0⟩ := letters (fun w' => Ext w5 w') w5 (Ext.refl w5)
        have hxS := Lib.hid hxS0
        have hSx := Lib.hid hSx0
        clear hxS0 hSx0
        have u0 : ∀ x', (f x').cell? ⟨w.heap.size, 0, none⟩ = some (.int .i64 m) := fun x' => (hxS.out x').cell y0
        have u1 : ∀ x', (f x').cell? ⟨w.heap.size, 1, none⟩ = some (.slice a n c) := fun x' => (hxS.out x').cell y1
        have u2 : ∀ x', (f x').cell? ⟨w.heap.size, 2, none⟩ = some (.int .i64 came) := fun x' => (hxS.out x').cell y2
        have u3 : ∀ x', (f x').cell? ⟨w.heap.size, 3, none⟩ = some (.int .i64 dropped) := fun x' => (hxS.out x').cell y3
        have v0 : ∀ x', (f x').cell? ⟨B, 0, none⟩ = some (.int .i64 m) := fun x' => (hxS.out x').cell z0
        have v1 : ∀ x', (f x').cell? ⟨B, 1, none⟩ = some (.slice a2 n2 c2) := fun x' => (hxS.out x').cell z1
        have v2 : ∀ x', (f x').cell? ⟨B, 2, none⟩ = some (.int .i64 came) := fun x' => (hxS.out x').cell z2
        have v3 : ∀ x', (f x').cell? ⟨B, 3, none⟩ = some (.int .i64 dropped) := fun x' => (hxS.out x').cell z3
        refine region_plan 10 [.quiet [0, 1, 2, 3, 4, 5, 7, 8], .act 6, .act 9] (fun w' => ∃ x' : X, w' = f x') (by kernel_rfl) (by kernel_rfl) (hSx.out _ (Ext.drewN w5 1)) ?_
        intro Q1 hQ1
        refine plan_quiet ?_
        simp only [sel, List.getElem?_toArray, List.getElem?_cons_zero, List.getElem?_cons_succ]
        repeat (go_big_quiet_step (fail))
        refine wpQuiet_nil ?_
        clear u0 u1 u2 u3 v0 v1 v2 v3
        refine plan_act ?_
        intro Q2 hQ2
        simp only [sel, List.getElem?_toArray, List.getElem?_cons_zero, List.getElem?_cons_succ]
        go_wp2_with fail
        refine (hof2.out _ (hx5.trans (Ext.drewN w5 1))).mono ?_
        rintro e w6 ⟨pa6, pn6, pc6, rfl, hp6, hx6⟩
        have hx6' := (Ext.drewN w5 1).trans hx6
        have hp6h := Lib.hid hp6
        clear hp6
        go_wp2_with fail
        refine hQ2 _ _ (hSx.out _ hx6') ?_
        refine plan_act ?_
        intro Q3 hQ3
        simp only [sel, List.getElem?_toArray, List.getElem?_cons_zero, List.getElem?_cons_succ]
        go_wp2_with fail
        refine (hofc.out _ (hX5.trans hx6')).mono ?_
        rintro e w7 ⟨pa7, pn7, pc7, rfl, hp7, hx7⟩
        have hp7h := Lib.hid hp7
        clear hp7
        go_wp2_with fail
        refine hQ3 _ _ (hSx.out _ (hx6'.trans hx7)) ?_
        refine plan_tail ?_
        simp only [List.drop_succ_cons, List.drop_zero]
        have hsp := asame_calls pa6 pn6 pc6 _ pa7 pn7 pc7 _ w7 (hp6h.out.ext hx7) hp7h.out
        rw [show decide (ofC ⟨m, ws M2, came, dropped⟩ t = ofC ⟨m, ws M, came, dropped⟩ t) = true by rw [decide_eq_true_eq]; exact hsame2.out] at hsp
        have hsph := Lib.hid hsp
        clear hsp
        go_wp2_with fail
        refine hsph.out.mono ?_
        rintro e w8 ⟨rfl, hx8⟩
        go_wp2_with fail
        go_ret
        exact ⟨rfl, (hX5.trans (hx6'.trans hx7)).trans hx8⟩
end Go.Proofs.Ytcbjadmngkednaa
