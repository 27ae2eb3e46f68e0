/-
  Layer 6's contracts: a step of a play; are there more steps than are played?
-/
import Derived.Test.YtponbponacdhkaaDkSame
import Derived.Test.YtponbponacdhkaaRegPlan
import Derived.Deep.DeepCutAuto
import Derived.BigQuiet
namespace Go.Proofs.Ytponbponacdhkaa
open Go.RowKit

structure Stp where
  kind : Nat
  nm : Nat
  dst : Nat
  data : List UInt8
abbrev Sh := Stp × (Option Addr × Nat × Nat)
def scl (y : Sh) : List Value := [.int .u8 (y.1.kind : Int), .int .u8 (y.1.nm : Int), .int .u8 (y.1.dst : Int), .slice y.2.1 y.2.2.1 y.2.2.2]
theorem scl_len (y : Sh) : (scl y).length = 4 := rfl
structure Steps (w : World) (a : Option Addr) (n c : Nat) (M : List Sh) : Prop where
  row : Row scl 4 w a n c M
  bytes : ∀ y ∈ M, Bs w y.2.1 y.2.2.1 y.2.2.2 y.1.data
  small : ∀ y ∈ M, y.1.kind < 256 ∧ y.1.nm < 256 ∧ y.1.dst < 256
theorem Steps.ext {w w' : World} {a : Option Addr} {n c : Nat} {M : List Sh} (h : Steps w a n c M) (hx : Ext w w') : Steps w' a n c M := ⟨h.row.ext hx, fun y hy => (h.bytes y hy).ext hx, h.small⟩
theorem Steps.len {w : World} {a : Option Addr} {n c : Nat} {M : List Sh} (h : Steps w a n c M) : M.length = n := Row.len scl_len (by decide) h.row
theorem Steps.at {w : World} {a : Option Addr} {n c : Nat} {M : List Sh} (h : Steps w a n c M) (hn : 0 < n) : ∃ b o, a = some ⟨b, o, none⟩ ∧ ∀ k (hk : k < M.length), w.cell? ⟨b, o + k * 4, none⟩ = some (.int .u8 (M[k].1.kind : Int)) ∧
    w.cell? ⟨b, o + k * 4 + 1, none⟩ = some (.int .u8 (M[k].1.nm : Int)) ∧ w.cell? ⟨b, o + k * 4 + 2, none⟩ = some (.int .u8 (M[k].1.dst : Int)) ∧ w.cell? ⟨b, o + k * 4 + 3, none⟩ = some (.slice M[k].2.1 M[k].2.2.1 M[k].2.2.2) := by
  obtain ⟨b, o, ha, hc⟩ := Row.at scl_len h.row hn
  exact ⟨b, o, ha, fun k hk => ⟨hc k hk 0 _ rfl, hc k hk 1 _ rfl, hc k hk 2 _ rfl, hc k hk 3 _ rfl⟩⟩
/-- What a step does. -/
def playD (D : Dk) (y : Stp) : Dk × Int :=
  if y.kind % 7 = 0 then createD D (dnm y.nm) else if y.kind % 7 = 1 ∨ y.kind % 7 = 2 then appendD D (dnm y.nm) y.data else if y.kind % 7 = 3 then syncD D (dnm y.nm)
  else if y.kind % 7 = 4 then renameD D (dnm y.nm) (dnm y.dst) else if y.kind % 7 = 5 then removeD D (dnm y.nm) else syncdirD D
theorem good_play {D : Dk} (h : Good D) (hm : D.moves.length < 5000) (y : Stp) : Good (playD D y).1 ∧ (playD D y).1.moves.length ≤ D.moves.length + 1 := by
  have hv := dnm_vld y.nm
  have hv2 := dnm_vld y.dst
  unfold playD
  split
  · exact good_create h hm _ hv
  · split
    · obtain ⟨h1, h2⟩ := good_append h (dnm y.nm) y.data
      exact ⟨h1, by rw [h2]; omega⟩
    · split
      · obtain ⟨h1, h2⟩ := good_sync h (dnm y.nm)
        exact ⟨h1, by rw [h2]; omega⟩
      · split
        · exact good_rename h hm _ _ hv hv2
        · split
          · exact good_remove h hm _ hv
          · exact ⟨good_syncdir h, by show 0 ≤ _; omega⟩
theorem quota_play (D : Dk) (y : Stp) : (playD D y).1.quota = D.quota := by
  unfold playD
  split
  · unfold createD; split <;> (try split) <;> rfl
  · split
    · unfold appendD; split <;> (try split) <;> rfl
    · split
      · unfold syncD; split <;> rfl
      · split
        · unfold renameD; split <;> (try split) <;> rfl
        · split
          · unfold removeD; split <;> rfl
          · rfl
theorem play_err {D : Dk} {y : Stp} (h : (playD D y).2 ≠ 0) : (playD D y).1 = D := by
  revert h
  unfold playD
  split
  · unfold createD; split <;> (try split) <;> simp
  · split
    · unfold appendD; split <;> (try split) <;> simp
    · split
      · unfold syncD; split <;> simp
      · split
        · unfold renameD; split <;> (try split) <;> simp
        · split
          · unfold removeD; split <;> simp
          · intro h; exact absurd rfl h

def ManyPost (M : List Sh) (w : World) (e : Ending) (w' : World) : Prop := ∃ b, e = .returned (.bool b) ∧ (b = false → M.length ≤ 60) ∧ Ext w w'
set_option maxRecDepth 100000 in
set_option maxHeartbeats 3200000 in
theorem many_calls (a : Option Addr) (n c : Nat) (M : List Sh) (w : World) (hb : Steps w a n c M) :
    Calls Try.prog 17 #[.slice a n c] w (ManyPost M w) := by
  have hlen := hb.len
  subst hlen
  have hmx := Nat.le_trans (Sl.le hb.row) (Sl.max hb.row)
  unfold maxLen at hmx
  have hbh := Lib.hid hb
  clear hb
  go_enter Try.func17, Try.ntmps17
  go_wp2_with fail
  go_loopw [3, 4] (fun vs vi wr => ∃ k s : Nat, k ≤ M.length ∧ vi = .int .i64 k ∧ vs = .int .i64 s ∧ s ≤ 13001 ∧ Ext w wr) (fun _ vi _ => M.length - (intOf vi).toNat)
  case atStart => exact ⟨0, 0, Nat.zero_le _, rfl, rfl, by omega, Ext.refl _⟩
  case round =>
    obtain ⟨k, s, hk, rfl, rfl, hs, hX⟩ := hrel
    by_cases hlt : k < M.length
    · by_cases hs3 : s ≤ 3000
      · obtain ⟨b0, o0, rfl, hc⟩ := hbh.out.at (by omega)
        have d3 := hX.cell (hc k hlt).2.2.2
        have hbs := hbh.out.bytes M[k] (List.getElem_mem hlt)
        have hpm := Nat.le_trans (Sl.le hbs) (Sl.max hbs)
        unfold maxLen at hpm
        obtain ⟨⟨y, pa, pn, pc⟩, hy⟩ : ∃ y, M[k] = y := ⟨_, rfl⟩
        rw [hy] at d3 hpm
        dsimp only at d3 hpm
        obtain ⟨mn, hmn, hmn2⟩ : ∃ mn : Nat, min (pn : Int) 10000 = (mn : Int) ∧ mn ≤ 10000 := ⟨min pn 10000, by omega, by omega⟩
        clear hc hy hbs
        go_wp2_with fail
        exact ⟨⟨k + 1, s + (1 + mn), by omega, by go_num, by go_num, by omega, hX⟩, by simp [intOf]; omega⟩
      · have hs4 : 3000 < s := by omega
        go_wp2_with fail
        go_ret
        exact ⟨true, rfl, (fun h => by cases h), hX⟩
    · obtain rfl : k = M.length := by omega
      by_cases hs4 : 3000 < s
      · go_wp2_with fail
        go_ret
        exact ⟨true, rfl, (fun h => by cases h), hX⟩
      · go_wp2_with fail
        go_ret
        exact ⟨_, rfl, (fun h => by simp at h; omega), hX⟩

set_option maxRecDepth 100000 in
set_option maxHeartbeats 6400000 in
theorem play_calls (D : Dk) (x : DV) (base : Nat) (y : Stp) (pa : Option Addr) (pn pc : Nat) (w : World) (hO : OD w base x D) (hG : Good D) (hbase : base ≤ w.heap.size) (_hm : D.moves.length < 5000) (hb : Bs w pa pn pc y.data) (hs : y.kind < 256 ∧ y.nm < 256 ∧ y.dst < 256) :
    Calls Try.prog 18 #[dkv D x, .agg #[.int .u8 (y.kind : Int), .int .u8 (y.nm : Int), .int .u8 (y.dst : Int), .slice pa pn pc]] w (DPost (playD D y) base w) := by
  obtain ⟨hbk, hyk, hrk⟩ := three_blocks (Ext.refl (((w.alloc (.cells (dcs D x) 29)).alloc (.cells #[.int .u8 (y.kind : Int), .int .u8 (y.nm : Int), .int .u8 (y.dst : Int), .slice pa pn pc] 46)).alloc (.cells #[.int .i64 0, .slice none 0 0, .slice none 0 0, .slice none 0 0, .slice none 0 0, .int .i64 0] 29)))
  have hx0 : Ext w (((w.alloc (.cells (dcs D x) 29)).alloc (.cells #[.int .u8 (y.kind : Int), .int .u8 (y.nm : Int), .int .u8 (y.dst : Int), .slice pa pn pc] 46)).alloc (.cells #[.int .i64 0, .slice none 0 0, .slice none 0 0, .slice none 0 0, .slice none 0 0, .int .i64 0] 29)) := ((Ext.alloc _ _).trans (Ext.alloc _ _)).trans (Ext.alloc _ _)
  have hc0 := Lib.hid (fun W (h : Ext w W) => create_calls D x base (dnm y.nm) W (hO.ext h) hG (by have := h.size; omega) (dnm_vld _))
  have hc1 := Lib.hid (fun W (h : Ext w W) => append_calls D x base (dnm y.nm) pa pn pc y.data W (hO.ext h) hG (by have := h.size; omega) (dnm_vld _) (hb.ext h))
  have hc3 := Lib.hid (fun W (h : Ext w W) => sync_calls D x base (dnm y.nm) W (hO.ext h) hG (by have := h.size; omega) (dnm_vld _))
  have hc4 := Lib.hid (fun W (h : Ext w W) => rename_calls D x base (dnm y.nm) (dnm y.dst) W (hO.ext h) hG (by have := h.size; omega) (dnm_vld _) (dnm_vld _))
  have hc5 := Lib.hid (fun W (h : Ext w W) => remove_calls D x base (dnm y.nm) W (hO.ext h) hG (by have := h.size; omega) (dnm_vld _))
  have hc6 := Lib.hid (fun W (h : Ext w W) => syncdir_calls D x base W (hO.ext h) hG (by have := h.size; omega))
  clear hO hG hb
  unfold dkv at *
  unfold dcs at *
  obtain ⟨fa, fn, fc, fm, na, nn, nc0, ka, kn, kc, ma, mn, mc⟩ := x
  obtain ⟨kind, nm, dst, data⟩ := y
  dsimp only at *
  obtain ⟨hs0, hs1, hs2⟩ := hs
  obtain ⟨W0, hW0⟩ : ∃ W0, ((w.alloc (.cells #[.int .i64 D.quota, .slice fa fn fc, .slice na nn nc0, .slice ka kn kc, .slice ma mn mc, .int .i64 D.next] 29)).alloc (.cells #[.int .u8 (kind : Int), .int .u8 (nm : Int), .int .u8 (dst : Int), .slice pa pn pc] 46)).alloc (.cells #[.int .i64 0, .slice none 0 0, .slice none 0 0, .slice none 0 0, .slice none 0 0, .int .i64 0] 29) = W0 := ⟨_, rfl⟩
  rw [hW0] at hx0 hbk hyk hrk
  obtain ⟨⟨y0, y1, y2, y3, y4, y5⟩, _⟩ := cells_six hbk
  obtain ⟨⟨s0, s1, s2, s3⟩, _⟩ := cells_four hyk
  obtain ⟨r, hr, hr7⟩ : ∃ r : Nat, kind % 7 = r ∧ r < 7 := ⟨_, rfl, Nat.mod_lt _ (by decide)⟩
  have hr1 : (kind : Int).tmod 7 = (r : Int) := by rw [← hr]; rfl
  have hr2 : IntKind.u8.wrap (r : Int) = (r : Int) := by rw [IntKind.wrap_u8]; omega
  have hn1 := Lib.hid (fun W => name_calls nm hs1 W)
  have hn2 := Lib.hid (fun W => name_calls dst hs2 W)
  clear hr1
  have hr1 : (kind : Int).tmod 7 = (r : Int) := by rw [← hr]; rfl
  go_enter Try.func18, Try.ntmps18
  obtain rfl | rfl | rfl | rfl | rfl | rfl | rfl : r = 0 ∨ r = 1 ∨ r = 2 ∨ r = 3 ∨ r = 4 ∨ r = 5 ∨ r = 6 := by omega
  · have hR0 : Hid (playD D ⟨kind, nm, dst, data⟩ = createD D (dnm nm)) := by show _ = _; unfold playD; simp only [hr]; rfl
    obtain ⟨⟨⟨qv, fl2, ns2, kp2, mv2, nx2⟩, er⟩, hRe⟩ : ∃ R, createD D (dnm nm) = R := ⟨_, rfl⟩
    rw [hRe] at hR0 hc0
    have hop := hc0
    clear hc0 hc1 hc3 hc4 hc5 hc6
    go_upto_region 3 with fail
    clear hr hr1 hr2 hr7
    obtain ⟨X, iX, f, hxS0, hSx0⟩ := letters (fun w' => Ext W0 w') W0 (Ext.refl W0)
    have hxS := Lib.hid hxS0
    have hSx := Lib.hid hSx0
    clear hxS0 hSx0
    have u0 : ∀ x', (f x').cell? ⟨w.heap.size, 0, none⟩ = some (.int .i64 D.quota) := fun x' => (hxS.out x').cell y0
    have u1 : ∀ x', (f x').cell? ⟨w.heap.size, 1, none⟩ = some (.slice fa fn fc) := fun x' => (hxS.out x').cell y1
    have u2 : ∀ x', (f x').cell? ⟨w.heap.size, 2, none⟩ = some (.slice na nn nc0) := fun x' => (hxS.out x').cell y2
    have u3 : ∀ x', (f x').cell? ⟨w.heap.size, 3, none⟩ = some (.slice ka kn kc) := fun x' => (hxS.out x').cell y3
    have u4 : ∀ x', (f x').cell? ⟨w.heap.size, 4, none⟩ = some (.slice ma mn mc) := fun x' => (hxS.out x').cell y4
    have u5 : ∀ x', (f x').cell? ⟨w.heap.size, 5, none⟩ = some (.int .i64 D.next) := fun x' => (hxS.out x').cell y5
    have t1 : ∀ x', (f x').cell? ⟨w.heap.size + 1, 1, none⟩ = some (.int .u8 (nm : Int)) := fun x' => (hxS.out x').cell s1
    have t2 : ∀ x', (f x').cell? ⟨w.heap.size + 1, 2, none⟩ = some (.int .u8 (dst : Int)) := fun x' => (hxS.out x').cell s2
    have t3 : ∀ x', (f x').cell? ⟨w.heap.size + 1, 3, none⟩ = some (.slice pa pn pc) := fun x' => (hxS.out x').cell s3
    clear y0 y1 y2 y3 y4 y5 s0 s1 s2 s3
    refine region_plan 7 [.quiet [0, 1, 2], .act 3, .act 4, .quiet [5, 6]] (fun w' => ∃ x' : X, w' = f x') (by kernel_rfl) (by kernel_rfl) (hSx.out _ (Ext.drewN W0 1)) ?_
    intro Q1 hQ1
    refine plan_quiet ?_
    simp only [sel, List.getElem?_toArray, List.getElem?_cons_zero, List.getElem?_cons_succ]
    repeat (go_big_quiet_step (fail))
    refine wpQuiet_nil ?_
    clear u0 u1 u2 u3 u4 u5 t1 t2 t3
    refine plan_act ?_
    intro Q2 hQ2
    simp only [sel, List.getElem?_toArray, List.getElem?_cons_zero, List.getElem?_cons_succ]
    go_wp2_with fail
    refine (hn1.out _).mono ?_
    rintro e w1 ⟨rfl, rfl⟩
    go_wp2_with fail
    refine hQ2 _ _ (hSx.out _ (Ext.drewN W0 1)) ?_
    clear hn1 hn2
    refine plan_act ?_
    intro Q4 hQ4
    simp only [sel, List.getElem?_toArray, List.getElem?_cons_zero, List.getElem?_cons_succ]
    go_wp2_with fail
    refine (hop.out _ (hx0.trans (Ext.drewN W0 1))).mono ?_
    rintro e w2 ⟨⟨fa2, fn2, fc2, fm2, na2, nn2, nc2, ka2, kn2, kc2, ma2, mn2, mc2⟩, rfl, hO2, hx2⟩
    have hy2 := ((Ext.drewN W0 1).trans hx2)
    have hX2 := hx0.trans hy2
    have hr2 := (hy2.block _ (lt_of_block hrk)).trans hrk
    obtain ⟨⟨s0, s1, s2, s3, s4, s5⟩, ⟨g0, g1, g2, g3, g4, g5⟩⟩ := cells_six hr2
    have hlr2 := lt_of_block hr2
    have hO2h := Lib.hid hO2
    clear hO2 hop hRe
    unfold dkv dcs
    dsimp only
    go_wp2_with fail
    refine hQ4 _ _ (hSx.out _ hy2) ?_
    refine plan_quiet ?_
    simp only [sel, List.getElem?_toArray, List.getElem?_cons_zero, List.getElem?_cons_succ]
    repeat (go_big_quiet_step (fail))
    refine wpQuiet_nil ?_
    refine plan_tail ?_
    simp only [List.drop_succ_cons, List.drop_zero]
    go_wp2_with fail
    have hwq : put6 w2 (w.heap.size + 1 + 1) (.int .i64 qv) (.slice fa2 fn2 fc2) (.slice na2 nn2 nc2) (.slice ka2 kn2 kc2) (.slice ma2 mn2 mc2) (.int .i64 nx2) = ((((((w2.setCell ⟨w.heap.size + 1 + 1, 0, none⟩ (.int .i64 qv)).setCell ⟨w.heap.size + 1 + 1, 1, none⟩ (.slice fa2 fn2 fc2)).setCell ⟨w.heap.size + 1 + 1, 2, none⟩ (.slice na2 nn2 nc2)).setCell ⟨w.heap.size + 1 + 1, 3, none⟩ (.slice ka2 kn2 kc2)).setCell ⟨w.heap.size + 1 + 1, 4, none⟩ (.slice ma2 mn2 mc2)).setCell ⟨w.heap.size + 1 + 1, 5, none⟩ (.int .i64 nx2)) := rfl
    have hgq := put6_grownBy w2 (w.heap.size + 1 + 1) (.int .i64 qv) (.slice fa2 fn2 fc2) (.slice na2 nn2 nc2) (.slice ka2 kn2 kc2) (.slice ma2 mn2 mc2) (.int .i64 nx2)
    have hhq := put6_block hr2 (.int .i64 qv) (.slice fa2 fn2 fc2) (.slice na2 nn2 nc2) (.slice ka2 kn2 kc2) (.slice ma2 mn2 mc2) (.int .i64 nx2)
    rw [← hwq]
    obtain ⟨wq, hwqe⟩ : ∃ wq, put6 w2 (w.heap.size + 1 + 1) (.int .i64 qv) (.slice fa2 fn2 fc2) (.slice na2 nn2 nc2) (.slice ka2 kn2 kc2) (.slice ma2 mn2 mc2) (.int .i64 nx2) = wq := ⟨_, rfl⟩
    rw [hwqe] at hgq hhq ⊢
    obtain ⟨⟨q0, q1, q2, q3, q4, q5⟩, _⟩ := cells_six hhq
    refine bodyPost_ret (v := .tuple #[.agg #[.int .i64 qv, .slice fa2 fn2 fc2, .slice na2 nn2 nc2, .slice ka2 kn2 kc2, .slice ma2 mn2 mc2, .int .i64 nx2], .int .i64 er]) (by simp [results, Try.results18, go_sem, q0, q1, q2, q3, q4, q5]) rfl ?_
    have hXq := hX2.grown hgq (fun k e => by cases e; omega)
    show DPost _ _ _ _ _
    rw [hR0.out]
    exact ⟨⟨fa2, fn2, fc2, fm2, na2, nn2, nc2, ka2, kn2, kc2, ma2, mn2, mc2⟩, rfl, hO2h.out.beside hr2 hgq (by decide) (by decide) (by decide) (by decide), hXq⟩
  · have hR0 : Hid (playD D ⟨kind, nm, dst, data⟩ = appendD D (dnm nm) data) := by show _ = _; unfold playD; simp only [hr]; rfl
    obtain ⟨⟨⟨qv, fl2, ns2, kp2, mv2, nx2⟩, er⟩, hRe⟩ : ∃ R, appendD D (dnm nm) data = R := ⟨_, rfl⟩
    rw [hRe] at hR0 hc1
    have hop := hc1
    clear hc0 hc1 hc3 hc4 hc5 hc6
    go_upto_region 6 with fail
    clear hr hr1 hr2 hr7
    obtain ⟨X, iX, f, hxS0, hSx0⟩ := letters (fun w' => Ext W0 w') W0 (Ext.refl W0)
    have hxS := Lib.hid hxS0
    have hSx := Lib.hid hSx0
    clear hxS0 hSx0
    have u0 : ∀ x', (f x').cell? ⟨w.heap.size, 0, none⟩ = some (.int .i64 D.quota) := fun x' => (hxS.out x').cell y0
    have u1 : ∀ x', (f x').cell? ⟨w.heap.size, 1, none⟩ = some (.slice fa fn fc) := fun x' => (hxS.out x').cell y1
    have u2 : ∀ x', (f x').cell? ⟨w.heap.size, 2, none⟩ = some (.slice na nn nc0) := fun x' => (hxS.out x').cell y2
    have u3 : ∀ x', (f x').cell? ⟨w.heap.size, 3, none⟩ = some (.slice ka kn kc) := fun x' => (hxS.out x').cell y3
    have u4 : ∀ x', (f x').cell? ⟨w.heap.size, 4, none⟩ = some (.slice ma mn mc) := fun x' => (hxS.out x').cell y4
    have u5 : ∀ x', (f x').cell? ⟨w.heap.size, 5, none⟩ = some (.int .i64 D.next) := fun x' => (hxS.out x').cell y5
    have t1 : ∀ x', (f x').cell? ⟨w.heap.size + 1, 1, none⟩ = some (.int .u8 (nm : Int)) := fun x' => (hxS.out x').cell s1
    have t2 : ∀ x', (f x').cell? ⟨w.heap.size + 1, 2, none⟩ = some (.int .u8 (dst : Int)) := fun x' => (hxS.out x').cell s2
    have t3 : ∀ x', (f x').cell? ⟨w.heap.size + 1, 3, none⟩ = some (.slice pa pn pc) := fun x' => (hxS.out x').cell s3
    clear y0 y1 y2 y3 y4 y5 s0 s1 s2 s3
    refine region_plan 9 [.quiet [0, 1, 2, 4, 5], .act 3, .act 6, .quiet [7, 8]] (fun w' => ∃ x' : X, w' = f x') (by kernel_rfl) (by kernel_rfl) (hSx.out _ (Ext.drewN W0 1)) ?_
    intro Q1 hQ1
    refine plan_quiet ?_
    simp only [sel, List.getElem?_toArray, List.getElem?_cons_zero, List.getElem?_cons_succ]
    repeat (go_big_quiet_step (fail))
    refine wpQuiet_nil ?_
    clear u0 u1 u2 u3 u4 u5 t1 t2 t3
    refine plan_act ?_
    intro Q2 hQ2
    simp only [sel, List.getElem?_toArray, List.getElem?_cons_zero, List.getElem?_cons_succ]
    go_wp2_with fail
    refine (hn1.out _).mono ?_
    rintro e w1 ⟨rfl, rfl⟩
    go_wp2_with fail
    refine hQ2 _ _ (hSx.out _ (Ext.drewN W0 1)) ?_
    clear hn1 hn2
    refine plan_act ?_
    intro Q4 hQ4
    simp only [sel, List.getElem?_toArray, List.getElem?_cons_zero, List.getElem?_cons_succ]
    go_wp2_with fail
    refine (hop.out _ (hx0.trans (Ext.drewN W0 1))).mono ?_
    rintro e w2 ⟨⟨fa2, fn2, fc2, fm2, na2, nn2, nc2, ka2, kn2, kc2, ma2, mn2, mc2⟩, rfl, hO2, hx2⟩
    have hy2 := ((Ext.drewN W0 1).trans hx2)
    have hX2 := hx0.trans hy2
    have hr2 := (hy2.block _ (lt_of_block hrk)).trans hrk
    obtain ⟨⟨s0, s1, s2, s3, s4, s5⟩, ⟨g0, g1, g2, g3, g4, g5⟩⟩ := cells_six hr2
    have hlr2 := lt_of_block hr2
    have hO2h := Lib.hid hO2
    clear hO2 hop hRe
    unfold dkv dcs
    dsimp only
    go_wp2_with fail
    refine hQ4 _ _ (hSx.out _ hy2) ?_
    refine plan_quiet ?_
    simp only [sel, List.getElem?_toArray, List.getElem?_cons_zero, List.getElem?_cons_succ]
    repeat (go_big_quiet_step (fail))
    refine wpQuiet_nil ?_
    refine plan_tail ?_
    simp only [List.drop_succ_cons, List.drop_zero]
    go_wp2_with fail
    have hwq : put6 w2 (w.heap.size + 1 + 1) (.int .i64 qv) (.slice fa2 fn2 fc2) (.slice na2 nn2 nc2) (.slice ka2 kn2 kc2) (.slice ma2 mn2 mc2) (.int .i64 nx2) = ((((((w2.setCell ⟨w.heap.size + 1 + 1, 0, none⟩ (.int .i64 qv)).setCell ⟨w.heap.size + 1 + 1, 1, none⟩ (.slice fa2 fn2 fc2)).setCell ⟨w.heap.size + 1 + 1, 2, none⟩ (.slice na2 nn2 nc2)).setCell ⟨w.heap.size + 1 + 1, 3, none⟩ (.slice ka2 kn2 kc2)).setCell ⟨w.heap.size + 1 + 1, 4, none⟩ (.slice ma2 mn2 mc2)).setCell ⟨w.heap.size + 1 + 1, 5, none⟩ (.int .i64 nx2)) := rfl
    have hgq := put6_grownBy w2 (w.heap.size + 1 + 1) (.int .i64 qv) (.slice fa2 fn2 fc2) (.slice na2 nn2 nc2) (.slice ka2 kn2 kc2) (.slice ma2 mn2 mc2) (.int .i64 nx2)
    have hhq := put6_block hr2 (.int .i64 qv) (.slice fa2 fn2 fc2) (.slice na2 nn2 nc2) (.slice ka2 kn2 kc2) (.slice ma2 mn2 mc2) (.int .i64 nx2)
    rw [← hwq]
    obtain ⟨wq, hwqe⟩ : ∃ wq, put6 w2 (w.heap.size + 1 + 1) (.int .i64 qv) (.slice fa2 fn2 fc2) (.slice na2 nn2 nc2) (.slice ka2 kn2 kc2) (.slice ma2 mn2 mc2) (.int .i64 nx2) = wq := ⟨_, rfl⟩
    rw [hwqe] at hgq hhq ⊢
    obtain ⟨⟨q0, q1, q2, q3, q4, q5⟩, _⟩ := cells_six hhq
    refine bodyPost_ret (v := .tuple #[.agg #[.int .i64 qv, .slice fa2 fn2 fc2, .slice na2 nn2 nc2, .slice ka2 kn2 kc2, .slice ma2 mn2 mc2, .int .i64 nx2], .int .i64 er]) (by simp [results, Try.results18, go_sem, q0, q1, q2, q3, q4, q5]) rfl ?_
    have hXq := hX2.grown hgq (fun k e => by cases e; omega)
    show DPost _ _ _ _ _
    rw [hR0.out]
    exact ⟨⟨fa2, fn2, fc2, fm2, na2, nn2, nc2, ka2, kn2, kc2, ma2, mn2, mc2⟩, rfl, hO2h.out.beside hr2 hgq (by decide) (by decide) (by decide) (by decide), hXq⟩
  · have hR0 : Hid (playD D ⟨kind, nm, dst, data⟩ = appendD D (dnm nm) data) := by show _ = _; unfold playD; simp only [hr]; rfl
    obtain ⟨⟨⟨qv, fl2, ns2, kp2, mv2, nx2⟩, er⟩, hRe⟩ : ∃ R, appendD D (dnm nm) data = R := ⟨_, rfl⟩
    rw [hRe] at hR0 hc1
    have hop := hc1
    clear hc0 hc1 hc3 hc4 hc5 hc6
    go_upto_region 6 with fail
    clear hr hr1 hr2 hr7
    obtain ⟨X, iX, f, hxS0, hSx0⟩ := letters (fun w' => Ext W0 w') W0 (Ext.refl W0)
    have hxS := Lib.hid hxS0
    have hSx := Lib.hid hSx0
    clear hxS0 hSx0
    have u0 : ∀ x', (f x').cell? ⟨w.heap.size, 0, none⟩ = some (.int .i64 D.quota) := fun x' => (hxS.out x').cell y0
    have u1 : ∀ x', (f x').cell? ⟨w.heap.size, 1, none⟩ = some (.slice fa fn fc) := fun x' => (hxS.out x').cell y1
    have u2 : ∀ x', (f x').cell? ⟨w.heap.size, 2, none⟩ = some (.slice na nn nc0) := fun x' => (hxS.out x').cell y2
    have u3 : ∀ x', (f x').cell? ⟨w.heap.size, 3, none⟩ = some (.slice ka kn kc) := fun x' => (hxS.out x').cell y3
    have u4 : ∀ x', (f x').cell? ⟨w.heap.size, 4, none⟩ = some (.slice ma mn mc) := fun x' => (hxS.out x').cell y4
    have u5 : ∀ x', (f x').cell? ⟨w.heap.size, 5, none⟩ = some (.int .i64 D.next) := fun x' => (hxS.out x').cell y5
    have t1 : ∀ x', (f x').cell? ⟨w.heap.size + 1, 1, none⟩ = some (.int .u8 (nm : Int)) := fun x' => (hxS.out x').cell s1
    have t2 : ∀ x', (f x').cell? ⟨w.heap.size + 1, 2, none⟩ = some (.int .u8 (dst : Int)) := fun x' => (hxS.out x').cell s2
    have t3 : ∀ x', (f x').cell? ⟨w.heap.size + 1, 3, none⟩ = some (.slice pa pn pc) := fun x' => (hxS.out x').cell s3
    clear y0 y1 y2 y3 y4 y5 s0 s1 s2 s3
    refine region_plan 9 [.quiet [0, 1, 2, 4, 5], .act 3, .act 6, .quiet [7, 8]] (fun w' => ∃ x' : X, w' = f x') (by kernel_rfl) (by kernel_rfl) (hSx.out _ (Ext.drewN W0 1)) ?_
    intro Q1 hQ1
    refine plan_quiet ?_
    simp only [sel, List.getElem?_toArray, List.getElem?_cons_zero, List.getElem?_cons_succ]
    repeat (go_big_quiet_step (fail))
    refine wpQuiet_nil ?_
    clear u0 u1 u2 u3 u4 u5 t1 t2 t3
    refine plan_act ?_
    intro Q2 hQ2
    simp only [sel, List.getElem?_toArray, List.getElem?_cons_zero, List.getElem?_cons_succ]
    go_wp2_with fail
    refine (hn1.out _).mono ?_
    rintro e w1 ⟨rfl, rfl⟩
    go_wp2_with fail
    refine hQ2 _ _ (hSx.out _ (Ext.drewN W0 1)) ?_
    clear hn1 hn2
    refine plan_act ?_
    intro Q4 hQ4
    simp only [sel, List.getElem?_toArray, List.getElem?_cons_zero, List.getElem?_cons_succ]
    go_wp2_with fail
    refine (hop.out _ (hx0.trans (Ext.drewN W0 1))).mono ?_
    rintro e w2 ⟨⟨fa2, fn2, fc2, fm2, na2, nn2, nc2, ka2, kn2, kc2, ma2, mn2, mc2⟩, rfl, hO2, hx2⟩
    have hy2 := ((Ext.drewN W0 1).trans hx2)
    have hX2 := hx0.trans hy2
    have hr2 := (hy2.block _ (lt_of_block hrk)).trans hrk
    obtain ⟨⟨s0, s1, s2, s3, s4, s5⟩, ⟨g0, g1, g2, g3, g4, g5⟩⟩ := cells_six hr2
    have hlr2 := lt_of_block hr2
    have hO2h := Lib.hid hO2
    clear hO2 hop hRe
    unfold dkv dcs
    dsimp only
    go_wp2_with fail
    refine hQ4 _ _ (hSx.out _ hy2) ?_
    refine plan_quiet ?_
    simp only [sel, List.getElem?_toArray, List.getElem?_cons_zero, List.getElem?_cons_succ]
    repeat (go_big_quiet_step (fail))
    refine wpQuiet_nil ?_
    refine plan_tail ?_
    simp only [List.drop_succ_cons, List.drop_zero]
    go_wp2_with fail
    have hwq : put6 w2 (w.heap.size + 1 + 1) (.int .i64 qv) (.slice fa2 fn2 fc2) (.slice na2 nn2 nc2) (.slice ka2 kn2 kc2) (.slice ma2 mn2 mc2) (.int .i64 nx2) = ((((((w2.setCell ⟨w.heap.size + 1 + 1, 0, none⟩ (.int .i64 qv)).setCell ⟨w.heap.size + 1 + 1, 1, none⟩ (.slice fa2 fn2 fc2)).setCell ⟨w.heap.size + 1 + 1, 2, none⟩ (.slice na2 nn2 nc2)).setCell ⟨w.heap.size + 1 + 1, 3, none⟩ (.slice ka2 kn2 kc2)).setCell ⟨w.heap.size + 1 + 1, 4, none⟩ (.slice ma2 mn2 mc2)).setCell ⟨w.heap.size + 1 + 1, 5, none⟩ (.int .i64 nx2)) := rfl
    have hgq := put6_grownBy w2 (w.heap.size + 1 + 1) (.int .i64 qv) (.slice fa2 fn2 fc2) (.slice na2 nn2 nc2) (.slice ka2 kn2 kc2) (.slice ma2 mn2 mc2) (.int .i64 nx2)
    have hhq := put6_block hr2 (.int .i64 qv) (.slice fa2 fn2 fc2) (.slice na2 nn2 nc2) (.slice ka2 kn2 kc2) (.slice ma2 mn2 mc2) (.int .i64 nx2)
    rw [← hwq]
    obtain ⟨wq, hwqe⟩ : ∃ wq, put6 w2 (w.heap.size + 1 + 1) (.int .i64 qv) (.slice fa2 fn2 fc2) (.slice na2 nn2 nc2) (.slice ka2 kn2 kc2) (.slice ma2 mn2 mc2) (.int .i64 nx2) = wq := ⟨_, rfl⟩
    rw [hwqe] at hgq hhq ⊢
    obtain ⟨⟨q0, q1, q2, q3, q4, q5⟩, _⟩ := cells_six hhq
    refine bodyPost_ret (v := .tuple #[.agg #[.int .i64 qv, .slice fa2 fn2 fc2, .slice na2 nn2 nc2, .slice ka2 kn2 kc2, .slice ma2 mn2 mc2, .int .i64 nx2], .int .i64 er]) (by simp [results, Try.results18, go_sem, q0, q1, q2, q3, q4, q5]) rfl ?_
    have hXq := hX2.grown hgq (fun k e => by cases e; omega)
    show DPost _ _ _ _ _
    rw [hR0.out]
    exact ⟨⟨fa2, fn2, fc2, fm2, na2, nn2, nc2, ka2, kn2, kc2, ma2, mn2, mc2⟩, rfl, hO2h.out.beside hr2 hgq (by decide) (by decide) (by decide) (by decide), hXq⟩
  · have hR0 : Hid (playD D ⟨kind, nm, dst, data⟩ = syncD D (dnm nm)) := by show _ = _; unfold playD; simp only [hr]; rfl
    obtain ⟨⟨⟨qv, fl2, ns2, kp2, mv2, nx2⟩, er⟩, hRe⟩ : ∃ R, syncD D (dnm nm) = R := ⟨_, rfl⟩
    rw [hRe] at hR0 hc3
    have hop := hc3
    clear hc0 hc1 hc3 hc4 hc5 hc6
    go_upto_region 8 with fail
    clear hr hr1 hr2 hr7
    obtain ⟨X, iX, f, hxS0, hSx0⟩ := letters (fun w' => Ext W0 w') W0 (Ext.refl W0)
    have hxS := Lib.hid hxS0
    have hSx := Lib.hid hSx0
    clear hxS0 hSx0
    have u0 : ∀ x', (f x').cell? ⟨w.heap.size, 0, none⟩ = some (.int .i64 D.quota) := fun x' => (hxS.out x').cell y0
    have u1 : ∀ x', (f x').cell? ⟨w.heap.size, 1, none⟩ = some (.slice fa fn fc) := fun x' => (hxS.out x').cell y1
    have u2 : ∀ x', (f x').cell? ⟨w.heap.size, 2, none⟩ = some (.slice na nn nc0) := fun x' => (hxS.out x').cell y2
    have u3 : ∀ x', (f x').cell? ⟨w.heap.size, 3, none⟩ = some (.slice ka kn kc) := fun x' => (hxS.out x').cell y3
    have u4 : ∀ x', (f x').cell? ⟨w.heap.size, 4, none⟩ = some (.slice ma mn mc) := fun x' => (hxS.out x').cell y4
    have u5 : ∀ x', (f x').cell? ⟨w.heap.size, 5, none⟩ = some (.int .i64 D.next) := fun x' => (hxS.out x').cell y5
    have t1 : ∀ x', (f x').cell? ⟨w.heap.size + 1, 1, none⟩ = some (.int .u8 (nm : Int)) := fun x' => (hxS.out x').cell s1
    have t2 : ∀ x', (f x').cell? ⟨w.heap.size + 1, 2, none⟩ = some (.int .u8 (dst : Int)) := fun x' => (hxS.out x').cell s2
    have t3 : ∀ x', (f x').cell? ⟨w.heap.size + 1, 3, none⟩ = some (.slice pa pn pc) := fun x' => (hxS.out x').cell s3
    clear y0 y1 y2 y3 y4 y5 s0 s1 s2 s3
    refine region_plan 7 [.quiet [0, 1, 2], .act 3, .act 4, .quiet [5, 6]] (fun w' => ∃ x' : X, w' = f x') (by kernel_rfl) (by kernel_rfl) (hSx.out _ (Ext.drewN W0 1)) ?_
    intro Q1 hQ1
    refine plan_quiet ?_
    simp only [sel, List.getElem?_toArray, List.getElem?_cons_zero, List.getElem?_cons_succ]
    repeat (go_big_quiet_step (fail))
    refine wpQuiet_nil ?_
    clear u0 u1 u2 u3 u4 u5 t1 t2 t3
    refine plan_act ?_
    intro Q2 hQ2
    simp only [sel, List.getElem?_toArray, List.getElem?_cons_zero, List.getElem?_cons_succ]
    go_wp2_with fail
    refine (hn1.out _).mono ?_
    rintro e w1 ⟨rfl, rfl⟩
    go_wp2_with fail
    refine hQ2 _ _ (hSx.out _ (Ext.drewN W0 1)) ?_
    clear hn1 hn2
    refine plan_act ?_
    intro Q4 hQ4
    simp only [sel, List.getElem?_toArray, List.getElem?_cons_zero, List.getElem?_cons_succ]
    go_wp2_with fail
    refine (hop.out _ (hx0.trans (Ext.drewN W0 1))).mono ?_
    rintro e w2 ⟨⟨fa2, fn2, fc2, fm2, na2, nn2, nc2, ka2, kn2, kc2, ma2, mn2, mc2⟩, rfl, hO2, hx2⟩
    have hy2 := ((Ext.drewN W0 1).trans hx2)
    have hX2 := hx0.trans hy2
    have hr2 := (hy2.block _ (lt_of_block hrk)).trans hrk
    obtain ⟨⟨s0, s1, s2, s3, s4, s5⟩, ⟨g0, g1, g2, g3, g4, g5⟩⟩ := cells_six hr2
    have hlr2 := lt_of_block hr2
    have hO2h := Lib.hid hO2
    clear hO2 hop hRe
    unfold dkv dcs
    dsimp only
    go_wp2_with fail
    refine hQ4 _ _ (hSx.out _ hy2) ?_
    refine plan_quiet ?_
    simp only [sel, List.getElem?_toArray, List.getElem?_cons_zero, List.getElem?_cons_succ]
    repeat (go_big_quiet_step (fail))
    refine wpQuiet_nil ?_
    refine plan_tail ?_
    simp only [List.drop_succ_cons, List.drop_zero]
    go_wp2_with fail
    have hwq : put6 w2 (w.heap.size + 1 + 1) (.int .i64 qv) (.slice fa2 fn2 fc2) (.slice na2 nn2 nc2) (.slice ka2 kn2 kc2) (.slice ma2 mn2 mc2) (.int .i64 nx2) = ((((((w2.setCell ⟨w.heap.size + 1 + 1, 0, none⟩ (.int .i64 qv)).setCell ⟨w.heap.size + 1 + 1, 1, none⟩ (.slice fa2 fn2 fc2)).setCell ⟨w.heap.size + 1 + 1, 2, none⟩ (.slice na2 nn2 nc2)).setCell ⟨w.heap.size + 1 + 1, 3, none⟩ (.slice ka2 kn2 kc2)).setCell ⟨w.heap.size + 1 + 1, 4, none⟩ (.slice ma2 mn2 mc2)).setCell ⟨w.heap.size + 1 + 1, 5, none⟩ (.int .i64 nx2)) := rfl
    have hgq := put6_grownBy w2 (w.heap.size + 1 + 1) (.int .i64 qv) (.slice fa2 fn2 fc2) (.slice na2 nn2 nc2) (.slice ka2 kn2 kc2) (.slice ma2 mn2 mc2) (.int .i64 nx2)
    have hhq := put6_block hr2 (.int .i64 qv) (.slice fa2 fn2 fc2) (.slice na2 nn2 nc2) (.slice ka2 kn2 kc2) (.slice ma2 mn2 mc2) (.int .i64 nx2)
    rw [← hwq]
    obtain ⟨wq, hwqe⟩ : ∃ wq, put6 w2 (w.heap.size + 1 + 1) (.int .i64 qv) (.slice fa2 fn2 fc2) (.slice na2 nn2 nc2) (.slice ka2 kn2 kc2) (.slice ma2 mn2 mc2) (.int .i64 nx2) = wq := ⟨_, rfl⟩
    rw [hwqe] at hgq hhq ⊢
    obtain ⟨⟨q0, q1, q2, q3, q4, q5⟩, _⟩ := cells_six hhq
    refine bodyPost_ret (v := .tuple #[.agg #[.int .i64 qv, .slice fa2 fn2 fc2, .slice na2 nn2 nc2, .slice ka2 kn2 kc2, .slice ma2 mn2 mc2, .int .i64 nx2], .int .i64 er]) (by simp [results, Try.results18, go_sem, q0, q1, q2, q3, q4, q5]) rfl ?_
    have hXq := hX2.grown hgq (fun k e => by cases e; omega)
    show DPost _ _ _ _ _
    rw [hR0.out]
    exact ⟨⟨fa2, fn2, fc2, fm2, na2, nn2, nc2, ka2, kn2, kc2, ma2, mn2, mc2⟩, rfl, hO2h.out.beside hr2 hgq (by decide) (by decide) (by decide) (by decide), hXq⟩
  · have hR0 : Hid (playD D ⟨kind, nm, dst, data⟩ = renameD D (dnm nm) (dnm dst)) := by show _ = _; unfold playD; simp only [hr]; rfl
    obtain ⟨⟨⟨qv, fl2, ns2, kp2, mv2, nx2⟩, er⟩, hRe⟩ : ∃ R, renameD D (dnm nm) (dnm dst) = R := ⟨_, rfl⟩
    rw [hRe] at hR0 hc4
    have hop := hc4
    clear hc0 hc1 hc3 hc4 hc5 hc6
    go_upto_region 10 with fail
    clear hr hr1 hr2 hr7
    obtain ⟨X, iX, f, hxS0, hSx0⟩ := letters (fun w' => Ext W0 w') W0 (Ext.refl W0)
    have hxS := Lib.hid hxS0
    have hSx := Lib.hid hSx0
    clear hxS0 hSx0
    have u0 : ∀ x', (f x').cell? ⟨w.heap.size, 0, none⟩ = some (.int .i64 D.quota) := fun x' => (hxS.out x').cell y0
    have u1 : ∀ x', (f x').cell? ⟨w.heap.size, 1, none⟩ = some (.slice fa fn fc) := fun x' => (hxS.out x').cell y1
    have u2 : ∀ x', (f x').cell? ⟨w.heap.size, 2, none⟩ = some (.slice na nn nc0) := fun x' => (hxS.out x').cell y2
    have u3 : ∀ x', (f x').cell? ⟨w.heap.size, 3, none⟩ = some (.slice ka kn kc) := fun x' => (hxS.out x').cell y3
    have u4 : ∀ x', (f x').cell? ⟨w.heap.size, 4, none⟩ = some (.slice ma mn mc) := fun x' => (hxS.out x').cell y4
    have u5 : ∀ x', (f x').cell? ⟨w.heap.size, 5, none⟩ = some (.int .i64 D.next) := fun x' => (hxS.out x').cell y5
    have t1 : ∀ x', (f x').cell? ⟨w.heap.size + 1, 1, none⟩ = some (.int .u8 (nm : Int)) := fun x' => (hxS.out x').cell s1
    have t2 : ∀ x', (f x').cell? ⟨w.heap.size + 1, 2, none⟩ = some (.int .u8 (dst : Int)) := fun x' => (hxS.out x').cell s2
    have t3 : ∀ x', (f x').cell? ⟨w.heap.size + 1, 3, none⟩ = some (.slice pa pn pc) := fun x' => (hxS.out x').cell s3
    clear y0 y1 y2 y3 y4 y5 s0 s1 s2 s3
    refine region_plan 10 [.quiet [0, 1, 2, 4, 5], .act 3, .act 6, .act 7, .quiet [8, 9]] (fun w' => ∃ x' : X, w' = f x') (by kernel_rfl) (by kernel_rfl) (hSx.out _ (Ext.drewN W0 1)) ?_
    intro Q1 hQ1
    refine plan_quiet ?_
    simp only [sel, List.getElem?_toArray, List.getElem?_cons_zero, List.getElem?_cons_succ]
    repeat (go_big_quiet_step (fail))
    refine wpQuiet_nil ?_
    clear u0 u1 u2 u3 u4 u5 t1 t2 t3
    refine plan_act ?_
    intro Q2 hQ2
    simp only [sel, List.getElem?_toArray, List.getElem?_cons_zero, List.getElem?_cons_succ]
    go_wp2_with fail
    refine (hn1.out _).mono ?_
    rintro e w1 ⟨rfl, rfl⟩
    go_wp2_with fail
    refine hQ2 _ _ (hSx.out _ (Ext.drewN W0 1)) ?_
    refine plan_act ?_
    intro Q3 hQ3
    simp only [sel, List.getElem?_toArray, List.getElem?_cons_zero, List.getElem?_cons_succ]
    go_wp2_with fail
    refine (hn2.out _).mono ?_
    rintro e w1 ⟨rfl, rfl⟩
    go_wp2_with fail
    refine hQ3 _ _ (hSx.out _ (Ext.drewN W0 1)) ?_
    clear hn1 hn2
    refine plan_act ?_
    intro Q4 hQ4
    simp only [sel, List.getElem?_toArray, List.getElem?_cons_zero, List.getElem?_cons_succ]
    go_wp2_with fail
    refine (hop.out _ (hx0.trans (Ext.drewN W0 1))).mono ?_
    rintro e w2 ⟨⟨fa2, fn2, fc2, fm2, na2, nn2, nc2, ka2, kn2, kc2, ma2, mn2, mc2⟩, rfl, hO2, hx2⟩
    have hy2 := ((Ext.drewN W0 1).trans hx2)
    have hX2 := hx0.trans hy2
    have hr2 := (hy2.block _ (lt_of_block hrk)).trans hrk
    obtain ⟨⟨s0, s1, s2, s3, s4, s5⟩, ⟨g0, g1, g2, g3, g4, g5⟩⟩ := cells_six hr2
    have hlr2 := lt_of_block hr2
    have hO2h := Lib.hid hO2
    clear hO2 hop hRe
    unfold dkv dcs
    dsimp only
    go_wp2_with fail
    refine hQ4 _ _ (hSx.out _ hy2) ?_
    refine plan_quiet ?_
    simp only [sel, List.getElem?_toArray, List.getElem?_cons_zero, List.getElem?_cons_succ]
    repeat (go_big_quiet_step (fail))
    refine wpQuiet_nil ?_
    refine plan_tail ?_
    simp only [List.drop_succ_cons, List.drop_zero]
    go_wp2_with fail
    have hwq : put6 w2 (w.heap.size + 1 + 1) (.int .i64 qv) (.slice fa2 fn2 fc2) (.slice na2 nn2 nc2) (.slice ka2 kn2 kc2) (.slice ma2 mn2 mc2) (.int .i64 nx2) = ((((((w2.setCell ⟨w.heap.size + 1 + 1, 0, none⟩ (.int .i64 qv)).setCell ⟨w.heap.size + 1 + 1, 1, none⟩ (.slice fa2 fn2 fc2)).setCell ⟨w.heap.size + 1 + 1, 2, none⟩ (.slice na2 nn2 nc2)).setCell ⟨w.heap.size + 1 + 1, 3, none⟩ (.slice ka2 kn2 kc2)).setCell ⟨w.heap.size + 1 + 1, 4, none⟩ (.slice ma2 mn2 mc2)).setCell ⟨w.heap.size + 1 + 1, 5, none⟩ (.int .i64 nx2)) := rfl
    have hgq := put6_grownBy w2 (w.heap.size + 1 + 1) (.int .i64 qv) (.slice fa2 fn2 fc2) (.slice na2 nn2 nc2) (.slice ka2 kn2 kc2) (.slice ma2 mn2 mc2) (.int .i64 nx2)
    have hhq := put6_block hr2 (.int .i64 qv) (.slice fa2 fn2 fc2) (.slice na2 nn2 nc2) (.slice ka2 kn2 kc2) (.slice ma2 mn2 mc2) (.int .i64 nx2)
    rw [← hwq]
    obtain ⟨wq, hwqe⟩ : ∃ wq, put6 w2 (w.heap.size + 1 + 1) (.int .i64 qv) (.slice fa2 fn2 fc2) (.slice na2 nn2 nc2) (.slice ka2 kn2 kc2) (.slice ma2 mn2 mc2) (.int .i64 nx2) = wq := ⟨_, rfl⟩
    rw [hwqe] at hgq hhq ⊢
    obtain ⟨⟨q0, q1, q2, q3, q4, q5⟩, _⟩ := cells_six hhq
    refine bodyPost_ret (v := .tuple #[.agg #[.int .i64 qv, .slice fa2 fn2 fc2, .slice na2 nn2 nc2, .slice ka2 kn2 kc2, .slice ma2 mn2 mc2, .int .i64 nx2], .int .i64 er]) (by simp [results, Try.results18, go_sem, q0, q1, q2, q3, q4, q5]) rfl ?_
    have hXq := hX2.grown hgq (fun k e => by cases e; omega)
    show DPost _ _ _ _ _
    rw [hR0.out]
    exact ⟨⟨fa2, fn2, fc2, fm2, na2, nn2, nc2, ka2, kn2, kc2, ma2, mn2, mc2⟩, rfl, hO2h.out.beside hr2 hgq (by decide) (by decide) (by decide) (by decide), hXq⟩
  · have hR0 : Hid (playD D ⟨kind, nm, dst, data⟩ = removeD D (dnm nm)) := by show _ = _; unfold playD; simp only [hr]; rfl
    obtain ⟨⟨⟨qv, fl2, ns2, kp2, mv2, nx2⟩, er⟩, hRe⟩ : ∃ R, removeD D (dnm nm) = R := ⟨_, rfl⟩
    rw [hRe] at hR0 hc5
    have hop := hc5
    clear hc0 hc1 hc3 hc4 hc5 hc6
    go_upto_region 12 with fail
    clear hr hr1 hr2 hr7
    obtain ⟨X, iX, f, hxS0, hSx0⟩ := letters (fun w' => Ext W0 w') W0 (Ext.refl W0)
    have hxS := Lib.hid hxS0
    have hSx := Lib.hid hSx0
    clear hxS0 hSx0
    have u0 : ∀ x', (f x').cell? ⟨w.heap.size, 0, none⟩ = some (.int .i64 D.quota) := fun x' => (hxS.out x').cell y0
    have u1 : ∀ x', (f x').cell? ⟨w.heap.size, 1, none⟩ = some (.slice fa fn fc) := fun x' => (hxS.out x').cell y1
    have u2 : ∀ x', (f x').cell? ⟨w.heap.size, 2, none⟩ = some (.slice na nn nc0) := fun x' => (hxS.out x').cell y2
    have u3 : ∀ x', (f x').cell? ⟨w.heap.size, 3, none⟩ = some (.slice ka kn kc) := fun x' => (hxS.out x').cell y3
    have u4 : ∀ x', (f x').cell? ⟨w.heap.size, 4, none⟩ = some (.slice ma mn mc) := fun x' => (hxS.out x').cell y4
    have u5 : ∀ x', (f x').cell? ⟨w.heap.size, 5, none⟩ = some (.int .i64 D.next) := fun x' => (hxS.out x').cell y5
    have t1 : ∀ x', (f x').cell? ⟨w.heap.size + 1, 1, none⟩ = some (.int .u8 (nm : Int)) := fun x' => (hxS.out x').cell s1
    have t2 : ∀ x', (f x').cell? ⟨w.heap.size + 1, 2, none⟩ = some (.int .u8 (dst : Int)) := fun x' => (hxS.out x').cell s2
    have t3 : ∀ x', (f x').cell? ⟨w.heap.size + 1, 3, none⟩ = some (.slice pa pn pc) := fun x' => (hxS.out x').cell s3
    clear y0 y1 y2 y3 y4 y5 s0 s1 s2 s3
    refine region_plan 7 [.quiet [0, 1, 2], .act 3, .act 4, .quiet [5, 6]] (fun w' => ∃ x' : X, w' = f x') (by kernel_rfl) (by kernel_rfl) (hSx.out _ (Ext.drewN W0 1)) ?_
    intro Q1 hQ1
    refine plan_quiet ?_
    simp only [sel, List.getElem?_toArray, List.getElem?_cons_zero, List.getElem?_cons_succ]
    repeat (go_big_quiet_step (fail))
    refine wpQuiet_nil ?_
    clear u0 u1 u2 u3 u4 u5 t1 t2 t3
    refine plan_act ?_
    intro Q2 hQ2
    simp only [sel, List.getElem?_toArray, List.getElem?_cons_zero, List.getElem?_cons_succ]
    go_wp2_with fail
    refine (hn1.out _).mono ?_
    rintro e w1 ⟨rfl, rfl⟩
    go_wp2_with fail
    refine hQ2 _ _ (hSx.out _ (Ext.drewN W0 1)) ?_
    clear hn1 hn2
    refine plan_act ?_
    intro Q4 hQ4
    simp only [sel, List.getElem?_toArray, List.getElem?_cons_zero, List.getElem?_cons_succ]
    go_wp2_with fail
    refine (hop.out _ (hx0.trans (Ext.drewN W0 1))).mono ?_
    rintro e w2 ⟨⟨fa2, fn2, fc2, fm2, na2, nn2, nc2, ka2, kn2, kc2, ma2, mn2, mc2⟩, rfl, hO2, hx2⟩
    have hy2 := ((Ext.drewN W0 1).trans hx2)
    have hX2 := hx0.trans hy2
    have hr2 := (hy2.block _ (lt_of_block hrk)).trans hrk
    obtain ⟨⟨s0, s1, s2, s3, s4, s5⟩, ⟨g0, g1, g2, g3, g4, g5⟩⟩ := cells_six hr2
    have hlr2 := lt_of_block hr2
    have hO2h := Lib.hid hO2
    clear hO2 hop hRe
    unfold dkv dcs
    dsimp only
    go_wp2_with fail
    refine hQ4 _ _ (hSx.out _ hy2) ?_
    refine plan_quiet ?_
    simp only [sel, List.getElem?_toArray, List.getElem?_cons_zero, List.getElem?_cons_succ]
    repeat (go_big_quiet_step (fail))
    refine wpQuiet_nil ?_
    refine plan_tail ?_
    simp only [List.drop_succ_cons, List.drop_zero]
    go_wp2_with fail
    have hwq : put6 w2 (w.heap.size + 1 + 1) (.int .i64 qv) (.slice fa2 fn2 fc2) (.slice na2 nn2 nc2) (.slice ka2 kn2 kc2) (.slice ma2 mn2 mc2) (.int .i64 nx2) = ((((((w2.setCell ⟨w.heap.size + 1 + 1, 0, none⟩ (.int .i64 qv)).setCell ⟨w.heap.size + 1 + 1, 1, none⟩ (.slice fa2 fn2 fc2)).setCell ⟨w.heap.size + 1 + 1, 2, none⟩ (.slice na2 nn2 nc2)).setCell ⟨w.heap.size + 1 + 1, 3, none⟩ (.slice ka2 kn2 kc2)).setCell ⟨w.heap.size + 1 + 1, 4, none⟩ (.slice ma2 mn2 mc2)).setCell ⟨w.heap.size + 1 + 1, 5, none⟩ (.int .i64 nx2)) := rfl
    have hgq := put6_grownBy w2 (w.heap.size + 1 + 1) (.int .i64 qv) (.slice fa2 fn2 fc2) (.slice na2 nn2 nc2) (.slice ka2 kn2 kc2) (.slice ma2 mn2 mc2) (.int .i64 nx2)
    have hhq := put6_block hr2 (.int .i64 qv) (.slice fa2 fn2 fc2) (.slice na2 nn2 nc2) (.slice ka2 kn2 kc2) (.slice ma2 mn2 mc2) (.int .i64 nx2)
    rw [← hwq]
    obtain ⟨wq, hwqe⟩ : ∃ wq, put6 w2 (w.heap.size + 1 + 1) (.int .i64 qv) (.slice fa2 fn2 fc2) (.slice na2 nn2 nc2) (.slice ka2 kn2 kc2) (.slice ma2 mn2 mc2) (.int .i64 nx2) = wq := ⟨_, rfl⟩
    rw [hwqe] at hgq hhq ⊢
    obtain ⟨⟨q0, q1, q2, q3, q4, q5⟩, _⟩ := cells_six hhq
    refine bodyPost_ret (v := .tuple #[.agg #[.int .i64 qv, .slice fa2 fn2 fc2, .slice na2 nn2 nc2, .slice ka2 kn2 kc2, .slice ma2 mn2 mc2, .int .i64 nx2], .int .i64 er]) (by simp [results, Try.results18, go_sem, q0, q1, q2, q3, q4, q5]) rfl ?_
    have hXq := hX2.grown hgq (fun k e => by cases e; omega)
    show DPost _ _ _ _ _
    rw [hR0.out]
    exact ⟨⟨fa2, fn2, fc2, fm2, na2, nn2, nc2, ka2, kn2, kc2, ma2, mn2, mc2⟩, rfl, hO2h.out.beside hr2 hgq (by decide) (by decide) (by decide) (by decide), hXq⟩
  · have hR0 : Hid (playD D ⟨kind, nm, dst, data⟩ = syncdirD D) := by show _ = _; unfold playD; simp only [hr]; rfl
    obtain ⟨⟨⟨qv, fl2, ns2, kp2, mv2, nx2⟩, er⟩, hRe⟩ : ∃ R, syncdirD D = R := ⟨_, rfl⟩
    rw [hRe] at hR0 hc6
    have hop := hc6
    clear hc0 hc1 hc3 hc4 hc5 hc6
    go_wp2_with fail
    clear hr hr1 hr2 hr7 hn1 hn2
    refine (hop.out _ hx0).mono ?_
    rintro e w2 ⟨⟨fa2, fn2, fc2, fm2, na2, nn2, nc2, ka2, kn2, kc2, ma2, mn2, mc2⟩, rfl, hO2, hx2⟩
    have hy2 := hx2
    have hX2 := hx0.trans hy2
    have hr2 := (hy2.block _ (lt_of_block hrk)).trans hrk
    obtain ⟨⟨s0, s1, s2, s3, s4, s5⟩, ⟨g0, g1, g2, g3, g4, g5⟩⟩ := cells_six hr2
    have hlr2 := lt_of_block hr2
    have hO2h := Lib.hid hO2
    clear hO2 hop hRe
    unfold dkv dcs
    dsimp only
    go_wp2_with fail
    have hwq : put6 w2 (w.heap.size + 1 + 1) (.int .i64 qv) (.slice fa2 fn2 fc2) (.slice na2 nn2 nc2) (.slice ka2 kn2 kc2) (.slice ma2 mn2 mc2) (.int .i64 nx2) = ((((((w2.setCell ⟨w.heap.size + 1 + 1, 0, none⟩ (.int .i64 qv)).setCell ⟨w.heap.size + 1 + 1, 1, none⟩ (.slice fa2 fn2 fc2)).setCell ⟨w.heap.size + 1 + 1, 2, none⟩ (.slice na2 nn2 nc2)).setCell ⟨w.heap.size + 1 + 1, 3, none⟩ (.slice ka2 kn2 kc2)).setCell ⟨w.heap.size + 1 + 1, 4, none⟩ (.slice ma2 mn2 mc2)).setCell ⟨w.heap.size + 1 + 1, 5, none⟩ (.int .i64 nx2)) := rfl
    have hgq := put6_grownBy w2 (w.heap.size + 1 + 1) (.int .i64 qv) (.slice fa2 fn2 fc2) (.slice na2 nn2 nc2) (.slice ka2 kn2 kc2) (.slice ma2 mn2 mc2) (.int .i64 nx2)
    have hhq := put6_block hr2 (.int .i64 qv) (.slice fa2 fn2 fc2) (.slice na2 nn2 nc2) (.slice ka2 kn2 kc2) (.slice ma2 mn2 mc2) (.int .i64 nx2)
    rw [← hwq]
    obtain ⟨wq, hwqe⟩ : ∃ wq, put6 w2 (w.heap.size + 1 + 1) (.int .i64 qv) (.slice fa2 fn2 fc2) (.slice na2 nn2 nc2) (.slice ka2 kn2 kc2) (.slice ma2 mn2 mc2) (.int .i64 nx2) = wq := ⟨_, rfl⟩
    rw [hwqe] at hgq hhq ⊢
    obtain ⟨⟨q0, q1, q2, q3, q4, q5⟩, _⟩ := cells_six hhq
    refine bodyPost_ret (v := .tuple #[.agg #[.int .i64 qv, .slice fa2 fn2 fc2, .slice na2 nn2 nc2, .slice ka2 kn2 kc2, .slice ma2 mn2 mc2, .int .i64 nx2], .int .i64 er]) (by simp [results, Try.results18, go_sem, q0, q1, q2, q3, q4, q5]) rfl ?_
    have hXq := hX2.grown hgq (fun k e => by cases e; omega)
    show DPost _ _ _ _ _
    rw [hR0.out]
    exact ⟨⟨fa2, fn2, fc2, fm2, na2, nn2, nc2, ka2, kn2, kc2, ma2, mn2, mc2⟩, rfl, hO2h.out.beside hr2 hgq (by decide) (by decide) (by decide) (by decide), hXq⟩
end Go.Proofs.Ytponbponacdhkaa
