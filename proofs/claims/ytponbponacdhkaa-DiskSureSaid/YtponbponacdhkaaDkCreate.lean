/-
  Layer 6's contracts: an empty file.
-/
import Derived.Test.YtponbponacdhkaaDkAppend
namespace Go.Proofs.Ytponbponacdhkaa
open Go.RowKit

def createD (D : Dk) (s : List UInt8) : Dk × Int := match findN s D.names with
  | some _ => (D, 5)
  | none => if 256 ≤ D.files.length ∨ 1099511627776 ≤ D.next then (D, 11) else ({ D with names := insN s D.next D.names, moves := D.moves ++ [⟨1, s, [], D.next⟩], files := D.files ++ [⟨D.next, [], 0⟩], next := D.next + 1 }, 0)
theorem owns_below {W : World} {b2 : Nat} {e2 : TypeId} {s2 : Nat} {v1 v2 : Value} {n2 : Nat} {x2 : List Value} (h2 : W.ownsRow b2 e2 s2 v2 n2 x2) (hlt : ∀ k, v1.ownBlock = some k → k < b2) : v1.ownBlock = none ∨ v1.ownBlock ≠ v2.ownBlock := by
  cases hk : v1.ownBlock with
  | none => exact .inl rfl
  | some k => exact .inr fun he => by have h3 := hlt k hk; have h4 := (h2.lt k he.symm).1; omega
theorem done_create {M : List Nm} {s : List UInt8} {id : Int} (hv : vld s = true) (h : findN s M = none) (hid : 1 ≤ id) : doneN M ⟨1, s, [], id⟩ = some (insN s id M) := by
  unfold doneN
  simp [hv, h]
  omega

set_option maxRecDepth 100000 in
set_option maxHeartbeats 6400000 in
theorem create_calls (D : Dk) (x : DV) (base : Nat) (s : List UInt8) (w : World) (hO : OD w base x D) (hG : Good D) (hbase : base ≤ w.heap.size) (hv : vld s = true) :
    Calls Try.prog 9 #[dkv D x, .string ⟨s.toArray⟩] w (DPost (createD D s) base w) := by
  have hmv := Lib.hid (fun W (h : Ext w W) (M1 : List Nm) (hd : doneN D.names ⟨1, s, [], D.next⟩ = some M1) => moved_calls D x base 1 s [] D.next M1 W (hO.ext h) hG (by have := h.size; omega) hd)
  have hnf := hG.nf
  have hfnl := Lib.hid hO.fn
  have hnx := hG.next
  have hfd := Lib.hid (fun W (h : Ext w W) => find_calls D x base s W (hO.ext h) hG hv)
  have hOh := Lib.hid hO
  have hGh := Lib.hid hG
  have hvh := Lib.hid hv
  clear hO hG hv
  unfold dkv at *
  unfold dcs at *
  obtain ⟨fa, fn, fc, fm, na, nn, nc0, ka, kn, kc, ma, mn, mc⟩ := x
  dsimp only at *
  obtain ⟨hbk, hrk⟩ := two_blocks (Ext.refl ((w.alloc (.cells #[.int .i64 D.quota, .slice fa fn fc, .slice na nn nc0, .slice ka kn kc, .slice ma mn mc, .int .i64 D.next] 29)).alloc (.cells #[.int .i64 0, .slice none 0 0, .slice none 0 0, .slice none 0 0, .slice none 0 0, .int .i64 0] 29)))
  have hx0 : Ext w ((w.alloc (.cells #[.int .i64 D.quota, .slice fa fn fc, .slice na nn nc0, .slice ka kn kc, .slice ma mn mc, .int .i64 D.next] 29)).alloc (.cells #[.int .i64 0, .slice none 0 0, .slice none 0 0, .slice none 0 0, .slice none 0 0, .int .i64 0] 29)) := (Ext.alloc w _).trans (Ext.alloc _ _)
  obtain ⟨W0, hW0⟩ : ∃ W0, (w.alloc (.cells #[.int .i64 D.quota, .slice fa fn fc, .slice na nn nc0, .slice ka kn kc, .slice ma mn mc, .int .i64 D.next] 29)).alloc (.cells #[.int .i64 0, .slice none 0 0, .slice none 0 0, .slice none 0 0, .slice none 0 0, .int .i64 0] 29) = W0 := ⟨_, rfl⟩
  rw [hW0] at hx0 hbk hrk
  obtain ⟨⟨y0, y1, y2, y3, y4, y5⟩, _⟩ := cells_six hbk
  go_enter Try.func9, Try.ntmps9
  go_wp2_with fail
  refine (hfd.out _ hx0).mono ?_
  rintro e w1 ⟨i, err, rfl, hpost, hx1⟩
  clear hW0 y0 y1 y2 y3 y4 y5
  have hX1 := hx0.trans hx1
  have hb1 := (hx1.block _ (lt_of_block hbk)).trans hbk
  have hr1 := (hx1.block _ (lt_of_block hrk)).trans hrk
  obtain ⟨⟨s0, s1, s2, s3, s4, s5⟩, ⟨g0, g1, g2, g3, g4, g5⟩⟩ := cells_six hr1
  have hlr1 := lt_of_block hr1
  obtain ⟨⟨y0, y1, y2, y3, y4, y5⟩, ⟨i0, i1, i2, i3, i4, i5⟩⟩ := cells_six hb1
  have hlb1 := lt_of_block hb1
  have hs0 := hx0.size
  clear hx1 hbk hrk hx0 hfd
  rcases hpost with ⟨hnone, rfl, rfl⟩ | ⟨z, t, ht, hsome, htz, rfl, rfl⟩
  · by_cases hmany : 256 ≤ D.files.length ∨ 1099511627776 ≤ D.next
    · have hRh : Hid (createD D s = (D, 11)) := by show _ = _; unfold createD; rw [hnone]; dsimp only; rw [if_pos hmany]
      clear hnone hmv
      have hfn2 : 256 ≤ fn ∨ 1099511627776 ≤ D.next := by have h1 := hfnl.out.1; omega
      by_cases hm1 : 256 ≤ fn
      · have hq1 : decide ((256 : Int) ≤ (fn : Int)) = true := decide_eq_true (by omega)
        clear hmany hfn2
        go_wp2_with fail
        have hwq : put6 w1 (w.heap.size + 1) (.int .i64 D.quota) (.slice fa fn fc) (.slice na nn nc0) (.slice ka kn kc) (.slice ma mn mc) (.int .i64 D.next) = ((((((w1.setCell ⟨w.heap.size + 1, 0, none⟩ (.int .i64 D.quota)).setCell ⟨w.heap.size + 1, 1, none⟩ (.slice fa fn fc)).setCell ⟨w.heap.size + 1, 2, none⟩ (.slice na nn nc0)).setCell ⟨w.heap.size + 1, 3, none⟩ (.slice ka kn kc)).setCell ⟨w.heap.size + 1, 4, none⟩ (.slice ma mn mc)).setCell ⟨w.heap.size + 1, 5, none⟩ (.int .i64 D.next)) := rfl
        have hgq := put6_grownBy w1 (w.heap.size + 1) (.int .i64 D.quota) (.slice fa fn fc) (.slice na nn nc0) (.slice ka kn kc) (.slice ma mn mc) (.int .i64 D.next)
        have hhq := put6_block hr1 (.int .i64 D.quota) (.slice fa fn fc) (.slice na nn nc0) (.slice ka kn kc) (.slice ma mn mc) (.int .i64 D.next)
        rw [← hwq]
        obtain ⟨wq, hwqe⟩ : ∃ wq, put6 w1 (w.heap.size + 1) (.int .i64 D.quota) (.slice fa fn fc) (.slice na nn nc0) (.slice ka kn kc) (.slice ma mn mc) (.int .i64 D.next) = wq := ⟨_, rfl⟩
        rw [hwqe] at hgq hhq ⊢
        obtain ⟨⟨q0, q1, q2, q3, q4, q5⟩, _⟩ := cells_six hhq
        refine bodyPost_ret (v := .tuple #[.agg #[.int .i64 D.quota, .slice fa fn fc, .slice na nn nc0, .slice ka kn kc, .slice ma mn mc, .int .i64 D.next], .int .i64 11]) (by simp [results, Try.results9, go_sem, q0, q1, q2, q3, q4, q5]) rfl ?_
        have hXq := hX1.grown hgq (fun k e => by cases e; omega)
        show DPost _ _ _ _ _
        rw [hRh.out]
        exact ⟨⟨fa, fn, fc, fm, na, nn, nc0, ka, kn, kc, ma, mn, mc⟩, rfl, hOh.out.ext hXq, hXq⟩
      · have hq1 : decide ((256 : Int) ≤ (fn : Int)) = false := decide_eq_false (by omega)
        have hq2 : decide (1099511627776 ≤ D.next) = true := decide_eq_true (by omega)
        clear hmany hfn2
        go_wp2_with fail
        have hwq : put6 w1 (w.heap.size + 1) (.int .i64 D.quota) (.slice fa fn fc) (.slice na nn nc0) (.slice ka kn kc) (.slice ma mn mc) (.int .i64 D.next) = ((((((w1.setCell ⟨w.heap.size + 1, 0, none⟩ (.int .i64 D.quota)).setCell ⟨w.heap.size + 1, 1, none⟩ (.slice fa fn fc)).setCell ⟨w.heap.size + 1, 2, none⟩ (.slice na nn nc0)).setCell ⟨w.heap.size + 1, 3, none⟩ (.slice ka kn kc)).setCell ⟨w.heap.size + 1, 4, none⟩ (.slice ma mn mc)).setCell ⟨w.heap.size + 1, 5, none⟩ (.int .i64 D.next)) := rfl
        have hgq := put6_grownBy w1 (w.heap.size + 1) (.int .i64 D.quota) (.slice fa fn fc) (.slice na nn nc0) (.slice ka kn kc) (.slice ma mn mc) (.int .i64 D.next)
        have hhq := put6_block hr1 (.int .i64 D.quota) (.slice fa fn fc) (.slice na nn nc0) (.slice ka kn kc) (.slice ma mn mc) (.int .i64 D.next)
        rw [← hwq]
        obtain ⟨wq, hwqe⟩ : ∃ wq, put6 w1 (w.heap.size + 1) (.int .i64 D.quota) (.slice fa fn fc) (.slice na nn nc0) (.slice ka kn kc) (.slice ma mn mc) (.int .i64 D.next) = wq := ⟨_, rfl⟩
        rw [hwqe] at hgq hhq ⊢
        obtain ⟨⟨q0, q1, q2, q3, q4, q5⟩, _⟩ := cells_six hhq
        refine bodyPost_ret (v := .tuple #[.agg #[.int .i64 D.quota, .slice fa fn fc, .slice na nn nc0, .slice ka kn kc, .slice ma mn mc, .int .i64 D.next], .int .i64 11]) (by simp [results, Try.results9, go_sem, q0, q1, q2, q3, q4, q5]) rfl ?_
        have hXq := hX1.grown hgq (fun k e => by cases e; omega)
        show DPost _ _ _ _ _
        rw [hRh.out]
        exact ⟨⟨fa, fn, fc, fm, na, nn, nc0, ka, kn, kc, ma, mn, mc⟩, rfl, hOh.out.ext hXq, hXq⟩
    · have hR : createD D s = ({ D with names := insN s D.next D.names, moves := D.moves ++ [⟨1, s, [], D.next⟩], files := D.files ++ [⟨D.next, [], 0⟩], next := D.next + 1 }, 0) := by unfold createD; rw [hnone]; dsimp only; rw [if_neg hmany]
      have hRh := Lib.hid hR
      have hm2 := hmv.out w1 hX1 _ (done_create hvh.out hnone hnx.1)
      have hm2h := Lib.hid hm2
      have hq1 : decide ((256 : Int) ≤ (fn : Int)) = false := decide_eq_false (by have h1 := hfnl.out.1; omega)
      have hq2 : decide (1099511627776 ≤ D.next) = false := decide_eq_false (by omega)
      clear hR hnone hmv hm2 hmany
      go_wp2_with fail
      refine hm2h.out.mono ?_
      rintro e w2 ⟨⟨fa2, fn2, fc2, fm2, na2, nn2, nc2, ka2, kn2, kc2, ma2, mn2, mc2⟩, rfl, hO2, hx2⟩
      have hfl2 : fm2.length = fn2 := (slice_row hO2.files).2
      have hfb : fm2.length ≤ 256 := by have h1 := hO2.fn.1; dsimp only at h1; omega
      subst hfl2
      dsimp only
      have hX2 := hX1.trans hx2
      have hb2 := (hx2.block _ hlb1).trans hb1
      have hr2 := (hx2.block _ hlr1).trans hr1
      have hO2h := Lib.hid hO2
      have hcl := Lib.hid (fun W (h : Ext w2 W) => fclone_calls fa2 fm2.length fc2 fm2 W (by omega) ((slice_row hO2.files).1.ext h))
      clear hO2 y0 y1 y2 y3 y4 y5 i0 i1 i2 i3 i4 i5 s0 s1 s2 s3 s4 s5 g0 g1 g2 g3 g4 g5
      obtain ⟨⟨y0, y1, y2, y3, y4, y5⟩, ⟨i0, i1, i2, i3, i4, i5⟩⟩ := cells_six hb2
      have hlb2 := lt_of_block hb2
      go_upto_region 10 with fail
      have hwp : put6 w2 w.heap.size (.int .i64 D.quota) (.slice fa2 fm2.length fc2) (.slice na2 nn2 nc2) (.slice ka2 kn2 kc2) (.slice ma2 mn2 mc2) (.int .i64 D.next) = ((((((w2.setCell ⟨w.heap.size, 0, none⟩ (.int .i64 D.quota)).setCell ⟨w.heap.size, 1, none⟩ (.slice fa2 fm2.length fc2)).setCell ⟨w.heap.size, 2, none⟩ (.slice na2 nn2 nc2)).setCell ⟨w.heap.size, 3, none⟩ (.slice ka2 kn2 kc2)).setCell ⟨w.heap.size, 4, none⟩ (.slice ma2 mn2 mc2)).setCell ⟨w.heap.size, 5, none⟩ (.int .i64 D.next)) := rfl
      have hgp := put6_grownBy w2 w.heap.size (.int .i64 D.quota) (.slice fa2 fm2.length fc2) (.slice na2 nn2 nc2) (.slice ka2 kn2 kc2) (.slice ma2 mn2 mc2) (.int .i64 D.next)
      have hb3 := put6_block hb2 (.int .i64 D.quota) (.slice fa2 fm2.length fc2) (.slice na2 nn2 nc2) (.slice ka2 kn2 kc2) (.slice ma2 mn2 mc2) (.int .i64 D.next)
      have hr3 := (hgp.block _ (lt_of_block hr2) (by simp)).trans hr2
      have hO3 := hO2h.out.beside hb2 hgp (by decide) (by decide) (by decide) (by decide)
      have hX3 := hX2.grown hgp (fun k e => by cases e; exact Nat.le_refl _)
      have hcl3 := fun W (h : Ext (put6 w2 w.heap.size (.int .i64 D.quota) (.slice fa2 fm2.length fc2) (.slice na2 nn2 nc2) (.slice ka2 kn2 kc2) (.slice ma2 mn2 mc2) (.int .i64 D.next)) W) => fclone_calls fa2 fm2.length fc2 fm2 W (by omega) ((slice_row hO3.files).1.ext h)
      rw [← hwp]
      obtain ⟨w3, hw3⟩ : ∃ w3, put6 w2 w.heap.size (.int .i64 D.quota) (.slice fa2 fm2.length fc2) (.slice na2 nn2 nc2) (.slice ka2 kn2 kc2) (.slice ma2 mn2 mc2) (.int .i64 D.next) = w3 := ⟨_, rfl⟩
      rw [hw3] at hgp hb3 hr3 hO3 hX3 hcl3 ⊢
      have hO3h := Lib.hid hO3
      have hcl3h := Lib.hid hcl3
      clear hwp hw3 hgp hO3 hcl hcl3 hO2h y0 y1 y2 y3 y4 y5 i0 i1 i2 i3 i4 i5 hlb2
      obtain ⟨⟨y0, y1, y2, y3, y4, y5⟩, _⟩ := cells_six hb3
      go_wp2_with fail
      refine (hcl3h.out _ (Ext.refl w3)).mono ?_
      rintro e w4 ⟨v, rfl, hown4, hx4⟩
      obtain ⟨a4, c4, rfl, _⟩ := Sl.of_owns hown4
      have hX4 := hX3.trans hx4
      have hb4 := (hx4.block _ (lt_of_block hb3)).trans hb3
      have hr4 := (hx4.block _ (lt_of_block hr3)).trans hr3
      have hx5 := Ext.alloc w4 (.cells #[.int .i64 D.next, .slice none 0 0, .int .i64 0] 58)
      have hown5 : Hid ((w4.alloc (.cells #[.int .i64 D.next, .slice none 0 0, .int .i64 0] 58)).ownsRow w3.heap.size 58 3 (.slice a4 fm2.length c4) fm2.length (rcells fcl fm2)) := owns_ext hown4 hx5
      have hsrc : Hid (Sl (w4.alloc (.cells #[.int .i64 D.next, .slice none 0 0, .int .i64 0] 58)) (some ⟨w4.heap.size, 0, none⟩) 1 1 3 (fcl ((⟨D.next, [], 0⟩ : Fl), (none, 0, 0)))) := sl_block (heap_alloc_new w4 _) rfl (by decide)
      have hX5 := hX4.trans hx5
      have hb5 := (hx5.block _ (lt_of_block hb4)).trans hb4
      have hr5 := (hx5.block _ (lt_of_block hr4)).trans hr4
      have hz1 : Hid ((fm2.length + 1) * 40 ≤ 140737488355328) := by show _ ≤ _; omega
      have hz2 : Hid (fm2.length + 1 ≤ maxLen) := by show _ ≤ _; unfold maxLen; omega
      have hz3 : Hid (w3.heap.size ≤ (w4.alloc (.cells #[.int .i64 D.next, .slice none 0 0, .int .i64 0] 58)).heap.size) := (hx4.trans hx5).size
      clear hown4 y0 y1 y2 y3 y4 y5 hcl3h
      obtain ⟨⟨y0, y1, y2, y3, y4, y5⟩, ⟨i0, i1, i2, i3, i4, i5⟩⟩ := cells_six hb4
      have hlb4 := lt_of_block hb4
      have hwn : IntKind.i64.wrap (D.next + 1) = D.next + 1 := by rw [IntKind.wrap_i64]; omega
      go_upto_region 12 with (at_builtin; refine wpList_append_sl rfl _ _ 25 rfl w3.heap.size 58 Try.underlying25 infoFh rfl (by decide) _ _ _ rfl hown5.out _ _ _ (fcl ((⟨D.next, [], 0⟩ : Fl), (none, 0, 0))) rfl hsrc.out (by intro u hu; simp [fcl] at hu; rcases hu with rfl | rfl | rfl <;> rfl) hz1.out hz2.out hz3.out ?_; intro v8 w8 hown8 hgrow8; obtain ⟨a8, c8, hv8, _⟩ := Sl.of_owns hown8; subst hv8; have hb8 := block_beside hown5.out hgrow8 hb5 (by decide); obtain ⟨⟨p0, p1, p2, p3, p4, p5⟩, ⟨j0, j1, j2, j3, j4, j5⟩⟩ := cells_six hb8; have hlb8 := lt_of_block hb8)
      have hw9e : (w8.setCell ⟨w.heap.size, 1, none⟩ (.slice a8 (fm2.length + 1) c8)).setCell ⟨w.heap.size, 5, none⟩ (.int .i64 (D.next + 1)) = (w8.setCell ⟨w.heap.size, 1, none⟩ (.slice a8 (fm2.length + 1) c8)).setCell ⟨w.heap.size, 5, none⟩ (.int .i64 (D.next + 1)) := rfl
      have hgp := grownBy_trans (put_grownBy w8 w.heap.size 1 (.slice a8 (fm2.length + 1) c8)) (put_grownBy _ w.heap.size 5 (.int .i64 (D.next + 1)))
      have hb9 := at_setCell (at_setCell hb8 1 (.slice a8 (fm2.length + 1) c8)) 5 (.int .i64 (D.next + 1))
      simp only [List.setIfInBounds_toArray, List.set_cons_succ, List.set_cons_zero] at hb9
      have hr8 := block_beside hown5.out hgrow8 hr5 (by decide)
      have hr9 := (hgp.block _ (lt_of_block hr8) (by simp)).trans hr8
      have hX8 := hX5.grown hgrow8 (fun k e => by have h1 := owns_row hown5.out k e; have h2 := hX3.size; omega)
      have hX9 := hX8.grown hgp (fun k e => by cases e; exact Nat.le_refl _)
      have hf9 : Hid (ORow fcl 3 ((w8.setCell ⟨w.heap.size, 1, none⟩ (.slice a8 (fm2.length + 1) c8)).setCell ⟨w.heap.size, 5, none⟩ (.int .i64 (D.next + 1))) base 58 (.slice a8 (fm2.length + 1) c8) (fm2 ++ [((⟨D.next, [], 0⟩ : Fl), (none, 0, 0))])) := by
        have h1 : ORow fcl 3 w8 w3.heap.size 58 (.slice a8 (fm2.length + 1) c8) (fm2 ++ [((⟨D.next, [], 0⟩ : Fl), (none, 0, 0))]) := by
          show w8.ownsRow _ _ _ _ (fm2 ++ [((⟨D.next, [], 0⟩ : Fl), (none, 0, 0))]).length (rcells fcl (fm2 ++ [((⟨D.next, [], 0⟩ : Fl), (none, 0, 0))]))
          rw [List.length_append, rcells_append, show rcells fcl [((⟨D.next, [], 0⟩ : Fl), ((none : Option Addr), 0, 0))] = fcl ((⟨D.next, [], 0⟩ : Fl), (none, 0, 0)) by simp [rcells]]
          exact hown8
        exact owns_mono (owns_beside h1 (owns_other h1 hb8 (by decide)) hgp) (by have := hX3.size; omega)
      have hO9 : Hid (OD ((w8.setCell ⟨w.heap.size, 1, none⟩ (.slice a8 (fm2.length + 1) c8)).setCell ⟨w.heap.size, 5, none⟩ (.int .i64 (D.next + 1))) base ⟨fa2, fm2.length, fc2, fm2, na2, nn2, nc2, ka2, kn2, kc2, ma2, mn2, mc2⟩ { D with names := insN s D.next D.names, moves := D.moves ++ [⟨1, s, [], D.next⟩] }) := by
        have h5 := hO3h.out.ext (hx4.trans hx5)
        have h8 : OD w8 base ⟨fa2, fm2.length, fc2, fm2, na2, nn2, nc2, ka2, kn2, kc2, ma2, mn2, mc2⟩ { D with names := insN s D.next D.names, moves := D.moves ++ [⟨1, s, [], D.next⟩] } := by
          have hk : ∀ {e : TypeId} {sz : Nat} {v : Value} {n : Nat} {xs : List Value}, w3.ownsRow base e sz v n xs → (w4.alloc (.cells #[.int .i64 D.next, .slice none 0 0, .int .i64 0] 58)).ownsRow base e sz v n xs → w8.ownsRow base e sz v n xs := fun ho3 ho5 => ho5.kept hgrow8 (owns_below hown5.out (fun k hk => (World.ownsRow.lt ho3 k hk).2))
          exact ⟨hk hO3h.out.files h5.files, h5.fm, fun y hy => hk (hO3h.out.bytes y hy) (h5.bytes y hy), hk hO3h.out.names h5.names, hk hO3h.out.kept h5.kept, hk hO3h.out.moves h5.moves⟩
        exact h8.beside hb8 hgp (by decide) (by decide) (by decide) (by decide)
      clear hw9e
      obtain ⟨w9, hw9⟩ : ∃ w9, (w8.setCell ⟨w.heap.size, 1, none⟩ (.slice a8 (fm2.length + 1) c8)).setCell ⟨w.heap.size, 5, none⟩ (.int .i64 (D.next + 1)) = w9 := ⟨_, rfl⟩
      rw [hw9] at hb9 hr9 hX9 hf9 hO9 ⊢
      clear hw9 hgp hb8 hr8 hX8 hown8 hgrow8 p0 p1 p2 p3 p4 p5 j0 j1 j2 j3 j4 j5 hlb8 hsrc hown5 hz1 hz2 hz3
      obtain ⟨⟨p0, p1, p2, p3, p4, p5⟩, _⟩ := cells_six hb9
      obtain ⟨⟨s0, s1, s2, s3, s4, s5⟩, ⟨g0, g1, g2, g3, g4, g5⟩⟩ := cells_six hr9
      have hlr9 := lt_of_block hr9
      go_wp2_with fail
      have hwq : put6 w9 (w.heap.size + 1) (.int .i64 D.quota) (.slice a8 (fm2.length + 1) c8) (.slice na2 nn2 nc2) (.slice ka2 kn2 kc2) (.slice ma2 mn2 mc2) (.int .i64 (D.next + 1)) = ((((((w9.setCell ⟨w.heap.size + 1, 0, none⟩ (.int .i64 D.quota)).setCell ⟨w.heap.size + 1, 1, none⟩ (.slice a8 (fm2.length + 1) c8)).setCell ⟨w.heap.size + 1, 2, none⟩ (.slice na2 nn2 nc2)).setCell ⟨w.heap.size + 1, 3, none⟩ (.slice ka2 kn2 kc2)).setCell ⟨w.heap.size + 1, 4, none⟩ (.slice ma2 mn2 mc2)).setCell ⟨w.heap.size + 1, 5, none⟩ (.int .i64 (D.next + 1))) := rfl
      have hgq := put6_grownBy w9 (w.heap.size + 1) (.int .i64 D.quota) (.slice a8 (fm2.length + 1) c8) (.slice na2 nn2 nc2) (.slice ka2 kn2 kc2) (.slice ma2 mn2 mc2) (.int .i64 (D.next + 1))
      have hhq := put6_block hr9 (.int .i64 D.quota) (.slice a8 (fm2.length + 1) c8) (.slice na2 nn2 nc2) (.slice ka2 kn2 kc2) (.slice ma2 mn2 mc2) (.int .i64 (D.next + 1))
      rw [← hwq]
      obtain ⟨wq, hwqe⟩ : ∃ wq, put6 w9 (w.heap.size + 1) (.int .i64 D.quota) (.slice a8 (fm2.length + 1) c8) (.slice na2 nn2 nc2) (.slice ka2 kn2 kc2) (.slice ma2 mn2 mc2) (.int .i64 (D.next + 1)) = wq := ⟨_, rfl⟩
      rw [hwqe] at hgq hhq ⊢
      obtain ⟨⟨q0, q1, q2, q3, q4, q5⟩, _⟩ := cells_six hhq
      refine bodyPost_ret (v := .tuple #[.agg #[.int .i64 D.quota, .slice a8 (fm2.length + 1) c8, .slice na2 nn2 nc2, .slice ka2 kn2 kc2, .slice ma2 mn2 mc2, .int .i64 (D.next + 1)], .int .i64 0]) (by simp [results, Try.results9, go_sem, q0, q1, q2, q3, q4, q5]) rfl ?_
      have hXq := hX9.grown hgq (fun k e => by cases e; omega)
      show DPost _ _ _ _ _
      rw [hRh.out]
      have hOq := hO9.out.beside hr9 hgq (by decide) (by decide) (by decide) (by decide)
      refine ⟨⟨a8, fm2.length + 1, c8, fm2 ++ [((⟨D.next, [], 0⟩ : Fl), (none, 0, 0))], na2, nn2, nc2, ka2, kn2, kc2, ma2, mn2, mc2⟩, rfl, ⟨owns_beside hf9.out (owns_other hf9.out hr9 (by decide)) hgq, ?_, ?_, hOq.names, hOq.kept, hOq.moves⟩, hXq⟩
      · dsimp only
        rw [List.map_append, hOq.fm]
        rfl
      · intro y hy
        rcases List.mem_append.1 hy with hy | hy
        · exact hOq.bytes y hy
        · obtain rfl : y = ((⟨D.next, [], 0⟩ : Fl), (none, 0, 0)) := by simpa using hy
          exact World.ownsRow_nil _ _ _ _
  · have hRh : Hid (createD D s = (D, 5)) := by show _ = _; unfold createD; rw [hsome]
    clear hsome htz hmv
    go_wp2_with fail
    have hwq : put6 w1 (w.heap.size + 1) (.int .i64 D.quota) (.slice fa fn fc) (.slice na nn nc0) (.slice ka kn kc) (.slice ma mn mc) (.int .i64 D.next) = ((((((w1.setCell ⟨w.heap.size + 1, 0, none⟩ (.int .i64 D.quota)).setCell ⟨w.heap.size + 1, 1, none⟩ (.slice fa fn fc)).setCell ⟨w.heap.size + 1, 2, none⟩ (.slice na nn nc0)).setCell ⟨w.heap.size + 1, 3, none⟩ (.slice ka kn kc)).setCell ⟨w.heap.size + 1, 4, none⟩ (.slice ma mn mc)).setCell ⟨w.heap.size + 1, 5, none⟩ (.int .i64 D.next)) := rfl
    have hgq := put6_grownBy w1 (w.heap.size + 1) (.int .i64 D.quota) (.slice fa fn fc) (.slice na nn nc0) (.slice ka kn kc) (.slice ma mn mc) (.int .i64 D.next)
    have hhq := put6_block hr1 (.int .i64 D.quota) (.slice fa fn fc) (.slice na nn nc0) (.slice ka kn kc) (.slice ma mn mc) (.int .i64 D.next)
    rw [← hwq]
    obtain ⟨wq, hwqe⟩ : ∃ wq, put6 w1 (w.heap.size + 1) (.int .i64 D.quota) (.slice fa fn fc) (.slice na nn nc0) (.slice ka kn kc) (.slice ma mn mc) (.int .i64 D.next) = wq := ⟨_, rfl⟩
    rw [hwqe] at hgq hhq ⊢
    obtain ⟨⟨q0, q1, q2, q3, q4, q5⟩, _⟩ := cells_six hhq
    refine bodyPost_ret (v := .tuple #[.agg #[.int .i64 D.quota, .slice fa fn fc, .slice na nn nc0, .slice ka kn kc, .slice ma mn mc, .int .i64 D.next], .int .i64 5]) (by simp [results, Try.results9, go_sem, q0, q1, q2, q3, q4, q5]) rfl ?_
    have hXq := hX1.grown hgq (fun k e => by cases e; omega)
    show DPost _ _ _ _ _
    rw [hRh.out]
    exact ⟨⟨fa, fn, fc, fm, na, nn, nc0, ka, kn, kc, ma, mn, mc⟩, rfl, hOh.out.ext hXq, hXq⟩
end Go.Proofs.Ytponbponacdhkaa
