/-
  Layer 20's contracts: is it a cache as it must be? (the code's answer)
-/
import Derived.Test.YtcbjadmngkednaaCacheOrd
import Derived.Test.YtcbjadmngkednaaCacheClone
import Derived.Deep.RegionHeld3
import Derived.Test.YtcbjadmngkednaaRegTail
namespace Go.Proofs.Ytcbjadmngkednaa
open Go.RowKit

theorem Row.beside {α : Type} {enc : α → List Value} {s : Nat} {w w' : World} {b : Nat} {met : List Int} {a : Option Addr} {n c : Nat} {l : List α} (h : Row enc s w a n c l) (hm : Met w b met) (hg : w.grownBy w' (some b)) : Row enc s w' a n c l :=
  ⟨Sl.len h, Sl.le h, Sl.max h, Sl.nil h, fun hn => by
    obtain ⟨b', o, ha, hc⟩ := Sl.at_ h hn
    exact ⟨b', o, ha, fun i hi => cell_beside hm hg (hc i hi)⟩⟩
theorem box2 {w W : World} {v0 v1 : Value} {t : TypeId} (h : Ext (w.alloc (.cells #[v0, v1] t)) W) :
    W.cell? ⟨w.heap.size, 0, none⟩ = some v0 ∧ W.cell? ⟨w.heap.size, 1, none⟩ = some v1 := by
  have hB := h.block w.heap.size (by simp)
  rw [heap_alloc_new] at hB
  exact ⟨by simp [World.cell?, hB], by simp [World.cell?, hB]⟩
def ordR (came : Int) (met : List Int) (pts : List Ar) : Bool := match okPts came none met pts with | none => false | some _ => !pts.isEmpty
theorem crtC_head (c : Ca) (h : ¬ (1 ≤ c.max ∧ c.max ≤ 500 ∧ c.waits.length ≤ 500 ∧ 0 ≤ c.came ∧ c.came ≤ 1099511627776 ∧ 0 ≤ c.dropped ∧ (cnt c.waits : Int) ≤ c.max ∧ c.dropped ≤ c.came - cnt c.waits)) : crtC c = false := by
  unfold crtC
  rw [decide_eq_false h, Bool.false_and]
set_option maxRecDepth 100000 in
set_option maxHeartbeats 3200000 in
theorem cright_calls (m : Int) (a : Option Addr) (n c : Nat) (came dropped : Int) (M : List Wh) (w : World) (hb : Ws w a n c M) (hs : cnt (ws M) ≤ 10000) (hp : ∀ x ∈ M, x.1.1.length ≤ 140737488355328) :
    Calls Try.prog 14 #[cav m a n c came dropped] w fun e w' => e = .returned (.bool (crtC ⟨m, ws M, came, dropped⟩)) ∧ Ext w w' := by
  have hlen := Lib.hid hb.len
  have hm := Nat.le_trans (Sl.le hb.1) (Sl.max hb.1)
  unfold maxLen at hm
  have hwl : (ws M).length = n := by unfold ws; rw [List.length_map]; exact hlen.out
  obtain ⟨r, hr⟩ : ∃ r, crtC ⟨m, ws M, came, dropped⟩ = r := ⟨_, rfl⟩
  have hhead := crtC_head ⟨m, ws M, came, dropped⟩
  dsimp only at hhead
  rw [hr, hwl] at hhead
  rw [hr]
  have hx := Ext.alloc w (.cells #[.int .i64 m, .slice a n c, .int .i64 came, .int .i64 dropped] 24)
  have htot := total_calls m a n c came dropped M _ (hb.ext hx) (by omega)
  unfold cav at *
  by_cases g1 : 1 ≤ m ∧ m ≤ 500 ∧ n ≤ 500
  · by_cases g2 : 0 ≤ came ∧ came ≤ 1099511627776 ∧ 0 ≤ dropped
    · obtain ⟨s, hsd⟩ : ∃ s, cnt (ws M) = s := ⟨_, rfl⟩
      rw [hsd] at hhead hs htot
      by_cases g3 : (s : Int) ≤ m ∧ dropped ≤ came - s
      · clear hhead
        obtain ⟨g1a, g1b, g1c⟩ := g1
        obtain ⟨g2a, g2b, g2c⟩ := g2
        obtain ⟨g3a, g3b⟩ := g3
        have hok : Hid (okWts came none [] (ws M) = r) := by
          show _ = _
          rw [← hr]
          unfold crtC
          dsimp only
          rw [decide_eq_true ⟨g1a, g1b, by rw [hwl]; exact g1c, g2a, g2b, g2c, by rw [hsd]; exact g3a, by rw [hsd]; exact g3b⟩, Bool.true_and]
        have q1 : ¬ m < 1 := by omega
        have q2 : ¬ 500 < m := by omega
        have q3 : ¬ (500 : Int) < (n : Int) := by omega
        have q4 : ¬ came < 0 := by omega
        have q5 : ¬ 1099511627776 < came := by omega
        have q6 : ¬ dropped < 0 := by omega
        have q7 : ¬ m < (s : Int) := by omega
        have q8 : ¬ came - (s : Int) < dropped := by omega
        have hmk := @run_makeMap Try.prog
        clear hr hwl
        go_enter Try.func14, Try.ntmps14
        go_wp2_with fail
        refine htot.mono ?_
        rintro e w1 ⟨rfl, hx1⟩
        obtain ⟨y0, y1, y2, y3⟩ := box4 hx1
        have hl1 := World.block_lt_of_cell? w1 _ y0
        have hxw1 := hx.trans hx1
        have hok0 := hok
        go_wp2_with fail
        obtain ⟨b, hbd⟩ : ∃ b, w1.heap.size = b := ⟨_, rfl⟩
        have hM0 : Met (w1.alloc (.map #[] 0)) b [] := by rw [← hbd]; exact met_made w1
        rw [hbd]
        obtain ⟨w2, hw2⟩ : ∃ w2, w1.alloc (.map #[] 0) = w2 := ⟨_, rfl⟩
        have hx2 : Ext w w2 := by rw [← hw2]; exact hxw1.trans (Ext.alloc _ _)
        have z0 : w2.cell? ⟨w.heap.size, 0, none⟩ = some (.int .i64 m) := by rw [← hw2]; exact (Ext.alloc _ _).cell y0
        have z1 : w2.cell? ⟨w.heap.size, 1, none⟩ = some (.slice a n c) := by rw [← hw2]; exact (Ext.alloc _ _).cell y1
        have z2 : w2.cell? ⟨w.heap.size, 2, none⟩ = some (.int .i64 came) := by rw [← hw2]; exact (Ext.alloc _ _).cell y2
        have hwb : w.heap.size ≤ b := by omega
        rw [hw2] at hM0 ⊢
        have hb2 := hb.ext hx2
        clear hw2 hbd y0 y1 y2 y3 hx1 htot hmk hl1 hxw1 hok0 q1 q2 q3 q4 q5 q6 q7 q8
        go_loopw [55] (fun i wr => ∃ (k : Nat) (met : List Int), k ≤ n ∧ i = .int .i64 k ∧ Hid (okWts came (if k = 0 then none else ((ws M)[k - 1]?).map (·.1)) met ((ws M).drop k) = r) ∧ Met wr b met ∧ met.length ≤ cnt (ws (M.take k)) ∧ w2.grownBy wr (some b)) (fun i _ => n - (intOf i).toNat)
        case atStart => exact ⟨0, [], by omega, rfl, by show _ = _; simpa using hok.out, hM0, by simp, World.grownBy.refl _ _⟩
        case round =>
          obtain ⟨k, met, hk, rfl, hokk, hMk, hmet, hG⟩ := hrel
          replace z0 := cell_beside hM0 hG z0
          replace z1 := cell_beside hM0 hG z1
          replace z2 := cell_beside hM0 hG z2
          by_cases hlt : k < n
          · obtain ⟨b2, o2, rfl, hc⟩ := hb2.at (by omega)
            have hkM : k < M.length := by rw [hlen.out]; exact hlt
            have hkW : k < (ws M).length := by unfold ws; rw [List.length_map]; exact hkM
            obtain ⟨d0, d1⟩ := hc k hkM
            replace d0 := cell_beside hM0 hG d0
            replace d1 := cell_beside hM0 hG d1
            have hb2l := World.block_lt_of_cell? wr _ d0
            have hzl := World.block_lt_of_cell? wr _ z1
            have hdr : (ws M).drop k = M[k].1 :: (ws M).drop (k + 1) := by
              rw [List.drop_eq_getElem_cons hkW]; simp [ws]
            have hok2 := hokk.out
            rw [hdr, okWts] at hok2
            have hpk := hp M[k] (List.getElem_mem hkM)
            have hak := (hb2.2 M[k] (List.getElem_mem hkM)).beside hM0 hG
            have hctk := Lib.hid (cnt_take_succ M k hkM)
            have hctl := cnt_take_le M (k + 1)
            obtain ⟨⟨⟨pp, pts⟩, pa, pn, pc⟩, hxe⟩ : ∃ x, M[k] = x := ⟨_, rfl⟩
            rw [hxe] at d0 d1 hok2 hpk hak hctk
            dsimp only at d0 d1 hok2 hpk hak hctk
            have hnm := fun W => named_calls pp W hpk
            have hxe2 := Lib.hid hxe
            clear hdr hxe hokk
            have HG : wr.grownBy ((wr.alloc (.cells #[.string ⟨pp.toArray⟩, .slice pa pn pc] 59)).drew) (some b) := ext_grown (World.grownBy.refl _ _) ((Ext.alloc wr _).trans (Ext.drewN _ 1))
            have p0 : ((wr.alloc (.cells #[.string ⟨pp.toArray⟩, .slice pa pn pc] 59)).drew).cell? ⟨wr.heap.size, 0, none⟩ = some (.string ⟨pp.toArray⟩) := (box2 (Ext.drewN _ 1)).1
            have p1 : ((wr.alloc (.cells #[.string ⟨pp.toArray⟩, .slice pa pn pc] 59)).drew).cell? ⟨wr.heap.size, 1, none⟩ = some (.slice pa pn pc) := (box2 (Ext.drewN _ 1)).2
            by_cases c1 : nmd pp = false
            · have hr0 : r = false := by rw [← hok2, if_pos (.inl c1)]
              subst hr0
              rw [c1] at hnm
              have hnmh := Lib.hid hnm
              clear hok2 hok hnm hctk
              go_wp2
              go_quiet ((go_at_call 27; exact Calls.quiet_of_same (hnmh.out _)))
              go_wp2
              go_ret
              exact ⟨rfl, hx2.grown (ext_grown hG ((Ext.alloc wr _).trans (Ext.drewN _ _))) (fun k e => by cases e; exact hwb)⟩
            · have c1' : nmd pp = true := by simpa using c1
              rw [c1'] at hnm
              have hnmh := Lib.hid hnm
              have hpn : pts.length = pn := As.len hak
              have hbigo : met.length + pn ≤ 100000 := by have h1 := hctk.out; omega
              have ho : ∀ W, Ext wr W → Calls Try.prog 34 #[.slice pa pn pc, .int .i64 came, .map (some b)] W fun e w' => e = .returned (.bool (ordR came met pts)) ∧ W.grownBy w' (some b) ∧ ∀ m, okPts came none met pts = some m → Met w' b m := fun W hE => ordered_calls pa pn pc pts came b met W (hak.ext hE) (hMk.ext hE) g2a g2b hbigo
              have hnext : ∀ m', okPts came none met pts = some m' → m'.length ≤ cnt (ws (M.take (k + 1))) := fun m' h => by
                obtain ⟨rfl, _⟩ := (okPts_eq came pts none met m').1 h
                have h1 := hctk.out
                rw [List.length_append]
                unfold ords
                rw [List.length_map]
                omega
              have hpvn : (if k + 1 = 0 then none else ((ws M)[k + 1 - 1]?).map (·.1)) = some pp := by
                rw [if_neg (by omega), Nat.add_sub_cancel, List.getElem?_eq_getElem hkW]
                unfold ws
                rw [Option.map_some, List.getElem_map, hxe2.out]
              have hfail : ∀ (_ : ∃ q ∈ (if k = 0 then none else ((ws M)[k - 1]?).map (·.1)), bl q pp = false), r = false := fun h => by
                rw [← hok2, if_pos (.inr (.inr h))]
              have hpass : ∀ (_ : ¬ ∃ q ∈ (if k = 0 then none else ((ws M)[k - 1]?).map (·.1)), bl q pp = false),
                  ordR came met pts = false ∧ r = false ∨
                  ordR came met pts = true ∧ ∃ m', okPts came none met pts = some m' ∧ okWts came (if k + 1 = 0 then none else ((ws M)[k + 1 - 1]?).map (·.1)) m' ((ws M).drop (k + 1)) = r := fun h => by
                by_cases hpe : pts = []
                · left
                  refine ⟨?_, by rw [← hok2, if_pos (.inr (.inl hpe))]⟩
                  subst hpe
                  unfold ordR
                  cases okPts came none met [] <;> rfl
                · rw [if_neg (by rintro (h2 | h2 | h2); exact c1 h2; exact hpe h2; exact h h2)] at hok2
                  cases hP : okPts came none met pts with
                  | none => left; rw [hP] at hok2; exact ⟨by unfold ordR; rw [hP], hok2.symm⟩
                  | some m' =>
                    right
                    rw [hP] at hok2
                    rw [hpvn]
                    exact ⟨by unfold ordR; rw [hP]; simp [hpe], m', rfl, hok2⟩
              clear hok2 hpvn
              obtain ⟨R2, hR2⟩ : ∃ R2, ordR came met pts = R2 := ⟨_, rfl⟩
              rw [hR2] at hpass ho
              clear hR2
              have HE : ∀ q, Ext wr ((wr.alloc (.cells #[.string ⟨pp.toArray⟩, .slice pa pn pc] 59)).drewN q) := fun q => (Ext.alloc wr _).trans (Ext.drewN _ _)
              have hoh := Lib.hid ho
              have hnexth := Lib.hid hnext
              have hHE := Lib.hid HE
              clear ho hnext HE hnm c1 hpk hak hMk
              cases k with
              | zero =>
                have hp1 := hpass (by simp)
                clear hfail hpass
                simp only [Nat.zero_mul, Nat.add_zero] at d0 d1
                have hp1h := Lib.hid hp1
                clear hp1
                cases hRR : R2 with
                | false =>
                  subst hRR
                  obtain rfl : r = false := by rcases hp1h.out with h | h; exact h.2; cases h.1
                  clear hok hp1h
                  go_wp2
                  refine region_class_tail 26 (fun w' => ∃ n, w' = World.drewN _ n) (by kernel_rfl) (by kernel_rfl) ⟨1, rfl⟩ ?_
                  simp only [List.take_succ_cons, List.take_zero, List.drop_succ_cons, List.drop_zero]
                  repeat (go_big_quiet_step ((go_at_call 27; exact Calls.quiet_of_same (hnmh.out _))))
                  refine wpQuiet_nil ?_
                  rintro _ ⟨nq, rfl⟩
                  go_wp2_with fail
                  refine (hoh.out _ (hHE.out nq)).mono ?_
                  rintro e w3 ⟨rfl, hg3, _⟩
                  go_wp2
                  go_ret
                  exact ⟨rfl, hx2.grown (grownBy_trans (ext_grown hG (hHE.out nq)) hg3) (fun k e => by cases e; exact hwb)⟩
                | true =>
                  subst hRR
                  go_wp2
                  refine region_class_tail 26 (fun w' => ∃ n, w' = World.drewN _ n) (by kernel_rfl) (by kernel_rfl) ⟨1, rfl⟩ ?_
                  simp only [List.take_succ_cons, List.take_zero, List.drop_succ_cons, List.drop_zero]
                  repeat (go_big_quiet_step ((go_at_call 27; exact Calls.quiet_of_same (hnmh.out _))))
                  refine wpQuiet_nil ?_
                  rintro _ ⟨nq, rfl⟩
                  go_wp2_with fail
                  refine (hoh.out _ (hHE.out nq)).mono ?_
                  rintro e w3 ⟨rfl, hg3, hm3⟩
                  have hm3h := Lib.hid hm3
                  clear hm3
                  go_wp2
                  go_roundw
                  case rel =>
                    rcases hp1h.out with h | ⟨_, m', hm', hr'⟩
                    · cases h.1
                    · exact ⟨1, m', by omega, by go_num, hr', hm3h.out m' hm', hnexth.out m' hm', grownBy_trans (ext_grown hG (hHE.out nq)) hg3⟩
                  case measure => simp [intOf]; omega
              | succ j =>
                have hjM : j < M.length := by omega
                have hjW : j < (ws M).length := by omega
                have hpq : (if j + 1 = 0 then none else ((ws M)[j + 1 - 1]?).map (·.1)) = some M[j].1.1 := by
                  rw [if_neg (by omega), Nat.add_sub_cancel, List.getElem?_eq_getElem hjW]
                  simp [ws]
                rw [hpq] at hfail hpass
                obtain ⟨f0, f1⟩ := hc j hjM
                replace f0 := cell_beside hM0 hG f0
                obtain ⟨q, hq⟩ : ∃ q, M[j].1.1 = q := ⟨_, rfl⟩
                rw [hq] at hfail hpass f0
                clear hpq hq hc f1
                cases hqp : bl q pp with
                | false =>
                  obtain rfl := hfail ⟨q, rfl, hqp⟩
                  clear hfail hpass hok
                  have hqp1 : Op.bytesLess q pp = false := hqp
                  clear hqp
                  go_wp2
                  go_quiet ((go_at_call 27; exact Calls.quiet_of_same (hnmh.out _)))
                  go_wp2
                  go_ret
                  exact ⟨rfl, hx2.grown (ext_grown hG (hHE.out _)) (fun k e => by cases e; exact hwb)⟩
                | true =>
                  have hp1 := hpass (by rintro ⟨q', hq', h2⟩; cases hq'; rw [hqp] at h2; cases h2)
                  have hqp1 : Op.bytesLess q pp = true := hqp
                  clear hfail hpass hqp
                  have hp1h := Lib.hid hp1
                  clear hp1
                  cases hRR : R2 with
                  | false =>
                    subst hRR
                    obtain rfl : r = false := by rcases hp1h.out with h | h; exact h.2; cases h.1
                    clear hok hp1h
                    go_wp2
                    refine region_class_tail 26 (fun w' => ∃ n, w' = World.drewN _ n) (by kernel_rfl) (by kernel_rfl) ⟨1, rfl⟩ ?_
                    simp only [List.take_succ_cons, List.take_zero, List.drop_succ_cons, List.drop_zero]
                    repeat (go_big_quiet_step ((go_at_call 27; exact Calls.quiet_of_same (hnmh.out _))))
                    refine wpQuiet_nil ?_
                    rintro _ ⟨nq, rfl⟩
                    go_wp2_with fail
                    refine (hoh.out _ (hHE.out nq)).mono ?_
                    rintro e w3 ⟨rfl, hg3, _⟩
                    go_wp2
                    go_ret
                    exact ⟨rfl, hx2.grown (grownBy_trans (ext_grown hG (hHE.out nq)) hg3) (fun k e => by cases e; exact hwb)⟩
                  | true =>
                    subst hRR
                    go_wp2
                    refine region_class_tail 26 (fun w' => ∃ n, w' = World.drewN _ n) (by kernel_rfl) (by kernel_rfl) ⟨1, rfl⟩ ?_
                    simp only [List.take_succ_cons, List.take_zero, List.drop_succ_cons, List.drop_zero]
                    repeat (go_big_quiet_step ((go_at_call 27; exact Calls.quiet_of_same (hnmh.out _))))
                    refine wpQuiet_nil ?_
                    rintro _ ⟨nq, rfl⟩
                    go_wp2_with fail
                    refine (hoh.out _ (hHE.out nq)).mono ?_
                    rintro e w3 ⟨rfl, hg3, hm3⟩
                    have hm3h := Lib.hid hm3
                    clear hm3
                    go_wp2
                    go_roundw
                    case rel =>
                      rcases hp1h.out with h | ⟨_, m', hm', hr'⟩
                      · cases h.1
                      · exact ⟨j + 1 + 1, m', by omega, by go_num, hr', hm3h.out m' hm', hnexth.out m' hm', grownBy_trans (ext_grown hG (hHE.out nq)) hg3⟩
                    case measure => simp [intOf]; omega
          · obtain rfl : n = k := by omega
            have hfin := hokk.out
            rw [List.drop_of_length_le (by unfold ws; rw [List.length_map, hlen.out]; exact Nat.le_refl _), okWts] at hfin
            subst hfin
            clear hokk hok
            go_wp2
            go_ret
            exact ⟨rfl, hx2.grown hG (fun k e => by cases e; exact hwb)⟩
      · obtain rfl := hhead (fun h => g3 ⟨h.2.2.2.2.2.2.1, h.2.2.2.2.2.2.2⟩)
        clear hhead hr
        obtain ⟨g1a, g1b, g1c⟩ := g1
        obtain ⟨g2a, g2b, g2c⟩ := g2
        have q1 : ¬ m < 1 := by omega
        have q2 : ¬ 500 < m := by omega
        have q3 : ¬ (500 : Int) < (n : Int) := by omega
        have q4 : ¬ came < 0 := by omega
        have q5 : ¬ 1099511627776 < came := by omega
        have q6 : ¬ dropped < 0 := by omega
        by_cases g4 : (s : Int) ≤ m
        · have q7 : ¬ m < (s : Int) := by omega
          have q8 : came - (s : Int) < dropped := by omega
          clear g3 g4
          go_enter Try.func14, Try.ntmps14
          go_wp2_with fail
          refine htot.mono ?_
          rintro e w1 ⟨rfl, hx1⟩
          obtain ⟨y0, y1, y2, y3⟩ := box4 hx1
          have hxw1 := hx.trans hx1
          go_wp2_with fail
          go_ret
          exact ⟨rfl, hxw1⟩
        · have q7 : m < (s : Int) := by omega
          clear g3 g4
          go_enter Try.func14, Try.ntmps14
          go_wp2_with fail
          refine htot.mono ?_
          rintro e w1 ⟨rfl, hx1⟩
          obtain ⟨y0, y1, y2, y3⟩ := box4 hx1
          have hxw1 := hx.trans hx1
          go_wp2_with fail
          go_ret
          exact ⟨rfl, hxw1⟩
    · obtain rfl := hhead (fun h => g2 ⟨h.2.2.2.1, h.2.2.2.2.1, h.2.2.2.2.2.1⟩)
      clear hhead hr htot
      obtain ⟨g1a, g1b, g1c⟩ := g1
      have q1 : ¬ m < 1 := by omega
      have q2 : ¬ 500 < m := by omega
      have q3 : ¬ (500 : Int) < (n : Int) := by omega
      by_cases q4 : came < 0
      · clear g2
        go_enter Try.func14, Try.ntmps14
        go_wp2_with fail
        go_ret
        exact ⟨rfl, hx⟩
      · by_cases q5 : 1099511627776 < came
        · clear g2
          go_enter Try.func14, Try.ntmps14
          go_wp2_with fail
          go_ret
          exact ⟨rfl, hx⟩
        · have q6 : dropped < 0 := by omega
          clear g2
          go_enter Try.func14, Try.ntmps14
          go_wp2_with fail
          go_ret
          exact ⟨rfl, hx⟩
  · obtain rfl := hhead (fun h => g1 ⟨h.1, h.2.1, h.2.2.1⟩)
    clear hhead hr htot
    by_cases q1 : m < 1
    · clear g1
      go_enter Try.func14, Try.ntmps14
      go_wp2_with fail
      go_ret
      exact ⟨rfl, hx⟩
    · by_cases q2 : 500 < m
      · clear g1
        go_enter Try.func14, Try.ntmps14
        go_wp2_with fail
        go_ret
        exact ⟨rfl, hx⟩
      · have q3 : (500 : Int) < (n : Int) := by omega
        clear g1
        go_enter Try.func14, Try.ntmps14
        go_wp2_with fail
        go_ret
        exact ⟨rfl, hx⟩
end Go.Proofs.Ytcbjadmngkednaa
