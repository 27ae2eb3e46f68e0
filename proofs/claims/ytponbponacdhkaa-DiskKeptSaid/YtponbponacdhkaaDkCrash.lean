/-
  Layer 6's contracts: the power goes.
-/
import Derived.Test.YtponbponacdhkaaDkKeep
namespace Go.Proofs.Ytponbponacdhkaa
open Go.RowKit

def keepN (K : List Kp) (f : Fl) : Int := match K.find? fun k => k.1 == f.id with
  | none => 0
  | some k => max 0 (min k.2 ((f.bytes.length : Int) - f.sure))
def crashF (K : List Kp) (f : Fl) : Fl := ⟨f.id, f.bytes.take (f.sure + keepN K f).toNat, f.sure + keepN K f⟩
def crashD (D : Dk) (l : List Nm) (K : List Kp) : Dk := { settleD D l with files := (settleD D l).files.map (crashF K) }
def crashM (mv : Int) (n : Nat) : Int := max 0 (min mv (n : Int))
theorem crashM_nat (mv : Int) (n : Nat) : ∃ nt : Nat, crashM mv n = (nt : Int) ∧ nt ≤ n := by
  unfold crashM
  exact ⟨(max 0 (min mv (n : Int))).toNat, by omega, by omega⟩
theorem keepN_range (K : List Kp) (f : Fl) (h : 0 ≤ f.sure ∧ f.sure ≤ f.bytes.length) : 0 ≤ keepN K f ∧ keepN K f ≤ (f.bytes.length : Int) - f.sure := by
  unfold keepN
  split
  · omega
  · omega
/-- The state between two moves. -/
def CrLoop (D : Dk) (nt : Nat) (l : List Nm) (W1 : World) (vl vi : Value) (wr : World) : Prop :=
  ∃ (k : Nat) (la : Option Addr) (ln lc : Nat) (Lk : List Nm), k ≤ nt ∧ vl = .slice la ln lc ∧ vi = .int .i64 k ∧ Hid (Ns wr la ln lc Lk ∧ runN D.kept ((D.moves.take nt).take k) = some Lk ∧ runN Lk ((D.moves.take nt).drop k) = some l) ∧ Ext W1 wr

/-- The state between two files. -/
def CrFiles (w : World) (base : Nat) (fa2 : Option Addr) (fc2 : Nat) (na2 : Option Addr) (nn2 nc2 : Nat) (ka2 : Option Addr) (kn2 kc2 : Nat) (ma2 : Option Addr) (mn2 mc2 : Nat) (fl : Nat) (E : Dk) (K : List Kp) (vi : Value) (wr : World) : Prop :=
  ∃ (k : Nat) (FM : List Fh), k ≤ fl ∧ vi = .int .i64 k ∧ Hid (FM.length = fl) ∧ Hid (OD wr base ⟨fa2, fl, fc2, FM, na2, nn2, nc2, ka2, kn2, kc2, ma2, mn2, mc2⟩ { E with files := (E.files.take k).map (crashF K) ++ E.files.drop k }) ∧ Ext w wr ∧
    Hid (wr.heap[w.heap.size]? = some (.cells #[.int .i64 E.quota, .slice fa2 fl fc2, .slice na2 nn2 nc2, .slice ka2 kn2 kc2, .slice ma2 mn2 mc2, .int .i64 E.next] 29 (0, 0))) ∧ Hid (wr.heap[w.heap.size + 1]? = some (.cells #[.int .i64 0, .slice none 0 0, .slice none 0 0, .slice none 0 0, .slice none 0 0, .int .i64 0] 29 (0, 0)))

set_option maxRecDepth 100000 in
set_option maxHeartbeats 6400000 in
theorem crash_calls (D : Dk) (x : DV) (base : Nat) (mv : Int) (qa : Option Addr) (qn qc : Nat) (K : List Kp) (nt : Nat) (l : List Nm) (w : World) (hO : OD w base x D) (hG : Good D) (hbase : base ≤ w.heap.size) (hK : Row kcl 2 w qa qn qc K) (hnt : crashM mv D.moves.length = (nt : Int)) (hl : runN D.kept (D.moves.take nt) = some l) :
    Calls Try.prog 14 #[dkv D x, .int .i64 mv, .slice qa qn qc] w fun e w' => ∃ x2, e = .returned (.tuple #[dkv (crashD D l K) x2, .int .i64 0]) ∧ OD w' base x2 (crashD D l K) ∧ Ext w w' := by
  obtain ⟨hbk, hrk⟩ := two_blocks (Ext.refl ((w.alloc (.cells (dcs D x) 29)).alloc (.cells #[.int .i64 0, .slice none 0 0, .slice none 0 0, .slice none 0 0, .slice none 0 0, .int .i64 0] 29)))
  have hx0 : Ext w ((w.alloc (.cells (dcs D x) 29)).alloc (.cells #[.int .i64 0, .slice none 0 0, .slice none 0 0, .slice none 0 0, .slice none 0 0, .int .i64 0] 29)) := (Ext.alloc _ _).trans (Ext.alloc _ _)
  have hri := Lib.hid (fun W (h : Ext w W) => right_calls D x base W (hO.ext h) hG)
  have hll := len_run hl
  have hlr := rising_run hG.rising hl
  have hlz : ∀ y ∈ l, 0 ≤ y.2 ∧ y.2 ≤ 1099511627776 := fun y hy => by
    have h1 := run_ids hl y hy
    have h2 := hG.id_mem ((ids_sub D nt).subset h1)
    omega
  have hset := Lib.hid (fun W (h : Ext w W) (la : Option Addr) (ln lc : Nat) (hL : Ns W la ln lc l) => settled_calls D x base la ln lc l W (hO.ext h) hG (by have := h.size; omega) hL hlz (by
    have h1 : l.length = ln := Row.len nc_len (by decide) hL
    have h2 := hG.nk
    have h3 := hG.nm
    rw [List.length_take] at hll
    omega))
  have hntm : nt ≤ D.moves.length := by
    obtain ⟨q, h1, h2⟩ := crashM_nat mv D.moves.length
    omega
  have hkr := Lib.hid (slice_row hO.kept).1
  have hmr := Lib.hid (slice_row hO.moves).1
  have hmn : x.mn = D.moves.length := hO.fn.2.2.2.2
  have hmc := Lib.hid (Sl.le (slice_row hO.moves).1)
  have hGh := Lib.hid hG
  have hOh := Lib.hid hO
  have hKh := Lib.hid hK
  have hlh := Lib.hid hl
  have hmb := hG.nm
  have hkb := hG.nk
  clear hO hG hK hl hlz hll hlr
  unfold dkv at *
  unfold dcs at *
  obtain ⟨fa, fn, fc, fm, na, nn, nc0, ka, kn, kc, ma, mn, mc⟩ := x
  dsimp only at *
  subst hmn
  obtain ⟨W0, hW0⟩ : ∃ W0, (w.alloc (.cells #[.int .i64 D.quota, .slice fa fn fc, .slice na nn nc0, .slice ka kn kc, .slice ma D.moves.length mc, .int .i64 D.next] 29)).alloc (.cells #[.int .i64 0, .slice none 0 0, .slice none 0 0, .slice none 0 0, .slice none 0 0, .int .i64 0] 29) = W0 := ⟨_, rfl⟩
  rw [hW0] at hx0 hbk hrk
  obtain ⟨⟨y0, y1, y2, y3, y4, y5⟩, _⟩ := cells_six hbk
  go_enter Try.func14, Try.ntmps14
  go_wp2_with fail
  refine (hri.out _ hx0).mono ?_
  rintro e w1 ⟨rfl, hx1⟩
  clear hW0 y0 y1 y2 y3 y4 y5
  have hX1 := hx0.trans hx1
  have hb1 := (hx1.block _ (lt_of_block hbk)).trans hbk
  have hr1 := (hx1.block _ (lt_of_block hrk)).trans hrk
  obtain ⟨⟨y0, y1, y2, y3, y4, y5⟩, _⟩ := cells_six hb1
  unfold crashM at hnt
  have hntc : (nt : Int) ≤ (mc : Int) := by have := hmc.out; omega
  go_wp2_with fail
  have hnth := Lib.hid hnt
  clear hnt hx1 hbk hrk y0 y1 y2 y3 y4 y5 hri
  go_loopw [8, 31] (fun vl vi wr => CrLoop D nt l w1 vl vi wr) (fun _ vi _ => nt - (intOf vi).toNat)
  case atStart => exact ⟨0, ka, kn, kc, D.kept, Nat.zero_le _, rfl, rfl, ⟨hkr.out.ext hX1, rfl, by simpa using hlh.out⟩, Ext.refl _⟩
  case round =>
    obtain ⟨k, la, ln, lc, Lk, hk, rfl, rfl, hL, hX⟩ := hrel
    by_cases hlt : k < nt
    · obtain ⟨bm, om, rfl, hc⟩ := Row.at mcl_len hmr.out (by omega)
      obtain ⟨hLr, hL1, hL2⟩ := hL.out
      have hkM : k < D.moves.length := by omega
      have hkT : k < (D.moves.take nt).length := by rw [List.length_take]; omega
      obtain ⟨M1, hd, hrun1, hrun2⟩ := runN_step hL1 hL2 hkT
      have hge : (D.moves.take nt)[k] = D.moves[k] := List.getElem_take
      rw [hge] at hd
      have hLb := len_run hL1
      have hrisL := rising_run hGh.out.rising hL1
      have d0 := (hX1.trans hX).cell (hc k hkM 0 _ rfl)
      have d1 := (hX1.trans hX).cell (hc k hkM 1 _ rfl)
      have d2 := (hX1.trans hX).cell (hc k hkM 2 _ rfl)
      have d3 := (hX1.trans hX).cell (hc k hkM 3 _ rfl)
      obtain ⟨⟨kind, name, dst, id⟩, hx⟩ : ∃ y, D.moves[k] = y := ⟨_, rfl⟩
      rw [hx] at d0 d1 d2 d3 hd
      dsimp only at d0 d1 d2 d3
      rw [Nat.add_zero] at d0
      have hlnL : Lk.length = ln := Row.len nc_len (by decide) hLr
      have hln : ln ≤ 10000 := by
        rw [List.length_take, List.length_take] at hLb
        omega
      clear hlnL
      have hdn := Lib.hid (done_calls la ln lc Lk M1 kind name dst id (wr.alloc (.cells #[.int .i64 kind, .string ⟨name.toArray⟩, .string ⟨dst.toArray⟩, .int .i64 id] 66)) (hLr.ext (Ext.alloc wr _)) hrisL hln hd)
      have hrun := Lib.hid (And.intro hrun1 hrun2)
      have hlb := World.block_lt_of_cell? wr _ d0
      have hx2 := Ext.alloc wr (.cells #[.int .i64 kind, .string ⟨name.toArray⟩, .string ⟨dst.toArray⟩, .int .i64 id] 66)
      clear hc hx hL hLr hL1 hL2 hLb hrisL hd hge hrun1 hrun2
      go_wp2_with fail
      refine hdn.out.mono ?_
      rintro e w2 ⟨vl, rfl, hown, hx3⟩
      obtain ⟨la2, lc2, rfl, hr2⟩ := ORow.row hown
      have hr2h := Lib.hid hr2
      have hX2 := hX.trans (hx2.trans hx3)
      clear hown hr2 hdn
      go_wp2_with fail
      go_roundw
      case rel => exact ⟨k + 1, la2, M1.length, lc2, M1, by omega, rfl, by go_num, ⟨hr2h.out, hrun.out⟩, hX2⟩
      case measure => simp [intOf]; omega
    · obtain rfl : k = nt := by omega
      obtain ⟨wo, hwo⟩ : ∃ wo : World, wr = wo := ⟨_, rfl⟩
      rw [hwo] at hL hX ⊢
      clear hwo
      obtain ⟨hLr, _, hL2⟩ := hL.out
      rw [List.drop_of_length_le (by rw [List.length_take]; omega), runN, Option.some.injEq] at hL2
      subst hL2
      have hXo := hX1.trans hX
      have hst := Lib.hid (hset.out wo hXo la ln lc hLr)
      have hbo := (hX.block _ (lt_of_block hb1)).trans hb1
      have hro := (hX.block _ (lt_of_block hr1)).trans hr1
      obtain ⟨⟨y0, y1, y2, y3, y4, y5⟩, ⟨i0, i1, i2, i3, i4, i5⟩⟩ := cells_six hbo
      clear hL hLr hset
      go_wp2_with fail
      refine hst.out.mono ?_
      rintro e w3 ⟨⟨fa2, fn2, fc2, fm2, na2, nn2, nc2, ka2, kn2, kc2, ma2, mn2, mc2⟩, rfl, hO3, hgw, hx3⟩
      dsimp only
      have hX3 := hXo.trans hx3
      have hb3 := (hx3.block _ (lt_of_block hbo)).trans hbo
      have hr3 := (hx3.block _ (lt_of_block hro)).trans hro
      have hfl3 : fm2.length = fn2 := hO3.fn.2.1
      have hgwh : Hid (∀ k, (Value.slice fa2 fn2 fc2).ownBlock = some k → w.heap.size ≤ k) := fun k e => by have h1 := hgw k e; have h2 := hXo.size; omega
      clear hgw
      have hO3h := Lib.hid hO3
      clear y0 y1 y2 y3 y4 y5 i0 i1 i2 i3 i4 i5 hst hO3
      subst hfl3
      obtain ⟨⟨y0, y1, y2, y3, y4, y5⟩, ⟨i0, i1, i2, i3, i4, i5⟩⟩ := cells_six hb3
      have hlb3 := lt_of_block hb3
      go_upto_region 10 with fail
      have hsE : ∀ q, settleD D Lk = q → settleD D Lk = q := fun _ h => h
      obtain ⟨E, hE⟩ : ∃ E, settleD D Lk = E := ⟨_, rfl⟩
      rw [hE] at hO3h ⊢
      have hEh := Lib.hid hE
      have hEr : ∀ f ∈ E.files, 0 ≤ f.sure ∧ f.sure ≤ f.bytes.length ∧ f.bytes.length ≤ 1073741824 := by
        intro f hf
        rw [← hE] at hf
        have h1 := (List.mem_filter.1 hf).1
        have h2 := hGh.out.range f h1
        have h3 := mem_total h1
        have h4 := hGh.out.total
        have h5 := hGh.out.quota
        omega
      have hErh := Lib.hid hEr
      clear hsE hE hEr
      have hwp : put6 w3 w.heap.size (.int .i64 E.quota) (.slice fa2 fm2.length fc2) (.slice na2 nn2 nc2) (.slice ka2 kn2 kc2) (.slice ma2 mn2 mc2) (.int .i64 E.next) = (((((w3.setCell ⟨w.heap.size, 0, none⟩ (.int .i64 E.quota)).setCell ⟨w.heap.size, 1, none⟩ (.slice fa2 fm2.length fc2)).setCell ⟨w.heap.size, 2, none⟩ (.slice na2 nn2 nc2)).setCell ⟨w.heap.size, 3, none⟩ (.slice ka2 kn2 kc2)).setCell ⟨w.heap.size, 4, none⟩ (.slice ma2 mn2 mc2)).setCell ⟨w.heap.size, 5, none⟩ (.int .i64 E.next) := rfl
      have hgp := put6_grownBy w3 w.heap.size (.int .i64 E.quota) (.slice fa2 fm2.length fc2) (.slice na2 nn2 nc2) (.slice ka2 kn2 kc2) (.slice ma2 mn2 mc2) (.int .i64 E.next)
      have hb4 := put6_block hb3 (.int .i64 E.quota) (.slice fa2 fm2.length fc2) (.slice na2 nn2 nc2) (.slice ka2 kn2 kc2) (.slice ma2 mn2 mc2) (.int .i64 E.next)
      have hr4 := (hgp.block _ (lt_of_block hr3) (by simp)).trans hr3
      have hO4 := hO3h.out.beside hb3 hgp (by decide) (by decide) (by decide) (by decide)
      have hX4 := hX3.grown hgp (fun k e => by cases e; exact Nat.le_refl _)
      rw [← hwp]
      obtain ⟨w4, hw4⟩ : ∃ w4, put6 w3 w.heap.size (.int .i64 E.quota) (.slice fa2 fm2.length fc2) (.slice na2 nn2 nc2) (.slice ka2 kn2 kc2) (.slice ma2 mn2 mc2) (.int .i64 E.next) = w4 := ⟨_, rfl⟩
      rw [hw4] at hgp hb4 hr4 hO4 hX4 ⊢
      have hO4h := Lib.hid hO4
      clear hwp hw4 hgp hO4 hO3h y0 y1 y2 y3 y4 y5 i0 i1 i2 i3 i4 i5 hlb3
      obtain ⟨⟨y0, y1, y2, y3, y4, y5⟩, _⟩ := cells_six hb4
      have hKlen : K.length = qn := Row.len kcl_len (by decide) hKh.out
      have hfb2 : fm2.length ≤ 256 := by
        have h1 := congrArg List.length hO4h.out.fm
        rw [List.length_map] at h1
        have h2 : E.files.length ≤ D.files.length := by rw [← hEh.out]; exact List.length_filter_le _ _
        have h3 := hGh.out.nf
        dsimp only at h1
        omega
      have hb4h := Lib.hid hb4
      have hr4h := Lib.hid hr4
      clear hb4 hr4
      go_wp2_with fail
      clear y0 y1 y2 y3 y4 y5
      go_loopw [48] (fun vi wr => CrFiles w base fa2 fc2 na2 nn2 nc2 ka2 kn2 kc2 ma2 mn2 mc2 fm2.length E K vi wr) (fun vi _ => fm2.length - (intOf vi).toNat)
      case atStart => exact ⟨0, fm2, Nat.zero_le _, rfl, rfl, (by show OD _ _ _ _; simpa using hO4h.out), hX4, hb4h.out, hr4h.out⟩
      case round =>
        obtain ⟨k2, FM, hk2, rfl, hFl, hO, hX5, hb5, hr5⟩ := hrel
        clear hO4h hX4 hb4h hr4h
        by_cases hlt2 : k2 < fm2.length
        · have hkF : k2 < FM.length := by rw [hFl.out]; exact hlt2
          have hkE : k2 < E.files.length := by
            have h1 := congrArg List.length hO.out.fm
            simp only [List.length_map, List.length_append, List.length_take, List.length_drop] at h1
            have h2 := hFl.out
            omega
          have hyE : FM[k2].1 = E.files[k2] := by
            obtain ⟨h1, h2⟩ := fm_at hO.out hkF
            rw [h2]
            dsimp only
            rw [List.getElem_append_right (by simp; omega)]
            simp [Nat.min_eq_left (Nat.le_of_lt hkE)]
          have hby := hO.out.bytes FM[k2] (List.getElem_mem hkF)
          have hbl := bytes_len hO.out (List.getElem_mem hkF)
          have hfr := hErh.out E.files[k2] (List.getElem_mem hkE)
          rw [← hyE] at hfr
          obtain ⟨g, cap, cur, hfa2, hg⟩ := own_block hO.out.files (show 0 < FM.length by omega)
          dsimp only at hfa2
          injection hfa2 with hs1 hs2 hs3
          subst hs1 hs3
          clear hs2
          have hfo := hO.out.files
          dsimp only at hfo
          have d0 := own_cell fcl_len hfo k2 hkF 0 _ rfl
          have d1 := own_cell fcl_len hfo k2 hkF 1 _ rfl
          have d2 := own_cell fcl_len hfo k2 hkF 2 _ rfl
          rw [Nat.add_zero] at d0
          clear hfo
          obtain ⟨⟨⟨id, bys, su⟩, pa, pn, pc⟩, hy⟩ : ∃ y, FM[k2] = y := ⟨_, rfl⟩
          rw [hy] at d0 d1 d2 hby hbl hfr hyE
          dsimp only at d0 d1 d2 hby hbl hfr hyE
          obtain ⟨sn, rfl⟩ : ∃ sn : Nat, su = (sn : Int) := ⟨su.toNat, by omega⟩
          have hsp : sn ≤ pn := by omega
          have hpb : pn ≤ 1073741824 := by omega
          obtain ⟨wp, hwp⟩ : ∃ wp : World, wr = wp := ⟨_, rfl⟩
          rw [hwp] at hO hX5 hb5 hr5 hby d0 d1 d2 hg ⊢
          clear hwp
          have hx6 := Ext.alloc wp (.cells #[.int .i64 id, .slice pa pn pc, .int .i64 (sn : Int)] 58)
          have hf6 := heap_alloc_new wp (.cells #[.int .i64 id, .slice pa pn pc, .int .i64 (sn : Int)] 58)
          obtain ⟨BF, hBF⟩ : ∃ BF, wp.heap.size = BF := ⟨_, rfl⟩
          have hki := Lib.hid (kindex_calls qa qn qc K BF id (.slice pa pn pc) (.int .i64 (sn : Int)) (wp.alloc (.cells #[.int .i64 id, .slice pa pn pc, .int .i64 (sn : Int)] 58)) (hKh.out.ext (hX5.trans hx6)) (by rw [← hBF]; exact hf6))
          have hlb := World.block_lt_of_cell? wp _ d0
          have hbyh := Lib.hid hby
          have hblh := Lib.hid hbl
          have hyEh := Lib.hid hyE
          have hyh := Lib.hid hy
          have hgh := Lib.hid hg
          have hmf : ∀ (fn : Fn) (first cap : Array Value) (w : World), (Instr.makeFunc fn first cap).run Try.prog w = .ok (.func fn first cap) w := fun _ _ _ _ => rfl
          clear hby hbl hyE hy hg hfr
          go_wp2_with fail
          refine hki.out.mono ?_
          rintro e w7 ⟨hx7, hpost⟩
          rw [hBF] at hf6
          rcases hpost with ⟨rfl, hno⟩ | ⟨i, hi, rfl, hyes, hno⟩
          · have hkn : Hid (keepN K (⟨id, bys, (sn : Int)⟩ : Fl) = 0) := by
              show _ = _
              unfold keepN
              rw [List.find?_eq_none.2 (fun k hk => by have h1 := hno k hk; simp at h1 ⊢; exact h1)]
            have hf7 := (hx7.block _ (lt_of_block hf6)).trans hf6
            clear hno hki hmf
            have hf8 := hf7
            obtain ⟨f0, f1, f2⟩ := cells_three hf7
            have hlf7 := lt_of_block hf7
            have hmp : sn ≤ pn := by omega
            have hcl := Lib.hid (clone_calls pa sn pc (bys.take sn) w7 (by omega) ((hbyh.out.bs_at.ext (hx6.trans hx7)).take sn hmp))
            have hsc : ((sn : Nat) : Int) ≤ (pc : Int) := by
              have h1 := Sl.le hbyh.out.bs_at
              omega
            go_wp2_with fail
            refine hcl.out.mono ?_
            rintro e w8 ⟨vb, rfl, hob, hx8⟩
            have hml : (bys.take sn).length = sn := by
              rw [List.length_take]
              have h1 := hblh.out
              omega
            unfold Own at hob
            rw [hml] at hob
            obtain ⟨pb, cb, rfl, _⟩ := Sl.of_owns hob
            have hXp := (hx6.trans hx7).trans hx8
            have hf8' := (hx8.block _ (lt_of_block hf8)).trans hf8
            clear f0 f1 f2 hlf7 hf8 hf7
            obtain ⟨f0, f1, f2⟩ := cells_three hf8'
            have hz1 := frozen_row hf8' 1
            have hz2 := frozen_row hf8' 2
            have hlf8 := lt_of_block hf8'
            have hobh := Lib.hid hob
            clear hob hcl
            go_upto_region 19 with fail
            have hgp := grownBy_trans (put_grownBy w8 BF 1 (.slice pb sn cb)) (put_grownBy _ BF 2 (.int .i64 ((sn : Nat) : Int)))
            have hf9 := at_setCell (at_setCell hf8' 1 (.slice pb sn cb)) 2 (.int .i64 ((sn : Nat) : Int))
            simp only [List.setIfInBounds_toArray, List.set_cons_succ, List.set_cons_zero] at hf9
            have hb8 := (hXp.block _ (lt_of_block hb5.out)).trans hb5.out
            have hr8 := (hXp.block _ (lt_of_block hr5.out)).trans hr5.out
            have hg8 := (hXp.block _ (lt_of_block hgh.out)).trans hgh.out
            have hgBF : g < BF := by have := lt_of_block hgh.out; omega
            have hwBF : w.heap.size + 1 < BF := by have := lt_of_block hr5.out; omega
            have hb9 := (hgp.block _ (lt_of_block hb8) (by simp; omega)).trans hb8
            have hr9 := (hgp.block _ (lt_of_block hr8) (by simp; omega)).trans hr8
            have hg9 := (hgp.block _ (lt_of_block hg8) (by simp; omega)).trans hg8
            have hO9 := OD.past hO.out (hO.out.ext hXp) (by omega) hgp
            have hob9 := owns_beside hobh.out (owns_other hobh.out hf8' (by decide)) hgp
            have hX9 := (hX5.trans hXp).grown hgp (fun k e => by cases e; omega)
            obtain ⟨w9, hw9⟩ : ∃ w9, (w8.setCell ⟨BF, 1, none⟩ (.slice pb sn cb)).setCell ⟨BF, 2, none⟩ (.int .i64 ((sn : Nat) : Int)) = w9 := ⟨_, rfl⟩
            have hw9' := hw9
            (try simp only [Int.natCast_add] at hw9')
            rw [hw9] at hf9 hb9 hr9 hg9 hO9 hob9 hX9
            rw [hw9']
            have hO9h := Lib.hid hO9
            have hob9h := Lib.hid hob9
            clear hw9 hw9' hgp f0 f1 f2 hz1 hz2 hlf8 hf8' hb8 hr8 hg8 hO9 hob9
            obtain ⟨f0, f1, f2⟩ := cells_three hf9
            obtain ⟨⟨y0, y1, y2, y3, y4, y5⟩, _⟩ := cells_six hb9
            have e0 := own_cell fcl_len hO9h.out.files k2 hkF 0 _ rfl
            have e1 := own_cell fcl_len hO9h.out.files k2 hkF 1 _ rfl
            have e2 := own_cell fcl_len hO9h.out.files k2 hkF 2 _ rfl
            rw [Nat.add_zero] at e0
            rw [hyh.out] at e0 e1 e2
            dsimp only at e0 e1 e2
            have z0 := frozen_row hg9 (k2 * 3)
            have z1 := frozen_row hg9 (k2 * 3 + 1)
            have z2 := frozen_row hg9 (k2 * 3 + 2)
            have hlg9 := lt_of_block hg9
            have hlf9 := lt_of_block hf9
            have hFl2 := hFl.out
            have hset := orow_set3 (c := fc2) (w := w9) (by rw [hFl2]; exact hO9h.out.files) hkF ((⟨id, bys.take sn, ((sn : Nat) : Int)⟩ : Fl), (pb, sn, cb))
            rw [hFl2] at hset
            dsimp only at hset
            have hgr := put3_grownBy w9 g (k2 * 3) (k2 * 3 + 1) (k2 * 3 + 2) (.int .i64 id) (.slice pb sn cb) (.int .i64 ((sn : Nat) : Int))
            have hgbase : base ≤ g := owns_row hO9h.out.files g rfl
            have hcr : crashF K E.files[k2] = ⟨id, bys.take sn, ((sn : Nat) : Int)⟩ := by
              rw [← hyEh.out]
              unfold crashF
              dsimp only
              rw [hkn.out]
              simp <;> omega
            have hfin : OD (((w9.setCell ⟨g, k2 * 3, none⟩ (.int .i64 id)).setCell ⟨g, k2 * 3 + 1, none⟩ (.slice pb sn cb)).setCell ⟨g, k2 * 3 + 2, none⟩ (.int .i64 ((sn : Nat) : Int))) base ⟨some ⟨g, 0, none⟩, fm2.length, fc2, FM.set k2 ((⟨id, bys.take sn, ((sn : Nat) : Int)⟩ : Fl), (pb, sn, cb)), na2, nn2, nc2, ka2, kn2, kc2, ma2, mn2, mc2⟩ { E with files := (E.files.take (k2 + 1)).map (crashF K) ++ E.files.drop (k2 + 1) } := by
              refine ⟨hset, ?_, ?_, owns_beside hO9h.out.names (owns_other hO9h.out.names hg9 (by decide)) hgr, owns_beside hO9h.out.kept (owns_other hO9h.out.kept hg9 (by decide)) hgr, owns_beside hO9h.out.moves (owns_other hO9h.out.moves hg9 (by decide)) hgr⟩
              · have h1 := hO9h.out.fm
                dsimp only at h1 ⊢
                rw [List.map_set, h1, List.set_append_right _ _ (by simp; omega), List.length_map, List.length_take, Nat.min_eq_left (by omega), Nat.sub_self, List.drop_eq_getElem_cons hkE, List.set_cons_zero, List.take_succ_eq_append_getElem hkE, List.map_append, List.append_assoc, ← hcr]
                rfl
              · intro q hq
                rcases List.mem_or_eq_of_mem_set hq with hq | rfl
                · exact owns_beside (hO9h.out.bytes q hq) (owns_other (hO9h.out.bytes q hq) hg9 (by decide)) hgr
                · show World.ownsRow _ _ _ _ _ _ _
                  dsimp only
                  rw [hml]
                  exact owns_mono (owns_beside hob9h.out (owns_other hob9h.out hg9 (by decide)) hgr) (by have h1 := hX5.size; have h2 := (hx6.trans hx7).size; omega)
            have hXf := hX9.grown hgr (fun k e => by cases e; exact hgwh.out g rfl)
            have hbf := (hgr.block _ (lt_of_block hb9) (by simp; intro e; rw [← e, hb9] at hg9; cases hg9)).trans hb9
            have hrf := (hgr.block _ (lt_of_block hr9) (by simp; intro e; rw [← e, hr9] at hg9; cases hg9)).trans hr9
            have hfinh := Lib.hid hfin
            have hXfh := Lib.hid hXf
            have hbfh := Lib.hid hbf
            have hrfh := Lib.hid hrf
            clear hset hgr hcr hfin hXf hbf hrf
            have hFs : (FM.set k2 ((⟨id, bys.take sn, ((sn : Nat) : Int)⟩ : Fl), (pb, sn, cb))).length = fm2.length := by rw [List.length_set]; exact hFl2
            have hFsh := Lib.hid hFs
            clear hFs hFl2 hml
            go_wp2_with fail
            go_roundw
            case rel => exact ⟨k2 + 1, _, by omega, by go_num, hFsh.out, (by show OD _ _ _ _; simpa only [Int.natCast_add] using hfinh.out), (by simpa only [Int.natCast_add] using hXfh.out), (by show _ = _; simpa only [Int.natCast_add] using hbfh.out), (by show _ = _; simpa only [Int.natCast_add] using hrfh.out)⟩
            case measure => simp [intOf]; omega
          · have hKi : ∃ y, K[i] = y := ⟨_, rfl⟩
            obtain ⟨⟨kid, kb⟩, hKi⟩ := hKi
            rw [hKi] at hyes
            dsimp only at hyes
            obtain ⟨nn, hnn, hnp⟩ : ∃ nn : Nat, max 0 (min kb ((pn : Int) - (sn : Int))) = (nn : Int) ∧ nn ≤ pn - sn := ⟨(max 0 (min kb ((pn : Int) - (sn : Int)))).toNat, by omega, by omega⟩
            have hkn : Hid (keepN K (⟨id, bys, (sn : Int)⟩ : Fl) = (nn : Int)) := by
              show _ = _
              unfold keepN
              have h1 : K.find? (fun k => k.1 == id) = some (kid, kb) := by
                rw [← List.take_append_drop i K, List.find?_append, List.find?_eq_none.2 (fun k hk => by have h2 := hno k hk; simp at h2 ⊢; exact h2), List.drop_eq_getElem_cons hi, hKi, List.find?_cons, hyes]
                rfl
              dsimp only
              rw [h1]
              dsimp only
              rw [hblh.out]
              exact hnn
            obtain ⟨kb0, ko, hqa, hkc⟩ := Row.at kcl_len hKh.out (by omega)
            have c1 := (hX5.trans (hx6.trans hx7)).cell (hkc i hi 1 _ rfl)
            rw [hKi] at c1
            dsimp only at c1
            have hf7a := (hx7.block _ (lt_of_block hf6)).trans hf6
            have hws : IntKind.i64.wrap ((pn : Int) - (sn : Int)) = (pn : Int) - (sn : Int) := by rw [IntKind.wrap_i64]; omega
            have hwa : IntKind.i64.wrap ((sn : Int) + (nn : Int)) = (sn : Int) + (nn : Int) := by rw [IntKind.wrap_i64]; omega
            have hiq : (i : Int) < (qn : Int) := by omega
            obtain ⟨p0, p1, p2⟩ := cells_three hf7a
            obtain ⟨X, iX, f, hxS0, hSx0⟩ := letters (fun w' => Ext w7 w') w7 (Ext.refl w7)
            have hxS := Lib.hid hxS0
            have hSx := Lib.hid hSx0
            clear hxS0 hSx0
            have u0 : ∀ x', (f x').cell? ⟨kb0, ko + i * 2 + 1, none⟩ = some (.int .i64 kb) := fun x' => (hxS.out x').cell c1
            have u1 : ∀ x', (f x').cell? ⟨BF, 1, none⟩ = some (.slice pa pn pc) := fun x' => (hxS.out x').cell p1
            have u2 : ∀ x', (f x').cell? ⟨BF, 2, none⟩ = some (.int .i64 (sn : Int)) := fun x' => (hxS.out x').cell p2
            clear hno hki hmf hyes hKi hkc c1 p0 p1 p2
            subst hqa
            go_upto_region 16 with fail
            refine region_class (fun w' => ∃ x' : X, w' = f x') (by kernel_rfl) (by kernel_rfl) (hSx.out _ (Ext.drewN w7 1)) ?_
            repeat (go_big_quiet_step (fail))
            refine wpQuiet_nil ?_
            rintro _ ⟨x1, rfl⟩
            have hx9 := hxS.out x1
            obtain ⟨w7b, hw7b⟩ : ∃ w7b, f x1 = w7b := ⟨_, rfl⟩
            rw [hw7b] at hx9 ⊢
            have hf7 := (hx9.block _ (lt_of_block hf7a)).trans hf7a
            clear u0 u1 u2 hxS hSx hw7b iX hf7a hnn
            have hf8 := hf7
            obtain ⟨f0, f1, f2⟩ := cells_three hf7
            have hlf7 := lt_of_block hf7
            have hmp : (sn + nn) ≤ pn := by omega
            have hcl := Lib.hid (clone_calls pa (sn + nn) pc (bys.take (sn + nn)) w7b (by omega) ((hbyh.out.bs_at.ext ((hx6.trans hx7).trans hx9)).take (sn + nn) hmp))
            have hsc : (((sn + nn) : Nat) : Int) ≤ (pc : Int) := by
              have h1 := Sl.le hbyh.out.bs_at
              omega
            go_wp2_with fail
            refine hcl.out.mono ?_
            rintro e w8 ⟨vb, rfl, hob, hx8⟩
            have hml : (bys.take (sn + nn)).length = (sn + nn) := by
              rw [List.length_take]
              have h1 := hblh.out
              omega
            unfold Own at hob
            rw [hml] at hob
            obtain ⟨pb, cb, rfl, _⟩ := Sl.of_owns hob
            have hXp := ((hx6.trans hx7).trans hx9).trans hx8
            have hf8' := (hx8.block _ (lt_of_block hf8)).trans hf8
            clear f0 f1 f2 hlf7 hf8 hf7
            obtain ⟨f0, f1, f2⟩ := cells_three hf8'
            have hz1 := frozen_row hf8' 1
            have hz2 := frozen_row hf8' 2
            have hlf8 := lt_of_block hf8'
            have hobh := Lib.hid hob
            clear hob hcl
            go_upto_region 19 with fail
            have hgp := grownBy_trans (put_grownBy w8 BF 1 (.slice pb (sn + nn) cb)) (put_grownBy _ BF 2 (.int .i64 (((sn + nn) : Nat) : Int)))
            have hf9 := at_setCell (at_setCell hf8' 1 (.slice pb (sn + nn) cb)) 2 (.int .i64 (((sn + nn) : Nat) : Int))
            simp only [List.setIfInBounds_toArray, List.set_cons_succ, List.set_cons_zero] at hf9
            have hb8 := (hXp.block _ (lt_of_block hb5.out)).trans hb5.out
            have hr8 := (hXp.block _ (lt_of_block hr5.out)).trans hr5.out
            have hg8 := (hXp.block _ (lt_of_block hgh.out)).trans hgh.out
            have hgBF : g < BF := by have := lt_of_block hgh.out; omega
            have hwBF : w.heap.size + 1 < BF := by have := lt_of_block hr5.out; omega
            have hb9 := (hgp.block _ (lt_of_block hb8) (by simp; omega)).trans hb8
            have hr9 := (hgp.block _ (lt_of_block hr8) (by simp; omega)).trans hr8
            have hg9 := (hgp.block _ (lt_of_block hg8) (by simp; omega)).trans hg8
            have hO9 := OD.past hO.out (hO.out.ext hXp) (by omega) hgp
            have hob9 := owns_beside hobh.out (owns_other hobh.out hf8' (by decide)) hgp
            have hX9 := (hX5.trans hXp).grown hgp (fun k e => by cases e; omega)
            obtain ⟨w9, hw9⟩ : ∃ w9, (w8.setCell ⟨BF, 1, none⟩ (.slice pb (sn + nn) cb)).setCell ⟨BF, 2, none⟩ (.int .i64 (((sn + nn) : Nat) : Int)) = w9 := ⟨_, rfl⟩
            have hw9' := hw9
            (try simp only [Int.natCast_add] at hw9')
            rw [hw9] at hf9 hb9 hr9 hg9 hO9 hob9 hX9
            rw [hw9']
            have hO9h := Lib.hid hO9
            have hob9h := Lib.hid hob9
            clear hw9 hw9' hgp f0 f1 f2 hz1 hz2 hlf8 hf8' hb8 hr8 hg8 hO9 hob9
            obtain ⟨f0, f1, f2⟩ := cells_three hf9
            obtain ⟨⟨y0, y1, y2, y3, y4, y5⟩, _⟩ := cells_six hb9
            have e0 := own_cell fcl_len hO9h.out.files k2 hkF 0 _ rfl
            have e1 := own_cell fcl_len hO9h.out.files k2 hkF 1 _ rfl
            have e2 := own_cell fcl_len hO9h.out.files k2 hkF 2 _ rfl
            rw [Nat.add_zero] at e0
            rw [hyh.out] at e0 e1 e2
            dsimp only at e0 e1 e2
            have z0 := frozen_row hg9 (k2 * 3)
            have z1 := frozen_row hg9 (k2 * 3 + 1)
            have z2 := frozen_row hg9 (k2 * 3 + 2)
            have hlg9 := lt_of_block hg9
            have hlf9 := lt_of_block hf9
            have hFl2 := hFl.out
            have hset := orow_set3 (c := fc2) (w := w9) (by rw [hFl2]; exact hO9h.out.files) hkF ((⟨id, bys.take (sn + nn), (((sn + nn) : Nat) : Int)⟩ : Fl), (pb, (sn + nn), cb))
            rw [hFl2] at hset
            dsimp only at hset
            have hgr := put3_grownBy w9 g (k2 * 3) (k2 * 3 + 1) (k2 * 3 + 2) (.int .i64 id) (.slice pb (sn + nn) cb) (.int .i64 (((sn + nn) : Nat) : Int))
            have hgbase : base ≤ g := owns_row hO9h.out.files g rfl
            have hcr : crashF K E.files[k2] = ⟨id, bys.take (sn + nn), (((sn + nn) : Nat) : Int)⟩ := by
              rw [← hyEh.out]
              unfold crashF
              dsimp only
              rw [hkn.out]
              simp <;> omega
            have hfin : OD (((w9.setCell ⟨g, k2 * 3, none⟩ (.int .i64 id)).setCell ⟨g, k2 * 3 + 1, none⟩ (.slice pb (sn + nn) cb)).setCell ⟨g, k2 * 3 + 2, none⟩ (.int .i64 (((sn + nn) : Nat) : Int))) base ⟨some ⟨g, 0, none⟩, fm2.length, fc2, FM.set k2 ((⟨id, bys.take (sn + nn), (((sn + nn) : Nat) : Int)⟩ : Fl), (pb, (sn + nn), cb)), na2, nn2, nc2, ka2, kn2, kc2, ma2, mn2, mc2⟩ { E with files := (E.files.take (k2 + 1)).map (crashF K) ++ E.files.drop (k2 + 1) } := by
              refine ⟨hset, ?_, ?_, owns_beside hO9h.out.names (owns_other hO9h.out.names hg9 (by decide)) hgr, owns_beside hO9h.out.kept (owns_other hO9h.out.kept hg9 (by decide)) hgr, owns_beside hO9h.out.moves (owns_other hO9h.out.moves hg9 (by decide)) hgr⟩
              · have h1 := hO9h.out.fm
                dsimp only at h1 ⊢
                rw [List.map_set, h1, List.set_append_right _ _ (by simp; omega), List.length_map, List.length_take, Nat.min_eq_left (by omega), Nat.sub_self, List.drop_eq_getElem_cons hkE, List.set_cons_zero, List.take_succ_eq_append_getElem hkE, List.map_append, List.append_assoc, ← hcr]
                rfl
              · intro q hq
                rcases List.mem_or_eq_of_mem_set hq with hq | rfl
                · exact owns_beside (hO9h.out.bytes q hq) (owns_other (hO9h.out.bytes q hq) hg9 (by decide)) hgr
                · show World.ownsRow _ _ _ _ _ _ _
                  dsimp only
                  rw [hml]
                  exact owns_mono (owns_beside hob9h.out (owns_other hob9h.out hg9 (by decide)) hgr) (by have h1 := hX5.size; have h2 := ((hx6.trans hx7).trans hx9).size; omega)
            have hXf := hX9.grown hgr (fun k e => by cases e; exact hgwh.out g rfl)
            have hbf := (hgr.block _ (lt_of_block hb9) (by simp; intro e; rw [← e, hb9] at hg9; cases hg9)).trans hb9
            have hrf := (hgr.block _ (lt_of_block hr9) (by simp; intro e; rw [← e, hr9] at hg9; cases hg9)).trans hr9
            have hfinh := Lib.hid hfin
            have hXfh := Lib.hid hXf
            have hbfh := Lib.hid hbf
            have hrfh := Lib.hid hrf
            clear hset hgr hcr hfin hXf hbf hrf
            have hFs : (FM.set k2 ((⟨id, bys.take (sn + nn), (((sn + nn) : Nat) : Int)⟩ : Fl), (pb, (sn + nn), cb))).length = fm2.length := by rw [List.length_set]; exact hFl2
            have hFsh := Lib.hid hFs
            clear hFs hFl2 hml
            go_wp2_with fail
            go_roundw
            case rel => exact ⟨k2 + 1, _, by omega, by go_num, hFsh.out, (by show OD _ _ _ _; simpa only [Int.natCast_add] using hfinh.out), (by simpa only [Int.natCast_add] using hXfh.out), (by show _ = _; simpa only [Int.natCast_add] using hbfh.out), (by show _ = _; simpa only [Int.natCast_add] using hrfh.out)⟩
            case measure => simp [intOf]; omega
        · obtain rfl : k2 = fm2.length := by omega
          obtain ⟨wo2, hwo2⟩ : ∃ wo2 : World, wr = wo2 := ⟨_, rfl⟩
          rw [hwo2] at hO hX5 hb5 hr5 ⊢
          clear hwo2
          obtain ⟨⟨y0, y1, y2, y3, y4, y5⟩, _⟩ := cells_six hb5.out
          have hr5' := hr5.out
          obtain ⟨⟨s0, s1, s2, s3, s4, s5⟩, ⟨g0, g1, g2, g3, g4, g5⟩⟩ := cells_six hr5'
          have hlr5 := lt_of_block hr5'
          go_wp2_with fail
          have hwq : put6 wo2 (w.heap.size + 1) (.int .i64 E.quota) (.slice fa2 fm2.length fc2) (.slice na2 nn2 nc2) (.slice ka2 kn2 kc2) (.slice ma2 mn2 mc2) (.int .i64 E.next) = ((((((wo2.setCell ⟨w.heap.size + 1, 0, none⟩ (.int .i64 E.quota)).setCell ⟨w.heap.size + 1, 1, none⟩ (.slice fa2 fm2.length fc2)).setCell ⟨w.heap.size + 1, 2, none⟩ (.slice na2 nn2 nc2)).setCell ⟨w.heap.size + 1, 3, none⟩ (.slice ka2 kn2 kc2)).setCell ⟨w.heap.size + 1, 4, none⟩ (.slice ma2 mn2 mc2)).setCell ⟨w.heap.size + 1, 5, none⟩ (.int .i64 E.next)) := rfl
          have hgq := put6_grownBy wo2 (w.heap.size + 1) (.int .i64 E.quota) (.slice fa2 fm2.length fc2) (.slice na2 nn2 nc2) (.slice ka2 kn2 kc2) (.slice ma2 mn2 mc2) (.int .i64 E.next)
          have hhq := put6_block hr5' (.int .i64 E.quota) (.slice fa2 fm2.length fc2) (.slice na2 nn2 nc2) (.slice ka2 kn2 kc2) (.slice ma2 mn2 mc2) (.int .i64 E.next)
          rw [← hwq]
          obtain ⟨wq, hwqe⟩ : ∃ wq, put6 wo2 (w.heap.size + 1) (.int .i64 E.quota) (.slice fa2 fm2.length fc2) (.slice na2 nn2 nc2) (.slice ka2 kn2 kc2) (.slice ma2 mn2 mc2) (.int .i64 E.next) = wq := ⟨_, rfl⟩
          rw [hwqe] at hgq hhq ⊢
          obtain ⟨⟨q0, q1, q2, q3, q4, q5⟩, _⟩ := cells_six hhq
          refine bodyPost_ret (v := .tuple #[.agg #[.int .i64 E.quota, .slice fa2 fm2.length fc2, .slice na2 nn2 nc2, .slice ka2 kn2 kc2, .slice ma2 mn2 mc2, .int .i64 E.next], .int .i64 0]) (by simp [results, Try.results14, go_sem, q0, q1, q2, q3, q4, q5]) rfl ?_
          have hXq := hX5.grown hgq (fun k e => by cases e; omega)
          have hEl : E.files.length = fm2.length := by
            have h1 := congrArg List.length hO.out.fm
            simp only [List.length_map, List.length_append, List.length_take, List.length_drop] at h1
            have h2 := hFl.out
            omega
          have hOE : Hid (OD wo2 base ⟨fa2, fm2.length, fc2, FM, na2, nn2, nc2, ka2, kn2, kc2, ma2, mn2, mc2⟩ (crashD D Lk K)) := by
            have h1 := hO.out
            rw [← hEl, List.take_length, List.drop_length, List.append_nil] at h1
            have h2 : crashD D Lk K = { E with files := E.files.map (crashF K) } := by unfold crashD; rw [hEh.out]
            show OD _ _ _ _
            rw [h2, ← hEl]
            exact h1
          have hqE : (crashD D Lk K).quota = E.quota := by unfold crashD; rw [hEh.out]
          have hnE : (crashD D Lk K).next = E.next := by unfold crashD; rw [hEh.out]
          refine ⟨⟨fa2, fm2.length, fc2, FM, na2, nn2, nc2, ka2, kn2, kc2, ma2, mn2, mc2⟩, ?_, hOE.out.beside hr5' hgq (by decide) (by decide) (by decide) (by decide), hXq⟩
          rw [hqE, hnE]
end Go.Proofs.Ytponbponacdhkaa
