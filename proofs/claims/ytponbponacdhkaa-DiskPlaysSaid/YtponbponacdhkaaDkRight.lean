/-
  Layer 6's contracts: is it a disk as it must be? (where it is)
-/
import Derived.Test.YtponbponacdhkaaDkUsed
namespace Go.Proofs.Ytponbponacdhkaa
open Go.RowKit

theorem runN_take {M M' : List Nm} : ∀ {L : List Mv}, runN M L = some M' → ∀ k, ∃ Mk, runN M (L.take k) = some Mk ∧ runN Mk (L.drop k) = some M'
  | [], h, k => ⟨M, by simp [runN], by simpa using h⟩
  | m :: r, h, 0 => ⟨M, by simp [runN], by simpa using h⟩
  | m :: r, h, k + 1 => by
    unfold runN at h
    cases hd : doneN M m with
    | none => rw [hd] at h; cases h
    | some M1 =>
      rw [hd] at h
      obtain ⟨Mk, h1, h2⟩ := runN_take (M := M1) (M' := M') (L := r) (by simpa using h) k
      exact ⟨Mk, by rw [List.take_succ_cons, runN, hd]; simpa using h1, by simpa using h2⟩
theorem runN_step {M Mk M' : List Nm} {L : List Mv} {k : Nat} (h1 : runN M (L.take k) = some Mk) (h2 : runN Mk (L.drop k) = some M') (hk : k < L.length) : ∃ M1, doneN Mk L[k] = some M1 ∧ runN M (L.take (k + 1)) = some M1 ∧ runN M1 (L.drop (k + 1)) = some M' := by
  rw [List.drop_eq_getElem_cons hk, runN] at h2
  cases hd : doneN Mk L[k] with
  | none => rw [hd] at h2; cases h2
  | some M1 =>
    rw [hd] at h2
    refine ⟨M1, rfl, ?_, by simpa using h2⟩
    have happ : ∀ (A : List Mv) (N : List Nm), runN N A = some Mk → runN N (A ++ [L[k]]) = some M1 := by
      intro A
      induction A with
      | nil => intro N hN; simp only [runN, Option.some.injEq] at hN; subst hN; simp [runN, hd]
      | cons m A ih =>
        intro N hN
        rw [List.cons_append, runN]
        rw [runN] at hN
        cases hq : doneN N m with
        | none => rw [hq] at hN; cases hN
        | some N1 => rw [hq] at hN; exact ih N1 (by simpa using hN)
    rw [List.take_succ_eq_append_getElem hk]
    exact happ _ _ h1
theorem rising_run {M : List Nm} (hM : Rising M) : ∀ {L : List Mv} {M' : List Nm}, runN M L = some M' → Rising M'
  | [], M', h => by simp only [runN, Option.some.injEq] at h; subst h; exact hM
  | m :: r, M', h => by
    unfold runN at h
    cases hd : doneN M m with
    | none => rw [hd] at h; cases h
    | some M1 => rw [hd] at h; exact rising_run (rising_done hM hd) (by simpa using h)
theorem len_insN (s : List UInt8) (id : Int) : ∀ M : List Nm, (insN s id M).length = M.length + 1
  | [] => rfl
  | x :: r => by
    rw [insN]
    split
    · rw [List.length_cons, len_insN s id r, List.length_cons]
    · rfl
theorem len_dropN (s : List UInt8) (M : List Nm) : (dropN s M).length ≤ M.length := List.length_filter_le _ _
theorem len_done {M M' : List Nm} {m : Mv} (hd : doneN M m = some M') : M'.length ≤ M.length + 1 := by
  unfold doneN at hd
  split at hd
  · cases hd
  · split at hd
    · split at hd
      · cases hd
      · cases hd; rw [len_insN]; omega
    · split at hd
      · split at hd
        · cases hd
        · cases hd; have := len_dropN m.name M; omega
      · split at hd
        · split at hd
          · cases hd
          · split at hd
            · cases hd
            · cases hd
              rw [len_insN]
              have h1 := len_dropN m.name M
              have h2 := len_dropN m.dst (dropN m.name M)
              omega
        · cases hd
theorem len_run {M : List Nm} : ∀ {L : List Mv} {M' : List Nm}, runN M L = some M' → M'.length ≤ M.length + L.length
  | [], M', h => by simp only [runN, Option.some.injEq] at h; subst h; simp
  | m :: r, M', h => by
    unfold runN at h
    cases hd : doneN M m with
    | none => rw [hd] at h; cases h
    | some M1 =>
      rw [hd] at h
      have h1 := len_run (M := M1) (L := r) (M' := M') (by simpa using h)
      have h2 := len_done hd
      rw [List.length_cons]
      omega
theorem addI_take (L : List Mv) (k : Nat) (hk : k < L.length) : addI (L.take (k + 1)) = addI (L.take k) ++ (if L[k].kind = 1 then [L[k].id] else []) := by
  rw [List.take_succ_eq_append_getElem hk]
  unfold addI
  rw [List.filter_append, List.map_append]
  by_cases h : L[k].kind = 1
  · simp [h]
  · simp [h]
theorem addI_sub (L : List Mv) (k : Nat) : (addI (L.take k)).Sublist (addI L) := ((List.take_sublist k L).filter _).map _
theorem ids_sub (D : Dk) (k : Nat) : (D.kept.map (·.2) ++ addI (D.moves.take k)).Sublist (ids D) := (List.Sublist.refl _).append (addI_sub D.moves k)

/-- The state between two moves. -/
def RightLoop (D : Dk) (mn : Nat) (bx : Obj) (w : World) (b : Nat) (vl vi : Value) (wr : World) : Prop :=
  ∃ (k : Nat) (la : Option Addr) (ln lc : Nat) (Lk : List Nm), k ≤ mn ∧ vl = .slice la ln lc ∧ vi = .int .i64 k ∧ Hid (Ns wr la ln lc Lk ∧ runN D.kept (D.moves.take k) = some Lk ∧ runN Lk (D.moves.drop k) = some D.names) ∧ Hid (Met wr b (D.kept.map (·.2) ++ addI (D.moves.take k))) ∧ Ext w wr ∧ Hid (wr.heap[w.heap.size]? = some bx)
theorem Row.past_map {α : Type} {enc : α → List Value} {s : Nat} {w w' : World} {a : Option Addr} {n c : Nat} {l : List α} {b : Nat} {met : List Int} (h : Row enc s w a n c l) (hm : Met w b met) (hg : w.grownBy w' (some b)) : Row enc s w' a n c l :=
  ⟨Sl.len h, Sl.le h, Sl.max h, Sl.nil h, fun hn => by
    obtain ⟨b2, o, ha, hc⟩ := Sl.at_ h hn
    refine ⟨b2, o, ha, fun i hi => ?_⟩
    have hlt := World.block_lt_of_cell? w _ (hc i hi)
    refine (World.cell?_of_block (a := ⟨b2, o + i, none⟩) (hg.block b2 hlt (fun e => ?_))).trans (hc i hi)
    obtain ⟨es, clock, hb⟩ := hm.block
    have h1 := hc i hi
    cases e
    simp [World.cell?, hb] at h1⟩

set_option maxRecDepth 100000 in
set_option maxHeartbeats 6400000 in
theorem right_calls (D : Dk) (x : DV) (base : Nat) (w : World) (hO : OD w base x D) (hG : Good D) :
    Calls Try.prog 19 #[dkv D x] w fun e w' => e = .returned (.bool true) ∧ Ext w w' := by
  obtain ⟨hf1, hf2, hf3, hk1, hk2, hk3, hm1, hm2, hm3⟩ : x.fm.length ≤ x.fn ∧ x.fn ≤ x.fm.length ∧ x.fn ≤ 256 ∧ x.kn ≤ D.kept.length ∧ D.kept.length ≤ x.kn ∧ x.kn ≤ 256 ∧ x.mn ≤ D.moves.length ∧ D.moves.length ≤ x.mn ∧ x.mn ≤ 5000 := by
    have h1 := hO.fn
    have h2 := hG.nf
    have h3 := hG.nk
    have h4 := hG.nm
    omega
  have hx0 := Ext.alloc w (.cells (dcs D x) 29)
  have hb0 := heap_alloc_new w (.cells (dcs D x) 29)
  have hOh := Lib.hid hO
  have hGh := Lib.hid hG
  have g1 : decide (D.quota < 0) = false := decide_eq_false (by have := hG.quota; omega)
  have g2 : decide (1073741824 < D.quota) = false := decide_eq_false (by have := hG.quota; omega)
  have g3 : decide (D.next < 1) = false := decide_eq_false (by have := hG.next; omega)
  have g4 : decide (1099511627776 < D.next) = false := decide_eq_false (by have := hG.next; omega)
  have g5 : decide ((256 : Int) < (x.fn : Int)) = false := decide_eq_false (by omega)
  have g6 : decide ((256 : Int) < (x.kn : Int)) = false := decide_eq_false (by omega)
  have hkr := Lib.hid (slice_row hO.kept).1
  have hli := Lib.hid (fun W (h : Ext w W) => listed_calls x.ka x.kn x.kc D.kept W (hkr.out.ext h) hG.rising hG.valid (hG.nodup.sublist (by unfold ids; exact List.sublist_append_left _ _)) (fun y hy => by
    have h1 := hG.id_mem (z := y.2) (by unfold ids; exact List.mem_append_left _ (List.mem_map_of_mem hy))
    omega) (by omega))
  have hfi := Lib.hid (fun W (h : Ext w W) => filed_calls D x base W (hO.ext h) hG)
  have hus := Lib.hid (fun W (h : Ext w W) => used_calls D x base W (hO.ext h) hG)
  have hmk := @run_makeMap Try.prog
  clear hO hG
  unfold dkv at *
  unfold dcs at *
  have hft := Lib.hid hOh.out.fn
  have hmr := Lib.hid (slice_row hOh.out.moves).1
  have hfr := Lib.hid (fun (hn : 0 < x.fn) => files_at hOh.out hn)
  have hfq := Lib.hid hOh.out.fm
  have hnr := Lib.hid (slice_row hOh.out.names).1
  clear hOh
  obtain ⟨fa, fn, fc, fm, na, nn, nc0, ka, kn, kc, ma, mn, mc⟩ := x
  dsimp only at *
  obtain ⟨W0, hW0⟩ : ∃ W0, w.alloc (.cells #[.int .i64 D.quota, .slice fa fn fc, .slice na nn nc0, .slice ka kn kc, .slice ma mn mc, .int .i64 D.next] 29) = W0 := ⟨_, rfl⟩
  rw [hW0] at hx0 hb0
  obtain ⟨⟨y0, y1, y2, y3, y4, y5⟩, _⟩ := cells_six hb0
  have hl0 := lt_of_block hb0
  go_enter Try.func19, Try.ntmps19
  go_wp2_with fail
  refine (hli.out _ hx0).mono ?_
  rintro e w1 ⟨rfl, hx1⟩
  clear hW0
  have hX1 := hx0.trans hx1
  replace hb0 := (hx1.block _ (lt_of_block hb0)).trans hb0
  clear y0 y1 y2 y3 y4 y5
  obtain ⟨⟨y0, y1, y2, y3, y4, y5⟩, _⟩ := cells_six hb0
  go_wp2_with fail
  refine (hfi.out _ hX1).mono ?_
  rintro e w2 ⟨rfl, hx2⟩
  have hX2 := hX1.trans hx2
  replace hb0 := (hx2.block _ (lt_of_block hb0)).trans hb0
  clear y0 y1 y2 y3 y4 y5
  obtain ⟨⟨y0, y1, y2, y3, y4, y5⟩, _⟩ := cells_six hb0
  have hm0 := Lib.hid (met_made w2)
  have hx3 := Ext.alloc w2 (.map #[] 0)
  obtain ⟨b, hbd⟩ : ∃ b, w2.heap.size = b := ⟨_, rfl⟩
  rw [hbd] at hm0
  have hbw : w.heap.size < b := by have := hX2.size; have := lt_of_block hb0; omega
  go_wp2_with fail
  obtain ⟨W3, hW3⟩ : ∃ W3, w2.alloc (.map #[] 0) = W3 := ⟨_, rfl⟩
  rw [hW3] at hm0 hx3
  rw [hW3]
  clear hW3 hbd hmk
  have hX3 := hX2.trans hx3
  replace hb0 := (hx3.block _ (lt_of_block hb0)).trans hb0
  have hb0h := Lib.hid hb0
  clear hb0 y0 y1 y2 y3 y4 y5 g1 g2 g3 g4 g5 g6 hx1 hx2 hx3 hX1 hX2 hx0 hli hfi
  go_loopw [57] (fun vi wr => ∃ k : Nat, k ≤ kn ∧ vi = .int .i64 k ∧ Met wr b ((D.kept.take k).map (·.2)) ∧ Ext w wr ∧ Hid (wr.heap[w.heap.size]? = some (.cells #[.int .i64 D.quota, .slice fa fn fc, .slice na nn nc0, .slice ka kn kc, .slice ma mn mc, .int .i64 D.next] 29 (0, 0)))) (fun vi _ => kn - (intOf vi).toNat)
  case atStart => exact ⟨0, Nat.zero_le _, rfl, hm0.out, hX3, hb0h.out⟩
  case round =>
    obtain ⟨k, hk, rfl, hM, hX, hB⟩ := hrel
    clear hX3 hm0 hb0h
    by_cases hlt : k < kn
    · obtain ⟨b0, o0, rfl, hc⟩ := Ns.at hkr.out (by omega)
      obtain ⟨wo, hwo⟩ : ∃ wo : World, wr = wo := ⟨_, rfl⟩
      rw [hwo] at hM hX hB ⊢
      clear hwo
      have hkK : k < D.kept.length := by omega
      have d0 := hX.cell (hc k hkK).1
      have d1 := hX.cell (hc k hkK).2
      have htk : (D.kept.take (k + 1)).map (·.2) = (D.kept.take k).map (·.2) ++ [D.kept[k].2] := by
        rw [List.take_succ_eq_append_getElem hkK, List.map_append]; rfl
      have hrg := hGh.out.id_mem (z := D.kept[k].2) (by unfold ids; exact List.mem_append_left _ (List.mem_map_of_mem (List.getElem_mem hkK)))
      have hml : ((D.kept.take k).map (·.2)).length < 1000000 := by rw [List.length_map, List.length_take]; omega
      obtain ⟨⟨s, z⟩, hx⟩ : ∃ x, D.kept[k] = x := ⟨_, rfl⟩
      rw [hx] at d0 d1 htk hrg
      dsimp only at d0 d1 htk hrg
      have hwf := wf_small z (by omega) hrg.2
      have hx1 := Ext.alloc wo (.cells #[.string ⟨s.toArray⟩, .int .i64 z] 81)
      obtain ⟨w5, hup, hM5, hg5⟩ := (hM.ext hx1).update z hwf hml
      rw [← htk] at hM5
      have hX5 := (hX.trans hx1).grown hg5 (fun k e => by cases e; omega)
      have hB5 := (hg5.block w.heap.size (by have := lt_of_block hB.out; simp; omega) (by simp; omega)).trans ((hx1.block _ (lt_of_block hB.out)).trans hB.out)
      have hlb := World.block_lt_of_cell? wo _ d0
      have hM5h := Lib.hid hM5
      have hB5h := Lib.hid hB5
      have hX5h := Lib.hid hX5
      clear hc hx hM htk hrg hml hwf hM5 hB5 hX5 hg5 hx1 hB
      go_wp2_with fail
      go_roundw
      case rel => exact ⟨k + 1, by omega, by go_num, hM5h.out, hX5h.out, hB5h.out⟩
      case measure => simp [intOf]; omega
    · obtain rfl : kn = k := by omega
      obtain ⟨wo, hwo⟩ : ∃ wo : World, wr = wo := ⟨_, rfl⟩
      rw [hwo] at hM hX hB ⊢
      clear hwo
      rw [List.take_of_length_le (by omega)] at hM
      obtain ⟨⟨y0, y1, y2, y3, y4, y5⟩, _⟩ := cells_six hB.out
      have hlB := lt_of_block hB.out
      have hMh := Lib.hid hM
      clear hM
      go_wp2_with fail
      have hB0 := hB
      clear hB y0 y1 y2 y3 y4 y5
      go_loopw [6, 70] (fun vl vi wr => RightLoop D mn (.cells #[.int .i64 D.quota, .slice fa fn fc, .slice na nn nc0, .slice ka kn kc, .slice ma mn mc, .int .i64 D.next] 29 (0, 0)) w b vl vi wr) (fun _ vi _ => mn - (intOf vi).toNat)
      case atStart => exact ⟨0, ka, kn, kc, D.kept, Nat.zero_le _, rfl, rfl, ⟨hkr.out.ext hX, rfl, by simpa using hGh.out.run⟩, (by show Met wo b _; simpa [addI] using hMh.out), hX, hB0.out⟩
      case round =>
        obtain ⟨k, la, ln, lc, Lk, hk', rfl, rfl, hL, hM, hX', hB⟩ := hrel
        clear hMh hB0 hX hlB
        by_cases hlt : k < mn
        · obtain ⟨bm, om, rfl, hc⟩ := Row.at mcl_len hmr.out (by omega)
          obtain ⟨wq, hwq⟩ : ∃ wq : World, wr = wq := ⟨_, rfl⟩
          rw [hwq] at hL hM hX' hB ⊢
          clear hwq
          have hkM : k < D.moves.length := by omega
          obtain ⟨hLr, hL1, hL2⟩ := hL.out
          obtain ⟨M1, hd, hrun⟩ := runN_step hL1 hL2 hkM
          have hLb := len_run hL1
          have hrisL := rising_run hGh.out.rising hL1
          have hadd := addI_take D.moves k hkM
          have hnd := hGh.out.nodup.sublist (ids_sub D (k + 1))
          have hlq : (D.kept.map (·.2) ++ addI (D.moves.take (k + 1))).length ≤ fn := by
            have h1 := (ids_sub D (k + 1)).length_le
            have h2 := hGh.out.ids_len
            have h3 := hft.out.1
            omega
          have hidr : D.moves[k].kind = 1 → 1 ≤ D.moves[k].id ∧ D.moves[k].id ≤ 1099511627776 := fun h => hGh.out.id_mem (by
            unfold ids addI
            refine List.mem_append_right _ (List.mem_map_of_mem ?_)
            rw [List.mem_filter]
            exact ⟨List.getElem_mem hkM, by simp [h]⟩)
          have d0 := hX'.cell (hc k hkM 0 _ rfl)
          have d1 := hX'.cell (hc k hkM 1 _ rfl)
          have d2 := hX'.cell (hc k hkM 2 _ rfl)
          have d3 := hX'.cell (hc k hkM 3 _ rfl)
          obtain ⟨⟨kind, name, dst, id⟩, hx⟩ : ∃ y, D.moves[k] = y := ⟨_, rfl⟩
          rw [hx] at d0 d1 d2 d3 hd hadd hidr
          dsimp only at d0 d1 d2 d3 hadd hidr
          rw [Nat.add_zero] at d0
          have hlnL : Lk.length = ln := Row.len nc_len (by decide) hLr
          have hln : ln ≤ 10000 := by
            rw [List.length_take] at hLb
            omega
          clear hlnL
          have hdn := Lib.hid (fun W (h : Ext (wq.alloc (.cells #[.int .i64 kind, .string ⟨name.toArray⟩, .string ⟨dst.toArray⟩, .int .i64 id] 66)) W) => done_calls la ln lc Lk M1 kind name dst id W (hLr.ext ((Ext.alloc wq _).trans h)) hrisL hln hd)
          have hM1h := Lib.hid (hM.out.ext (Ext.alloc wq (.cells #[.int .i64 kind, .string ⟨name.toArray⟩, .string ⟨dst.toArray⟩, .int .i64 id] 66)))
          have hndh := Lib.hid hnd
          have hrunh := Lib.hid hrun
          obtain ⟨lq, hlqe⟩ : ∃ lq, (D.kept.map (·.2) ++ addI (D.moves.take (k + 1))).length = lq := ⟨_, rfl⟩
          rw [hlqe] at hlq
          have hlqh := Lib.hid hlqe
          have hml : (D.kept.map (·.2) ++ addI (D.moves.take k)).length < 1000000 := by
            have h1 := (ids_sub D k).length_le
            have h2 := hGh.out.ids_len
            have h3 := hGh.out.nf
            omega
          have hgq : decide ((fn : Int) < (lq : Int)) = false := decide_eq_false (by omega)
          have hlb := World.block_lt_of_cell? wq _ d0
          have hx1 := Ext.alloc wq (.cells #[.int .i64 kind, .string ⟨name.toArray⟩, .string ⟨dst.toArray⟩, .int .i64 id] 66)
          have hMv := heap_alloc_new wq (.cells #[.int .i64 kind, .string ⟨name.toArray⟩, .string ⟨dst.toArray⟩, .int .i64 id] 66)
          have hB1 := (hx1.block _ (lt_of_block hB.out)).trans hB.out
          have hX1 := hX'.trans hx1
          obtain ⟨BM, hBM⟩ : ∃ BM, wq.heap.size = BM := ⟨_, rfl⟩
          obtain ⟨W1, hW1⟩ : ∃ W1, wq.alloc (.cells #[.int .i64 kind, .string ⟨name.toArray⟩, .string ⟨dst.toArray⟩, .int .i64 id] 66) = W1 := ⟨_, rfl⟩
          rw [hW1] at hdn hM1h hx1 hB1 hX1
          rw [hW1, hBM] at hMv
          clear hc hx hlqe hnd hrun hL hLr hL1 hL2 hLb hrisL hd hM hB
          obtain ⟨⟨l0, l1, l2, l3⟩, _⟩ := cells_four hMv
          have hlM0 := lt_of_block hMv
          by_cases hk1 : kind = 1
          · subst hk1
            have hidr2 := hidr rfl
            rw [if_pos rfl] at hadd
            have hadh := Lib.hid hadd
            have hwf := wf_small id (by omega) hidr2.2
            have hni : id ∉ D.kept.map (·.2) ++ addI (D.moves.take k) := by
              have h1 := hndh.out
              rw [hadd, ← List.append_assoc, List.nodup_append] at h1
              exact fun hm => h1.2.2 _ hm _ (by simp) rfl
            have hlk := hM1h.out.lookup id hwf
            rw [decide_eq_false hni] at hlk
            clear hadd hni hidr hidr2
            go_wp2_with fail
            refine (hdn.out _ (Ext.refl W1)).mono ?_
            rintro e w2 ⟨vl, rfl, hown, hx2⟩
            obtain ⟨la2, lc2, rfl, hr2⟩ := ORow.row hown
            have hr2h := Lib.hid hr2
            clear l0 l1 l2 l3
            have hB2 := (hx2.block _ (lt_of_block hB1)).trans hB1
            have hMv2 := (hx2.block _ (lt_of_block hMv)).trans hMv
            obtain ⟨⟨m0, m1, m2, m3⟩, _⟩ := cells_four hMv2
            obtain ⟨⟨y0, y1, y2, y3, y4, y5⟩, _⟩ := cells_six hB2
            have hlB := lt_of_block hB2
            have hlM := lt_of_block hMv2
            have hX2 := hX1.trans hx2
            obtain ⟨w5, hup, hM5, hg5⟩ := (hM1h.out.ext hx2).update id hwf hml
            have hM5' : Met w5 b (D.kept.map (·.2) ++ addI (D.moves.take (k + 1))) := by rw [hadh.out, ← List.append_assoc]; exact hM5
            have hB5 := (hg5.block w.heap.size (by omega) (by simp; omega)).trans hB2
            have hX5 := hX2.grown hg5 (fun k e => by cases e; omega)
            have hr5 : Ns w5 la2 M1.length lc2 M1 := Row.past_map hr2 (hM1h.out.ext hx2) hg5
            have hlen5 := hM5'.len hndh.out Try.underlying79
            have hr5h := Lib.hid hr5
            have hM5h := Lib.hid hM5'
            clear y0 y1 y2 y3 y4 y5
            obtain ⟨⟨y0, y1, y2, y3, y4, y5⟩, _⟩ := cells_six hB5
            rw [hlqh.out] at hlen5
            have hX5h := Lib.hid hX5
            have hB5h := Lib.hid hB5
            clear hr5 hM5 hM5' hX5 hB5 hg5 hown hr2 hx2 hB1 hB2 hMv hMv2
            go_wp2_with fail
            go_roundw
            case rel => exact ⟨k + 1, la2, M1.length, lc2, M1, by omega, rfl, by go_num, ⟨hr5h.out, hrunh.out⟩, hM5h.out, hX5h.out, hB5h.out⟩
            case measure => simp [intOf]; omega
          · have hkb : (kind == 1) = false := by simp [hk1]
            rw [if_neg hk1] at hadd
            have hadh := Lib.hid hadd
            clear hadd hidr
            go_wp2_with fail
            refine (hdn.out _ (Ext.refl W1)).mono ?_
            rintro e w2 ⟨vl, rfl, hown, hx2⟩
            obtain ⟨la2, lc2, rfl, hr2⟩ := ORow.row hown
            have hr2h := Lib.hid hr2
            clear l0 l1 l2 l3
            have hB2 := (hx2.block _ (lt_of_block hB1)).trans hB1
            have hMv2 := (hx2.block _ (lt_of_block hMv)).trans hMv
            obtain ⟨⟨m0, m1, m2, m3⟩, _⟩ := cells_four hMv2
            obtain ⟨⟨y0, y1, y2, y3, y4, y5⟩, _⟩ := cells_six hB2
            have hlB := lt_of_block hB2
            have hlM := lt_of_block hMv2
            have hX2 := hX1.trans hx2
            have hM5' : Met w2 b (D.kept.map (·.2) ++ addI (D.moves.take (k + 1))) := by rw [hadh.out, List.append_nil]; exact hM1h.out.ext hx2
            have hlen5 := hM5'.len hndh.out Try.underlying79
            have hM5h := Lib.hid hM5'
            rw [hlqh.out] at hlen5
            have hX5h := Lib.hid hX2
            have hB5h := Lib.hid hB2
            clear hM5' hown hr2 hx2 hB1 hMv hMv2 hX2 hB2
            go_wp2_with fail
            go_roundw
            case rel => exact ⟨k + 1, la2, M1.length, lc2, M1, by omega, rfl, by go_num, ⟨hr2h.out, hrunh.out⟩, hM5h.out, hX5h.out, hB5h.out⟩
            case measure => simp [intOf]; omega
        · obtain rfl : mn = k := by omega
          obtain ⟨wq, hwq⟩ : ∃ wq : World, wr = wq := ⟨_, rfl⟩
          rw [hwq] at hL hM hX' hB ⊢
          clear hwq
          obtain ⟨hLr, _, hL2⟩ := hL.out
          rw [List.drop_of_length_le (by omega), runN, Option.some.injEq] at hL2
          subst hL2
          have hM2 : Hid (Met wq b (ids D)) := by
            have h1 := hM.out
            rw [List.take_of_length_le (by omega)] at h1
            exact h1
          have hl1 : D.names.length = ln := Row.len nc_len (by decide) hLr
          obtain rfl : nn = ln := by have h1 := hft.out; omega
          have heq := Lib.hid (equal_calls la nn lc na nc0 D.names wq hLr (hnr.out.ext hX'))
          have hfnq : Hid ((ids D).length = fn) := by
            show _ = _
            rw [hGh.out.ids_len]
            exact hft.out.1.symm
          have hlen := Lib.hid (fun W (h : Ext wq W) (ty : TypeId) => (hM2.out.ext h).len hGh.out.nodup Try.underlying79 ty)
          rw [hfnq.out] at hlen
          obtain ⟨⟨y0, y1, y2, y3, y4, y5⟩, _⟩ := cells_six hB.out
          have hlB := lt_of_block hB.out
          have hlnn : Hid (D.names.length = nn) := hl1
          clear hL hM hLr hl1 hfnq
          go_wp2_with fail
          refine heq.out.mono ?_
          rintro e w6 ⟨rfl, hx6⟩
          have hlen6 := hlen.out w6 hx6
          have hB6 := (hx6.block _ hlB).trans hB.out
          have hX6 := hX'.trans hx6
          clear y0 y1 y2 y3 y4 y5 hlB
          obtain ⟨⟨y0, y1, y2, y3, y4, y5⟩, _⟩ := cells_six hB6
          have hlB := lt_of_block hB6
          have hM6 := Lib.hid (hM2.out.ext hx6)
          go_wp2_with fail
          clear hlen6
          go_loopw [120] (fun vi wr => ∃ k : Nat, k ≤ fn ∧ vi = .int .i64 k ∧ Ext w6 wr) (fun vi _ => fn - (intOf vi).toNat)
          case atStart => exact ⟨0, Nat.zero_le _, rfl, Ext.refl _⟩
          case round =>
            obtain ⟨k, hk3, rfl, hX9⟩ := hrel
            by_cases hlt3 : k < fn
            · obtain ⟨b0, o0, rfl, hc⟩ := hfr.out (by omega)
              obtain ⟨wp, hwp⟩ : ∃ wp : World, wr = wp := ⟨_, rfl⟩
              rw [hwp] at hX9 ⊢
              clear hwp
              have hkm : k < fm.length := by omega
              have hXw := hX6.trans hX9
              have d0 := hXw.cell (hc k hkm).1
              have d1 := hXw.cell (hc k hkm).2.1
              have d2 := hXw.cell (hc k hkm).2.2
              have hmem : fm[k].1 ∈ D.files := by rw [← hfq.out]; exact List.mem_map_of_mem (List.getElem_mem hkm)
              have hidm : fm[k].1.id ∈ ids D := by rw [hGh.out.perm.mem_iff]; exact List.mem_map_of_mem hmem
              have hrg := hGh.out.id_mem hidm
              obtain ⟨⟨⟨id, by0, su⟩, pa, pn, pc⟩, hx⟩ : ∃ y, fm[k] = y := ⟨_, rfl⟩
              rw [hx] at d0 d1 d2 hidm hrg
              dsimp only at d0 d1 d2 hidm hrg
              have hx1 := Ext.alloc wp (.cells #[.int .i64 id, .slice pa pn pc, .int .i64 su] 58)
              have hlk := (hM6.out.ext (hX9.trans hx1)).lookup id (wf_small id (by omega) hrg.2)
              rw [decide_eq_true hidm] at hlk
              have hlb := World.block_lt_of_cell? wp _ d0
              clear hc hx hmem hidm hrg
              go_wp2_with fail
              go_roundw
              case rel => exact ⟨k + 1, by omega, by go_num, hX9.trans hx1⟩
              case measure => simp [intOf]; omega
            · obtain rfl : fn = k := by omega
              obtain ⟨wp, hwp⟩ : ∃ wp : World, wr = wp := ⟨_, rfl⟩
              rw [hwp] at hX9 ⊢
              clear hwp y0 y1 y2 y3 y4 y5
              have hB7 := (hX9.block _ hlB).trans hB6
              obtain ⟨⟨y0, y1, y2, y3, y4, y5⟩, _⟩ := cells_six hB7
              have hX7 := hX6.trans hX9
              obtain ⟨tt, htt⟩ : ∃ tt, total D.files = tt := ⟨_, rfl⟩
              have htq : decide ((tt : Int) ≤ D.quota) = true := decide_eq_true (by rw [← htt]; exact hGh.out.total)
              rw [htt] at hus
              go_upto_region 34 with fail
              obtain ⟨X, iX, f, hxS0, hSx0⟩ := letters (fun w' => Ext wp w') wp (Ext.refl wp)
              have hxS := Lib.hid hxS0
              have hSx := Lib.hid hSx0
              clear hxS0 hSx0
              have u0 : ∀ x', (f x').cell? ⟨w.heap.size, 0, none⟩ = some (.int .i64 D.quota) := fun x' => (hxS.out x').cell y0
              have u1 : ∀ x', (f x').cell? ⟨w.heap.size, 1, none⟩ = some (.slice fa fn fc) := fun x' => (hxS.out x').cell y1
              have u2 : ∀ x', (f x').cell? ⟨w.heap.size, 2, none⟩ = some (.slice na nn nc0) := fun x' => (hxS.out x').cell y2
              have u3 : ∀ x', (f x').cell? ⟨w.heap.size, 3, none⟩ = some (.slice ka kn kc) := fun x' => (hxS.out x').cell y3
              have u4 : ∀ x', (f x').cell? ⟨w.heap.size, 4, none⟩ = some (.slice ma mn mc) := fun x' => (hxS.out x').cell y4
              have u5 : ∀ x', (f x').cell? ⟨w.heap.size, 5, none⟩ = some (.int .i64 D.next) := fun x' => (hxS.out x').cell y5
              have hk1 : Hid (∀ x', Calls Try.prog 20 #[.agg #[.int .i64 D.quota, .slice fa fn fc, .slice na nn nc0, .slice ka kn kc, .slice ma mn mc, .int .i64 D.next]] (f x') fun e w'' => e = .returned (.int .i64 (tt : Nat)) ∧ ∃ y, w'' = f y) := fun x' =>
                (hus.out (f x') (hX7.trans (hxS.out x'))).mono (fun e w'' ⟨he, hx2⟩ => ⟨he, hSx.out w'' ((hxS.out x').trans hx2)⟩)
              refine region_class (fun w' => ∃ x' : X, w' = f x') (by kernel_rfl) (by kernel_rfl) (hSx.out _ (Ext.drewN wp 1)) ?_
              repeat (go_big_quiet_step ((go_at_call 20; exact (hk1.out _))))
              refine wpQuiet_nil ?_
              rintro _ ⟨x1, rfl⟩
              have hx9 := hxS.out x1
              go_wp2_with fail
              go_ret
              exact ⟨rfl, hX7.trans hx9⟩
end Go.Proofs.Ytponbponacdhkaa
