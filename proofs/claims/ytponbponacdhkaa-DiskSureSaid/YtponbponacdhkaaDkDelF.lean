/-
  Layer 6's contracts: the files that go are taken out of a row of the call's own.
-/
import Derived.Test.YtponbponacdhkaaDkSettle1
namespace Go.Proofs.Ytponbponacdhkaa
open Go.RowKit

theorem ext_grown {w w1 w2 : World} {row : Option Nat} (h : w.grownBy w1 row) (hx : Ext w1 w2) : w.grownBy w2 row :=
  ⟨hx.os.trans h.os, hx.tape.trans h.tape, hx.output.trans h.output, Nat.le_trans h.size hx.size, fun k hk hne => (hx.block k (Nat.lt_of_lt_of_le hk h.size)).trans (h.block k hk hne)⟩
theorem ext_of_none {w w' : World} (h : w.grownBy w' none) : Ext w w' := ⟨h.os, h.tape, h.output, h.size, fun k hk => h.block k hk (by simp)⟩
theorem grown_of_ext {w w' : World} (h : Ext w w') (row : Option Nat) : w.grownBy w' row := ⟨h.os, h.tape, h.output, h.size, fun k hk _ => h.block k hk⟩
def keepF (met : List Int) (M : List Fh) : List Fh := M.filter fun y => !goes met y
theorem keepF_all {met : List Int} {M : List Fh} (h : ∀ y ∈ M, goes met y = false) : keepF met M = M := List.filter_eq_self.2 (fun y hy => by rw [h y hy]; rfl)
theorem keepF_snoc (met : List Int) (M : List Fh) (y : Fh) : keepF met (M ++ [y]) = if goes met y = true then keepF met M else keepF met M ++ [y] := by
  unfold keepF
  rw [List.filter_append]
  cases h : goes met y <;> simp [h]
/-- i are kept of the first j; what stands behind j is as it was. -/
structure DelI (M L : List Fh) (met : List Int) (i j : Nat) : Prop where
  len : L.length = M.length
  ij : i < j
  jn : j ≤ M.length
  kept : L.take i = keepF met (M.take j)
  rest : L.drop j = M.drop j
theorem DelI.at_j {M L : List Fh} {met : List Int} {i j : Nat} (h : DelI M L met i j) (hj : j < M.length) : ∃ hl : j < L.length, L[j] = M[j] := by
  have hl : j < L.length := by rw [h.len]; exact hj
  refine ⟨hl, ?_⟩
  have h1 := h.rest
  rw [List.drop_eq_getElem_cons hl, List.drop_eq_getElem_cons hj] at h1
  exact (List.cons.inj h1).1
theorem DelI.skip {M L : List Fh} {met : List Int} {i j : Nat} (h : DelI M L met i j) (hj : j < M.length) (hg : goes met M[j] = true) : DelI M L met i (j + 1) :=
  ⟨h.len, by have := h.ij; omega, by omega, by rw [List.take_succ_eq_append_getElem hj, keepF_snoc, if_pos hg]; exact h.kept, by
    have h1 := congrArg (List.drop 1) h.rest
    simpa [List.drop_drop] using h1⟩
theorem DelI.keep {M L : List Fh} {met : List Int} {i j : Nat} (h : DelI M L met i j) (hj : j < M.length) (hg : goes met M[j] = false) : DelI M (L.set i M[j]) met (i + 1) (j + 1) := by
  have hi : i < L.length := by have := h.ij; have := h.len; omega
  refine ⟨by rw [List.length_set]; exact h.len, by have := h.ij; omega, by omega, ?_, ?_⟩
  · rw [List.take_succ_eq_append_getElem hj, keepF_snoc, hg, if_neg (by simp), ← h.kept, List.take_succ_eq_append_getElem (by rw [List.length_set]; exact hi), List.getElem_set_self, List.take_set_of_le (Nat.le_refl _)]
  · have h1 := congrArg (List.drop 1) h.rest
    rw [List.drop_set_of_lt (by have := h.ij; omega)]
    simpa [List.drop_drop] using h1
theorem DelI.start {M : List Fh} {met : List Int} {i : Nat} (hi : i < M.length) (hg : goes met M[i] = true) (hno : ∀ y ∈ M.take i, goes met y = false) : DelI M M met i (i + 1) :=
  ⟨rfl, by omega, by omega, by rw [List.take_succ_eq_append_getElem hi, keepF_snoc, if_pos hg, keepF_all hno], rfl⟩
theorem zero_one (n : Nat) : ∀ u ∈ Builtin.zeroCells (Value.agg #[.int .i64 0, .slice none 0 0, .int .i64 0]).cells n, u.oneCell' = true := by
  intro u hu
  unfold Builtin.zeroCells at hu
  rw [Array.mem_map] at hu
  obtain ⟨i, _, rfl⟩ := hu
  have h3 : i % 3 < 3 := Nat.mod_lt _ (by decide)
  show ((#[.int .i64 0, .slice none 0 0, .int .i64 0] : Array Value)[i % 3]!).oneCell' = true
  match i % 3, h3 with
  | 0, _ | 1, _ | 2, _ => rfl
theorem zeroF (w : World) : (zeroValue 58).run Try.prog w = .ok (.agg #[.int .i64 0, .slice none 0 0, .int .i64 0]) w := by kernel_rfl
def DelLoop (w : World) (base g c : Nat) (M : List Fh) (met : List Int) (vi vj : Value) (wr : World) : Prop :=
  ∃ (i j : Nat) (L : List Fh), vi = .int .i64 i ∧ vj = .int .i64 j ∧ Hid (DelI M L met i j) ∧ Hid (ORow fcl 3 wr base 58 (.slice (some ⟨g, 0, none⟩) M.length c) L) ∧ w.grownBy wr (some g)

set_option maxRecDepth 100000 in
set_option maxHeartbeats 6400000 in
theorem delf_calls (base : Nat) (v : Value) (M : List Fh) (B b : Nat) (met : List Int) (w : World) (hv : ORow fcl 3 w base 58 v M) (hB : w.heap[B]? = some (.cells #[.map (some b)] 79 (0, 0))) (hM : Met w b met) (hz : ∀ y ∈ M, 0 ≤ y.1.id ∧ y.1.id ≤ 1099511627776) (hn : M.length ≤ 100000) :
    Calls Try.prog 48 #[v, .func (.func 49) #[] #[.pointer (some ⟨B, 0, none⟩)]] w fun e w' => ∃ v', e = .returned v' ∧ ORow fcl 3 w' base 58 v' (keepF met M) ∧ w.grownBy w' v.ownBlock := by
  obtain ⟨av, cv, rfl, hrow⟩ := ORow.row hv
  have hfi := Lib.hid (findex_calls av M.length cv M B b met w hrow hB hM hz hn)
  have hvh := Lib.hid hv
  have hBh := Lib.hid hB
  have hMh := Lib.hid hM
  have hzh := Lib.hid hz
  clear hv hB hM hz hrow
  go_enter Try.func48, Try.ntmps48
  go_wp2_with fail
  refine hfi.out.mono ?_
  rintro e w1 ⟨hx1, ⟨rfl, hno⟩ | ⟨i0, hi0, rfl, hgi, hno⟩⟩
  · have hnoh := Lib.hid hno
    clear hno hfi
    go_wp2_with fail
    go_ret
    exact ⟨_, rfl, by rw [keepF_all hnoh.out]; exact hvh.out.ext hx1, grown_of_ext hx1 _⟩
  · have hst := Lib.hid (DelI.start hi0 hgi hno)
    obtain ⟨g, cap, cur, hs, hg⟩ := own_block hvh.out (by omega)
    injection hs with hs1 hs2 hs3
    subst hs1 hs3
    have hgh := Lib.hid hg
    clear hgi hno hfi hg hs2
    have hne0 : ((i0 : Int) == -1) = false := by rw [beq_eq_false_iff_ne]; omega
    go_wp2_with fail
    go_loopw [5, 6] (fun vi vj wr => DelLoop w base g cv M met vi vj wr) (fun _ vj _ => M.length - (intOf vj).toNat)
    case atStart => exact ⟨i0, i0 + 1, M, rfl, by go_num, hst.out, hvh.out.ext hx1, grown_of_ext hx1 _⟩
    case round =>
      obtain ⟨i, j, L, rfl, rfl, hD, hR, hG⟩ := hrel
      clear hst
      by_cases hlt : j < M.length
      · obtain ⟨hjL, hLj⟩ := hD.out.at_j hlt
        have hij := hD.out.ij
        have hLl := hD.out.len
        have d0 := own_cell fcl_len hR.out j hjL 0 _ rfl
        have d1 := own_cell fcl_len hR.out j hjL 1 _ rfl
        have d2 := own_cell fcl_len hR.out j hjL 2 _ rfl
        rw [hLj] at d0 d1 d2
        rw [Nat.add_zero] at d0
        have hBne : B ≠ g := fun e => by
          have h1 := hBh.out
          rw [e, hgh.out] at h1
          cases h1
        have hbne : b ≠ g := fun e => by
          obtain ⟨es, clk, h1⟩ := hMh.out.block
          rw [e, hgh.out] at h1
          cases h1
        have hBr := (hG.block B (lt_of_block hBh.out) (by simp; omega)).trans hBh.out
        have hMr := hMh.out.kept hG (by simp; omega)
        have hzj := hzh.out M[j] (List.getElem_mem hlt)
        have hsk := Lib.hid (fun h => hD.out.skip hlt h)
        have hke := Lib.hid (fun h => hD.out.keep hlt h)
        obtain ⟨⟨⟨id, bys, su⟩, pa, pn, pc⟩, hy⟩ : ∃ y, M[j] = y := ⟨_, rfl⟩
        rw [hy] at d0 d1 d2 hzj hsk hke
        dsimp only at d0 d1 d2 hzj
        have hx2 := Ext.alloc wr (.cells #[.int .i64 id, .slice pa pn pc, .int .i64 su] 58)
        have hf2 := heap_alloc_new wr (.cells #[.int .i64 id, .slice pa pn pc, .int .i64 su] 58)
        have hcl := settled1_calls ((⟨id, bys, su⟩ : Fl), (pa, pn, pc)) B b met (wr.alloc (.cells #[.int .i64 id, .slice pa pn pc, .int .i64 su] 58)) ((hx2.block _ (lt_of_block hBr)).trans hBr) (hMr.ext hx2) hzj
        dsimp only at hcl
        have hlg := World.block_lt_of_cell? wr _ d0
        obtain ⟨BF, hBF⟩ : ∃ BF, wr.heap.size = BF := ⟨_, rfl⟩
        obtain ⟨w2, hw2⟩ : ∃ w2, wr.alloc (.cells #[.int .i64 id, .slice pa pn pc, .int .i64 su] 58) = w2 := ⟨_, rfl⟩
        rw [hw2] at hx2 hcl
        rw [hw2, hBF] at hf2
        obtain ⟨f0, f1, f2⟩ := cells_three hf2
        have hlf := lt_of_block hf2
        have hG2 := ext_grown hG hx2
        have hR2 := Lib.hid (hR.out.ext hx2)
        have hiL : i < L.length := by omega
        clear hy hLj hD hBr hMr hR hG hLl hBne hbne
        cases hq : goes met ((⟨id, bys, su⟩ : Fl), (pa, pn, pc)) with
        | true =>
          rw [hq] at hcl
          have hD2 := Lib.hid (hsk.out hq)
          clear hsk hke hq
          go_wp2_with fail
          refine hcl.mono ?_
          rintro e w3 ⟨rfl, hx3⟩
          clear hw2 hBF
          go_wp2_with fail
          go_roundw
          case rel => exact ⟨i, j + 1, L, rfl, by go_num, hD2.out, hR2.out.ext hx3, ext_grown hG2 hx3⟩
          case measure => simp [intOf]; omega
        | false =>
          rw [hq] at hcl
          have hD2 := Lib.hid (hke.out hq)
          clear hsk hke hq
          go_wp2_with fail
          refine hcl.mono ?_
          rintro e w3 ⟨rfl, hx3⟩
          clear hw2 hBF f0 f1 f2 hlf d0 d1 d2
          have hf3 := (hx3.block _ (lt_of_block hf2)).trans hf2
          have hR3 := Lib.hid (hR2.out.ext hx3)
          obtain ⟨f0, f1, f2⟩ := cells_three hf3
          have e0 := own_cell fcl_len hR3.out i hiL 0 _ rfl
          have e1 := own_cell fcl_len hR3.out i hiL 1 _ rfl
          have e2 := own_cell fcl_len hR3.out i hiL 2 _ rfl
          rw [Nat.add_zero] at e0
          obtain ⟨q0, q1, q2, hqq⟩ : ∃ q0 q1 q2, w3.cell? ⟨g, i * 3, none⟩ = some q0 ∧ w3.cell? ⟨g, i * 3 + 1, none⟩ = some q1 ∧ w3.cell? ⟨g, i * 3 + 2, none⟩ = some q2 := ⟨_, _, _, e0, e1, e2⟩
          obtain ⟨c0, c1, c2⟩ := hqq
          clear e0 e1 e2
          obtain ⟨cur3, hg3⟩ : ∃ cur3, w3.heap[g]? = some (.cells cur3 58 (0, 0)) := by
            have hlen0 : 0 < L.length := by omega
            obtain ⟨g', cap', cur', hs', hg'⟩ := own_block hR3.out hlen0
            injection hs' with h1 h2 h3
            cases h1
            exact ⟨cur', hg'⟩
          have z0 := frozen_row hg3 (i * 3)
          have z1 := frozen_row hg3 (i * 3 + 1)
          have z2 := frozen_row hg3 (i * 3 + 2)
          have hlg3 := lt_of_block hg3
          have hin : (i : Int) < (M.length : Int) := by omega
          have hG3 := ext_grown hG2 hx3
          have hlL : L.length = M.length := by
            have h1 := hD2.out.len
            rw [List.length_set] at h1
            exact h1
          have hgr := put3_grownBy w3 g (i * 3) (i * 3 + 1) (i * 3 + 2) (.int .i64 id) (.slice pa pn pc) (.int .i64 su)
          have hR4 := Lib.hid (orow_set3 (c := cv) (w := w3) (by rw [hlL]; exact hR3.out) hiL ((⟨id, bys, su⟩ : Fl), (pa, pn, pc)))
          rw [hlL] at hR4
          have hG4 := grownBy_trans hG3 hgr
          clear hlL
          go_wp2_with fail
          go_roundw
          case rel => exact ⟨i + 1, j + 1, _, by go_num, by go_num, hD2.out, hR4.out, hG4⟩
          case measure => simp [intOf]; omega
      · have hjn := hD.out.jn
        obtain rfl : j = M.length := by omega
        have hij := hD.out.ij
        have hke := hD.out.kept
        rw [List.take_length] at hke
        have hLl := hD.out.len
        obtain ⟨wo, hwo⟩ : ∃ wo : World, wr = wo := ⟨_, rfl⟩
        rw [hwo] at hR hG ⊢
        clear hwo
        obtain ⟨cur3, hb3, hg3, hnc3, hcm3, hcs3, htk3⟩ : ∃ cur3 : Array Value, base ≤ g ∧ wo.heap[g]? = some (.cells cur3 58 (0, 0)) ∧ M.length ≤ cv ∧ cv ≤ maxLen ∧ cur3.size = cv * 3 ∧ cur3.toList.take (M.length * 3) = rcells fcl L := by
          rcases hR.out.2 with ⟨h, _⟩ | ⟨g', cap', cur', hv', hb', hg', hnc', hcm', hcs', htk'⟩
          · cases h
          · injection hv' with h1 h2 h3
            injection h1 with h1
            injection h1 with h1
            subst h1 h3
            rw [hLl] at htk' hnc'
            exact ⟨cur', hb', hg', hnc', hcm', hcs', htk'⟩
        obtain ⟨i0', hi0', hz0', hzs', hzb'⟩ := info_parts infoFh
        have hcn : ¬ cv = i := by omega
        obtain ⟨R2, hR2⟩ : ∃ R2 : Array Value, R2 = (cur3.toList.take (i * 3) ++ (Builtin.zeroCells (Value.agg #[.int .i64 0, .slice none 0 0, .int .i64 0]).cells (M.length - i)).toList ++ cur3.toList.drop (i * 3 + (Builtin.zeroCells (Value.agg #[.int .i64 0, .slice none 0 0, .int .i64 0]).cells (M.length - i)).toList.length)).toArray := ⟨_, rfl⟩
        have hzl : (Builtin.zeroCells (Value.agg #[.int .i64 0, .slice none 0 0, .int .i64 0]).cells (M.length - i)).toList.length = (M.length - i) * 3 := by
          rw [Array.length_toList, size_zeroCells]
          rfl
        obtain ⟨q, hq⟩ : ∃ q, M.length - i = q + 1 := ⟨M.length - i - 1, by omega⟩
        have hclr : ∀ ty cc, (Builtin.clear_ #[25] ty #[.slice (some ⟨g, i * 3, none⟩) (q + 1) cc]).run Try.prog wo = .ok (.tuple #[]) (wo.setRow g R2) := fun ty cc => by
          have h := run_storeCells_at Try.prog g (i * 3) 58 (Builtin.zeroCells (Value.agg #[.int .i64 0, .slice none 0 0, .int .i64 0]).cells (M.length - i)).toList 0 cur3 wo hg3 (by rw [hzl, hcs3]; simp; omega) (by
            intro u hu
            rw [Array.mem_toList_iff] at hu
            exact zero_one (M.length - i) u hu)
          simp only [Nat.add_zero] at h
          rw [hR2]
          rw [hq] at h ⊢
          simp [Builtin.clear_, run_underlying Try.underlying25, h]
        have hsA : subA (some ⟨g, 0, none⟩) cv i 3 = some ⟨g, i * 3, none⟩ := by rw [subA_some _ _ _ _ _ hcn, Nat.zero_add]
        have hR2s : R2.size = cv * 3 := by
          rw [hR2]
          simp only [List.size_toArray, List.length_append, List.length_take, List.length_drop, hzl, Array.length_toList, hcs3]
          omega
        have hR2t : R2.toList.take (i * 3) = rcells fcl (keepF met M) := by
          have hA : (cur3.toList.take (i * 3)).length = i * 3 := by rw [List.length_take, Array.length_toList, hcs3]; omega
          rw [hR2, ← hke, rcells_take fcl 3 fcl_len, ← htk3, List.take_take, Nat.min_eq_left (by omega)]
          show List.take _ (cur3.toList.take (i * 3) ++ _ ++ _) = _
          rw [List.append_assoc, List.take_left' hA]
        have hkl : (keepF met M).length = i := by rw [← hke, List.length_take]; omega
        have hR2h := Lib.hid hR2
        have hclrh := Lib.hid hclr
        have hgw := heap_setRow hg3 R2
        have hGw : w.grownBy (wo.setRow g R2) (some g) := grownBy_trans hG ⟨rfl, rfl, rfl, by simp [World.setRow], fun k hk hkg => heap_setRow_other _ (fun e => hkg (by rw [e]))⟩
        have hiL : (i : Int) ≤ (M.length : Int) := by omega
        have hiC : (i : Int) ≤ (cv : Int) := by omega
        have hR2th := Lib.hid hR2t
        have hklh := Lib.hid hkl
        have hLlh := Lib.hid hLl
        clear hR2 hclr hke hLl hR2t hkl htk3 hzl hR
        go_wp2_with fail
        rw [hclrh.out]
        simp only [Result.andThen]
        rw [Oper.upon_value]
        go_wp2_with fail
        go_ret
        refine ⟨.slice (some ⟨g, 0, none⟩) i cv, rfl, ⟨by rw [rcells_length fcl 3 fcl_len], .inr ⟨g, cv, R2, by rw [hklh.out], hb3, hgw, by rw [hklh.out]; omega, hcm3, hR2s, by rw [hklh.out]; exact hR2th.out⟩⟩, ?_⟩
        exact hGw
end Go.Proofs.Ytponbponacdhkaa
