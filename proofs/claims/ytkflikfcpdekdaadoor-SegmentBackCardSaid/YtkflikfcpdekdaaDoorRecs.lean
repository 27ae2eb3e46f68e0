/-
  Slices of records in memory; whether two lists are the same.
-/
import Derived.Test.YtkflikfcpdekdaaDoorSegTake
namespace Go.Proofs.YtkflikfcpdekdaaDoor
open Go.RowKit

/-- A record, and where its archives lie. -/
abbrev El := Rec × (Option Addr × Nat × Nat)
def ecells (e : El) : List Value := (recCells e.1 (.slice e.2.1 e.2.2.1 e.2.2.2)).toList
def lcells (M : List El) : List Value := (M.map ecells).flatten
theorem ecells_length (e : El) : (ecells e).length = 9 := rfl
theorem lcells_append (L M : List El) : lcells (L ++ M) = lcells L ++ lcells M := by simp [lcells]
theorem lcells_one (e : El) : lcells [e] = ecells e := by simp [lcells]
theorem lcells_length (M : List El) : (lcells M).length = M.length * 9 := by
  induction M with
  | nil => rfl
  | cons e M ih =>
    have : lcells (e :: M) = ecells e ++ lcells M := rfl
    rw [this, List.length_append, ih, ecells_length, List.length_cons]; omega
theorem lcells_get (M : List El) (i j : Nat) (hi : i < M.length) (hj : j < 9) : (lcells M)[i * 9 + j]? = (ecells M[i])[j]? := by
  induction M generalizing i with
  | nil => simp at hi
  | cons e M ih =>
    have h0 : lcells (e :: M) = ecells e ++ lcells M := rfl
    rw [h0]
    cases i with
    | zero => rw [List.getElem?_append_left (by rw [ecells_length]; omega)]; simp
    | succ i =>
      rw [List.getElem?_append_right (by rw [ecells_length]; omega), ecells_length, show (i + 1) * 9 + j - 9 = i * 9 + j by omega, ih i (by simpa using hi)]
      rfl
theorem ecells_one (e : El) : ∀ u ∈ ecells e, u.oneCell' = true := by
  intro u hu
  simp [ecells, recCells] at hu
  rcases hu with rfl | rfl | rfl | rfl | rfl | rfl | rfl | rfl | rfl <;> rfl
/-- In w the slice reads as these records. -/
def Rcs (w : World) (a : Option Addr) (n c : Nat) (M : List El) : Prop := Sl w a n c 9 (lcells M) ∧ ∀ e ∈ M, Rg w e.2.1 e.2.2.1 e.2.2.2 e.1.rungs
theorem Rcs.ext {w w' : World} {a : Option Addr} {n c : Nat} {M : List El} (h : Rcs w a n c M) (hx : Ext w w') : Rcs w' a n c M := ⟨h.1.ext hx, fun e he => (h.2 e he).ext hx⟩
theorem Rcs.len {w : World} {a : Option Addr} {n c : Nat} {M : List El} (h : Rcs w a n c M) : M.length = n := by
  have := h.1.len
  rw [lcells_length] at this
  omega
/-- The nine cells of an element. -/
def At9 (w : World) (b o : Nat) (e : El) : Prop :=
  w.cell? ⟨b, o, none⟩ = some (.int .i64 e.1.kind) ∧ w.cell? ⟨b, o + 1, none⟩ = some (.string ⟨e.1.path.toArray⟩) ∧ w.cell? ⟨b, o + 2, none⟩ = some (.int .i64 e.1.method) ∧ w.cell? ⟨b, o + 3, none⟩ = some (.int .i64 e.1.factor) ∧
    w.cell? ⟨b, o + 4, none⟩ = some (.slice e.2.1 e.2.2.1 e.2.2.2) ∧ w.cell? ⟨b, o + 5, none⟩ = some (.int .i64 e.1.rung) ∧ w.cell? ⟨b, o + 6, none⟩ = some (.int .i64 e.1.time) ∧ w.cell? ⟨b, o + 7, none⟩ = some (.int .i64 e.1.now) ∧ w.cell? ⟨b, o + 8, none⟩ = some (.int .i64 e.1.value)
theorem At9.ext {w w' : World} {b o : Nat} {e : El} (h : At9 w b o e) (hx : Ext w w') : At9 w' b o e := by
  obtain ⟨h0, h1, h2, h3, h4, h5, h6, h7, h8⟩ := h
  exact ⟨hx.cell h0, hx.cell h1, hx.cell h2, hx.cell h3, hx.cell h4, hx.cell h5, hx.cell h6, hx.cell h7, hx.cell h8⟩
theorem Rcs.at {w : World} {a : Option Addr} {n c : Nat} {M : List El} (h : Rcs w a n c M) (hn : 0 < n) : ∃ b o, a = some ⟨b, o, none⟩ ∧ ∀ i (hi : i < M.length), At9 w b (o + i * 9) M[i] := by
  obtain ⟨b, o, ha, hc⟩ := h.1.at_ hn
  refine ⟨b, o, ha, fun i hi => ?_⟩
  have hl := lcells_length M
  have key : ∀ j (hj : j < 9) (v : Value), (ecells M[i])[j]? = some v → w.cell? ⟨b, o + i * 9 + j, none⟩ = some v := by
    intro j hj v hv
    have h1 := hc (i * 9 + j) (by omega)
    have h2 := lcells_get M i j hi hj
    rw [hv, List.getElem?_eq_getElem (by omega)] at h2
    rw [Option.some.inj h2] at h1
    rw [Nat.add_assoc]; exact h1
  exact ⟨key 0 (by decide) _ rfl, key 1 (by decide) _ rfl, key 2 (by decide) _ rfl, key 3 (by decide) _ rfl, key 4 (by decide) _ rfl, key 5 (by decide) _ rfl, key 6 (by decide) _ rfl, key 7 (by decide) _ rfl, key 8 (by decide) _ rfl⟩

theorem rt_ext {w w' : World} {a : Option Addr} {n c : Nat} {l : List (Int × Int)} (h : Rt w a n c l) (hx : Ext w w') : Rt w' a n c l :=
  ⟨h.1.ext hx, fun x hxa => by
    obtain ⟨cur, fr, hg⟩ := h.2 x hxa
    exact ⟨cur, fr, (hx.block _ (Array.getElem?_eq_some_iff.1 hg).1).trans hg⟩⟩
/-- A block of other cells is written. -/
theorem rt_set {w : World} {a : Option Addr} {n c : Nat} {l : List (Int × Int)} (h : Rt w a n c l) {b : Nat} {t : TypeId} {cs : Array Value} {fr : Nat × Nat} (hb : w.heap[b]? = some (.cells cs t fr)) (hne : t ≠ 68) (i : Nat) (v : Value) :
    Rt (w.setCell ⟨b, i, none⟩ v) a n c l := by
  have hbl : ∀ x, a = some x → (w.setCell ⟨b, i, none⟩ v).heap[x.block]? = w.heap[x.block]? := fun x hxa => by
    obtain ⟨cur, fr2, hh⟩ := h.2 x hxa
    refine Below.heap_setCell _ _ _ _ (fun he => ?_)
    have he : x.block = b := he
    rw [he, hb] at hh
    cases hh
    exact hne rfl
  refine ⟨⟨Sl.len h.1, Sl.le h.1, Sl.max h.1, Sl.nil h.1, fun hn => ?_⟩, fun x hxa => ?_⟩
  · obtain ⟨b', o, ha, hc⟩ := Sl.at_ h.1 hn
    exact ⟨b', o, ha, fun j hj => (World.cell?_of_block (a := ⟨b', o + j, none⟩) (hbl ⟨b', o, none⟩ ha)).trans (hc j hj)⟩
  · obtain ⟨cur, fr2, hh⟩ := h.2 x hxa
    exact ⟨cur, fr2, (hbl x hxa).trans hh⟩
theorem set_type {w : World} {b : Nat} {t : TypeId} {cs : Array Value} (hb : w.heap[b]? = some (.cells cs t (0, 0))) (i : Nat) (v : Value) : ∃ cs', (w.setCell ⟨b, i, none⟩ v).heap[b]? = some (.cells cs' t (0, 0)) := ⟨_, heap_set (i := i) hb v⟩
theorem rt_set9 {w : World} {a : Option Addr} {n c : Nat} {l : List (Int × Int)} (h : Rt w a n c l) {b : Nat} {t : TypeId} {cs : Array Value} (hb : w.heap[b]? = some (.cells cs t (0, 0))) (hne : t ≠ 68) (v0 v1 v2 v3 v4 v5 v6 v7 v8 : Value) :
    Rt (((((((((w.setCell ⟨b, 0, none⟩ v0).setCell ⟨b, 1, none⟩ v1).setCell ⟨b, 2, none⟩ v2).setCell ⟨b, 3, none⟩ v3).setCell ⟨b, 4, none⟩ v4).setCell ⟨b, 5, none⟩ v5).setCell ⟨b, 6, none⟩ v6).setCell ⟨b, 7, none⟩ v7).setCell ⟨b, 8, none⟩ v8) a n c l := by
  have h := rt_set h hb hne 0 v0
  obtain ⟨cs0, hb0⟩ := set_type hb 0 v0
  have h := rt_set h hb0 hne 1 v1
  obtain ⟨cs1, hb1⟩ := set_type hb0 1 v1
  have h := rt_set h hb1 hne 2 v2
  obtain ⟨cs2, hb2⟩ := set_type hb1 2 v2
  have h := rt_set h hb2 hne 3 v3
  obtain ⟨cs3, hb3⟩ := set_type hb2 3 v3
  have h := rt_set h hb3 hne 4 v4
  obtain ⟨cs4, hb4⟩ := set_type hb3 4 v4
  have h := rt_set h hb4 hne 5 v5
  obtain ⟨cs5, hb5⟩ := set_type hb4 5 v5
  have h := rt_set h hb5 hne 6 v6
  obtain ⟨cs6, hb6⟩ := set_type hb5 6 v6
  have h := rt_set h hb6 hne 7 v7
  obtain ⟨cs7, hb7⟩ := set_type hb6 7 v7
  have h := rt_set h hb7 hne 8 v8
  exact h
theorem Rt.grown {w w' : World} {e2 : TypeId} {a : Option Addr} {n c : Nat} {l : List (Int × Int)} {row : Option Nat} (h : Rt w a n c l) (hg : w.grownBy w' row)
    (hrow : ∀ k, row = some k → ∃ cur fr, w.heap[k]? = some (.cells cur e2 fr)) (hne : 68 ≠ e2) : Rt w' a n c l := by
  have hb : ∀ x, a = some x → w'.heap[x.block]? = w.heap[x.block]? := fun x hxa => by
    obtain ⟨cur, fr, hh⟩ := h.2 x hxa
    refine hg.block _ (Array.getElem?_eq_some_iff.1 hh).1 (fun he => ?_)
    obtain ⟨cur2, fr2, hh2⟩ := hrow x.block he.symm
    rw [hh] at hh2
    cases hh2
    exact hne rfl
  refine ⟨⟨Sl.len h.1, Sl.le h.1, Sl.max h.1, Sl.nil h.1, fun hn => ?_⟩, fun x hxa => ?_⟩
  · obtain ⟨b, o, ha, hc⟩ := Sl.at_ h.1 hn
    exact ⟨b, o, ha, fun i hi => (World.cell?_of_block (a := ⟨b, o + i, none⟩) (hb ⟨b, o, none⟩ ha)).trans (hc i hi)⟩
  · obtain ⟨cur, fr, hh⟩ := h.2 x hxa
    exact ⟨cur, fr, (hb x hxa).trans hh⟩

set_option maxRecDepth 100000 in
set_option maxHeartbeats 1600000 in
theorem samelist_calls (a : Option Addr) (n c : Nat) (M : List El) (a2 : Option Addr) (n2 c2 : Nat) (M2 : List El) (w : World) (hb : Rcs w a n c M) (hb2 : Rcs w a2 n2 c2 M2) :
    Calls Tryd.prog 48 #[.slice a n c, .slice a2 n2 c2] w fun e w' => e = .returned (.bool (decide (M.map (·.1) = M2.map (·.1)))) ∧ Ext w w' := by
  have hl1 := Lib.hid hb.len
  have hl2 := Lib.hid hb2.len
  have hm1 := Nat.le_trans hb.1.le hb.1.max
  have hm2 := Nat.le_trans hb2.1.le hb2.1.max
  unfold maxLen at hm1 hm2
  by_cases he : n = n2
  · subst he
    have hq : ((n : Int) != (n : Int)) = false := by simp
    go_enter Tryd.func48, Tryd.ntmps48
    go_wp2
    go_loopw [5] (fun i wr => ∃ k : Nat, k ≤ n ∧ i = .int .i64 k ∧ Ext w wr ∧ (M.take k).map (·.1) = (M2.take k).map (·.1)) (fun i _ => n - (intOf i).toNat)
    case atStart => exact ⟨0, Nat.zero_le _, rfl, Ext.refl _, rfl⟩
    case round =>
      obtain ⟨k, hk, rfl, hxr, htk⟩ := hrel
      have HT := Lib.hid htk
      clear htk
      by_cases hlt : k < n
      · obtain ⟨b, o, rfl, hc⟩ := (hb.ext hxr).at (by omega)
        obtain ⟨b2, o2, rfl, hc2⟩ := (hb2.ext hxr).at (by omega)
        have hkl : k < M.length := by rw [hl1.out]; exact hlt
        have hkl2 : k < M2.length := by rw [hl2.out]; exact hlt
        have hx1 := hc k hkl
        have hx2 := hc2 k hkl2
        have hg1 := (hb.2 M[k] (List.getElem_mem hkl)).ext hxr
        have hg2 := (hb2.2 M2[k] (List.getElem_mem hkl2)).ext hxr
        have hsn : Hid ((M.take (k + 1)).map (·.1) = (M.take k).map (·.1) ++ [M[k].1]) := by show _ = _; rw [List.take_succ_eq_append_getElem hkl, List.map_append]; rfl
        have hsn2 : Hid ((M2.take (k + 1)).map (·.1) = (M2.take k).map (·.1) ++ [M2[k].1]) := by show _ = _; rw [List.take_succ_eq_append_getElem hkl2, List.map_append]; rfl
        have hne : Hid (M[k].1 ≠ M2[k].1 → decide (M.map (·.1) = M2.map (·.1)) = false) := fun h => by
          rw [decide_eq_false_iff_not]; intro e
          apply h
          have h3 : (M.map (·.1))[k]'(by simpa using hkl) = (M2.map (·.1))[k]'(by simpa using hkl2) := by simp only [e]
          simpa using h3
        obtain ⟨x, hx⟩ : ∃ x, M[k] = x := ⟨_, rfl⟩
        obtain ⟨y, hy⟩ : ∃ x, M2[k] = x := ⟨_, rfl⟩
        rw [hx] at hx1 hg1 hsn hne
        rw [hy] at hx2 hg2 hsn2 hne
        clear hc hc2 hx hy
        obtain ⟨r, a1', n1', c1'⟩ := x
        obtain ⟨r2, a2', n2', c2'⟩ := y
        dsimp only at hg1 hg2 hsn hsn2 hne
        have hk0 : (0 : Int) ≤ (k : Int) := Int.natCast_nonneg _
        have hk1 : (k : Int) < (n : Int) := by omega
        obtain ⟨x0, x1, x2, x3, x4, x5, x6, x7, x8⟩ := hx1
        obtain ⟨y0, y1, y2, y3, y4, y5, y6, y7, y8⟩ := hx2
        dsimp only at x0 x1 x2 x3 x4 x5 x6 x7 x8 y0 y1 y2 y3 y4 y5 y6 y7 y8
        have hsame := fun wx (hx : Ext wr wx) => same8_calls r a1' n1' c1' r2 a2' n2' c2' wx (hg1.ext hx) (hg2.ext hx)
        obtain ⟨sb, hsb⟩ : ∃ sb, decide (r = r2) = sb := ⟨_, rfl⟩
        rw [hsb] at hsame
        have hsb := Lib.hid hsb
        unfold rv at hsame
        have hsame := Lib.hid hsame
        have HX : Ext wr wr.drew := (Ext.refl _).drew
        go_wp2_with fail
        go_region_held3 (fun w' => (w'.cell? ⟨b, o + k * 9, none⟩ = some (.int .i64 r.kind) ∧ w'.cell? ⟨b, o + k * 9 + 1, none⟩ = some (.string ⟨r.path.toArray⟩) ∧ w'.cell? ⟨b, o + k * 9 + 2, none⟩ = some (.int .i64 r.method) ∧ w'.cell? ⟨b, o + k * 9 + 3, none⟩ = some (.int .i64 r.factor) ∧ w'.cell? ⟨b, o + k * 9 + 4, none⟩ = some (.slice a1' n1' c1') ∧ w'.cell? ⟨b, o + k * 9 + 5, none⟩ = some (.int .i64 r.rung) ∧ w'.cell? ⟨b, o + k * 9 + 6, none⟩ = some (.int .i64 r.time) ∧ w'.cell? ⟨b, o + k * 9 + 7, none⟩ = some (.int .i64 r.now) ∧ w'.cell? ⟨b, o + k * 9 + 8, none⟩ = some (.int .i64 r.value)) ∧
            w'.cell? ⟨b2, o2 + k * 9, none⟩ = some (.int .i64 r2.kind) ∧ w'.cell? ⟨b2, o2 + k * 9 + 1, none⟩ = some (.string ⟨r2.path.toArray⟩) ∧ w'.cell? ⟨b2, o2 + k * 9 + 2, none⟩ = some (.int .i64 r2.method) ∧ w'.cell? ⟨b2, o2 + k * 9 + 3, none⟩ = some (.int .i64 r2.factor) ∧ w'.cell? ⟨b2, o2 + k * 9 + 4, none⟩ = some (.slice a2' n2' c2') ∧ w'.cell? ⟨b2, o2 + k * 9 + 5, none⟩ = some (.int .i64 r2.rung) ∧ w'.cell? ⟨b2, o2 + k * 9 + 6, none⟩ = some (.int .i64 r2.time) ∧ w'.cell? ⟨b2, o2 + k * 9 + 7, none⟩ = some (.int .i64 r2.now) ∧ w'.cell? ⟨b2, o2 + k * 9 + 8, none⟩ = some (.int .i64 r2.value))
          (exact ⟨⟨HX.cell x0, HX.cell x1, HX.cell x2, HX.cell x3, HX.cell x4, HX.cell x5, HX.cell x6, HX.cell x7, HX.cell x8⟩, HX.cell y0, HX.cell y1, HX.cell y2, HX.cell y3, HX.cell y4, HX.cell y5, HX.cell y6, HX.cell y7, HX.cell y8⟩)
          ((go_at_call 47; refine (hsame.out _ HX).mono ?_; rintro e w' ⟨rfl, hx⟩; replace HX := HX.trans hx; clear hx))
        cases sb with
        | true =>
          have hrr : r = r2 := by simpa using hsb.out
          go_wp2
          go_roundw
          case rel => exact ⟨k + 1, by omega, by go_num, hxr.trans HX, by rw [hsn.out, hsn2.out, HT.out, hrr]⟩
          case measure => simp [intOf]; omega
        | false =>
          have hfin := Lib.hid (hne.out (by simpa using hsb.out))
          clear hne hsb
          go_wp2
          go_ret
          exact ⟨ret_bool hfin.out.symm, hxr.trans HX⟩
      · obtain rfl : k = n := by omega
        have hfin : Hid (decide (M.map (·.1) = M2.map (·.1)) = true) := by
          have h1 := HT.out
          rw [List.take_of_length_le (by rw [hl1.out]; exact Nat.le_refl _), List.take_of_length_le (by rw [hl2.out]; exact Nat.le_refl _)] at h1
          show _ = _
          exact decide_eq_true h1
        go_wp2
        go_ret
        exact ⟨ret_bool hfin.out.symm, hxr⟩
  · have hq : ((n : Int) != (n2 : Int)) = true := by rw [bne_iff_ne]; omega
    have hfin : Hid (decide (M.map (·.1) = M2.map (·.1)) = false) := by
      show _ = _
      rw [decide_eq_false_iff_not]; intro e
      have h3 := congrArg List.length e
      rw [List.length_map, List.length_map] at h3
      exact he (hl1.out.symm.trans (h3.trans hl2.out))
    go_enter Tryd.func48, Tryd.ntmps48
    go_wp2
    go_ret
    exact ⟨ret_bool hfin.out.symm, Ext.refl _⟩
end Go.Proofs.YtkflikfcpdekdaaDoor
