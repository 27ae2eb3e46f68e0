/-
  A record's payload: the reference's numbers.
-/
import Derived.Test.YtkflikfcpdekdaaDoorSegPut1
import Derived.Outline
namespace Go.Proofs.YtkflikfcpdekdaaDoor
open Go.RowKit

set_option maxHeartbeats 800000 in
theorem rnumber_calls (w : World) (n : Int) (width : Nat) (h0 : 0 ≤ n) (hw : width ≤ 8) :
    Calls Tryd.prog 55 #[.int .u64 n, .int .i64 width] w fun e w' => ∃ v, e = .returned v ∧ Own w' w.heap.size 5 v (le width n) ∧ Ext w w' := by
  go_enter Tryd.func55, Tryd.ntmps55
  go_wp2
  go_loopw [0, 5, 6] (fun m b i wr => ∃ k : Nat, k ≤ width ∧ i = .int .i64 k ∧ m = .int .u64 (n / 256 ^ k) ∧ Own wr w.heap.size 5 b (le k n) ∧ Ext w wr) (fun _ _ i _ => width - (intOf i).toNat)
  case atStart => exact ⟨0, by omega, rfl, by simp, own_nil _ _ _, Ext.refl _⟩
  case round =>
    obtain ⟨k, hk, rfl, rfl, ho, hx⟩ := hrel
    by_cases hlt : k < width
    · have hd := Lib.hid (div_succ n k)
      have hs := Lib.hid (le_snoc k n)
      have hm0 : 0 ≤ n / 256 ^ k := Int.ediv_nonneg h0 (Int.pow_nonneg (by decide))
      obtain ⟨m, hm⟩ : ∃ m, n / 256 ^ k = m := ⟨_, rfl⟩
      rw [hm] at hd hs hm0 ⊢
      have hll : (le k n).length ≤ 100 := by rw [le_length]; omega
      have hoh := Lib.hid ho
      have hxh := Lib.hid hx
      have hby : Hid (Value.int .u8 (m % 256) = bv (UInt8.ofNat (m % 256).toNat)) := by show _ = _; simp [bv]; omega
      clear hm ho hx
      go_wp2_with (at_builtin; refine wpList_append_bytes rfl _ _ 22 rfl w 5 Tryd.underlying22 infoU8 _ _ rfl (hoh.out.ext (Ext.alloc _ _)) (hxh.out.trans (Ext.alloc _ _)) _ 1 1 [UInt8.ofNat (m % 256).toNat] rfl (Bs.one_of _ _ _ hby.out _) (Nat.le_trans (Nat.add_le_add_right hll 1) (by decide)) ?_; intro v' w1 hown1 hx1 hgrow)
      go_roundw
      case rel => exact ⟨k + 1, by omega, by go_num, by rw [hd.out], by rw [hs.out]; exact hown1, hx1⟩
      case measure => simp [intOf]; omega
    · obtain rfl : k = width := by omega
      go_wp2
      go_ret
      exact ⟨_, rfl, ho, hx⟩
/-- The same, of a number with a sign as a number without. -/
theorem rnumber_u64 (w : World) (n : Int) (width : Nat) (hw : width ≤ 8) :
    Calls Tryd.prog 55 #[.int .u64 (n % 18446744073709551616), .int .i64 width] w fun e w' => ∃ v, e = .returned v ∧ Own w' w.heap.size 5 v (le width n) ∧ Ext w w' := by
  have h := rnumber_calls w (n % 18446744073709551616) width (by omega) hw
  rw [le_u64 width hw] at h
  exact h
theorem rnumber_nat (w : World) (n : Int) (width : Nat) (h0 : 0 ≤ n) (hw : width ≤ 8) :
    Calls Tryd.prog 55 #[.int .u64 n, .int .i64 width] w fun e w' => ∃ v, e = .returned v ∧ Own w' w.heap.size 5 v (le width n) ∧ Ext w w' := rnumber_calls w n width h0 hw

theorem rnumber_g (w : World) (m n : Int) (width : Nat) (hm : m = n % 18446744073709551616) (hw : width ≤ 8) (hpos : 0 < width) :
    Calls Tryd.prog 55 #[.int .u64 m, .int .i64 width] w fun e w' => ∃ g n' c', e = .returned (.slice (some ⟨g, 0, none⟩) n' c') ∧ Own w' w.heap.size 5 (.slice (some ⟨g, 0, none⟩) n' c') (le width n) ∧ Ext w w' ∧ w.heap.size ≤ g := by
  subst hm
  refine (rnumber_u64 w n width hw).mono ?_
  rintro e w' ⟨v, rfl, ho, hx⟩
  obtain ⟨a, n', c', rfl, -⟩ := ho.bs
  obtain ⟨g, rfl, hg, -⟩ := ho.addr (by rw [le_length]; exact hpos)
  exact ⟨g, n', c', rfl, ho, hx, hg⟩
theorem own_lt {w : World} {base : Nat} {e : TypeId} {g n c : Nat} {l : List UInt8} (h : Own w base e (.slice (some ⟨g, 0, none⟩) n c) l) : g < w.heap.size := by
  obtain ⟨cur, fr, hh⟩ := owns_block h g rfl
  exact (Array.getElem?_eq_some_iff.1 hh).1
/-- Another row stays where one is appended to. -/
theorem own_keep {w w' : World} {g' gb base g n c : Nat} {e : TypeId} {l : List UInt8} (O : Own w base e (.slice (some ⟨g, 0, none⟩) n c) l) (hg : w.grownBy w' (some gb)) (N : gb ≠ g) (hat : g' = gb ∨ w.heap.size ≤ g') :
    Own w' base e (.slice (some ⟨g, 0, none⟩) n c) l ∧ g' ≠ g := by
  refine ⟨O.kept hg (.inr (by simp [Value.ownBlock]; omega)), ?_⟩
  have := own_lt O
  omega
/-- 'append(b, src...)' of two rows of the call's own, as a step of a region that draws its order. -/
theorem step_app {P : Program} {w : World} {ops : Array Oper} {o : Oper} {a : Act} {K : Act → World → Prop} {Q : Exit → Act → World → Prop} {E : Prop} (hgd : o.guard = none) (s x : Operand) (t e : TypeId)
    (ho : o.op = .call { callee := .builtin .append, args := #[s, x], argTypes := #[t, t] })
    (ht : P.underlying t = some (.slice e)) (hi : (P.info? e).map (fun i => (i.zero, i.size, i.bytes)) = some (some (.int .u8 0), 1, 1)) {w0 : World} (HX : Ext w0 w)
    {gb nb cb : Nat} {lb : List UInt8} (hs : a.eval s = .slice (some ⟨gb, 0, none⟩) nb cb) (OB : Own w w0.heap.size e (.slice (some ⟨gb, 0, none⟩) nb cb) lb)
    {g n c : Nat} {l : List UInt8} (hx : a.eval x = .slice (some ⟨g, 0, none⟩) n c) (O : Bs w (some ⟨g, 0, none⟩) n c l) (hbytes : lb.length + l.length ≤ 140737488355328) (hpos : 0 < l.length)
    (h : ∀ g' n' c' w', Own w' w0.heap.size e (.slice (some ⟨g', 0, none⟩) n' c') (lb ++ l) → w.grownBy w' (some gb) → (g' = gb ∨ w.heap.size ≤ g') → Ext w0 w' → K (a.put o.dst (.slice (some ⟨g', 0, none⟩) n' c')) w') :
    if Region.wanted o (yielded ops a.tmps) = true then Oper.wp P o a w K Q else E := by
  obtain ⟨i, hi0, hz0, hz1, hz2⟩ := info_parts hi
  have hm := O.len
  have hl : lb.length = nb := OB.bs_at.len
  have hm0 : 0 < n := by omega
  have hnews : ∀ j u, (bvs l)[j]? = some u → w.cell? ((⟨g, 0, none⟩ : Addr).add j) = some u := by
    intro j u hj
    have hlt : j < (bvs l).length := (List.getElem?_eq_some_iff.1 hj).1
    rw [bvs_length, hm] at hlt
    obtain ⟨b, of, hab, hc⟩ := Sl.at_ O (by omega)
    cases hab
    rw [show (⟨g, 0, none⟩ : Addr).add j = ⟨g, 0 + j, none⟩ by unfold Addr.add; split <;> simp_all]
    rw [hc j (by rw [bvs_length, hm]; exact hlt), ← hj, List.getElem?_eq_getElem (by rw [bvs_length, hm]; exact hlt)]
  refine step_append_lies w hgd s x t ho w0.heap.size e i (.int .u8 0) 1 1 ht hi0 hz0 hz1 hz2 rfl (by decide) (.slice (some ⟨gb, 0, none⟩) nb cb) lb.length (bvs lb) hs OB ⟨g, 0, none⟩ n c (bvs l) hx (by rw [bvs_length, hm, Nat.mul_one]) hnews (bvs_one l) hm0 (by unfold maxLen; omega) (by omega) HX.size w.heap.size rfl ?_
  intro g' cap w' h1 h2 h3 h4
  refine h g' (lb.length + n) cap w' ?_ h2 ?_ (HX.grown h2 (by intro k hk; cases hk; exact owns_row OB gb rfl))
  · unfold Own
    rw [bvs_append, List.length_append, hm]
    exact h1
  · rcases h3 with h3 | h3
    · simp [Value.ownBlock] at h3; exact .inl h3.symm
    · exact .inr (by omega)
set_option maxRecDepth 100000 in
set_option maxHeartbeats 1600000 in
theorem rput2_calls (r : Rec) (a : Option Addr) (n c : Nat) (w : World) (hb : Rg w a n c r.rungs) (hr : right r = true) (k2 : r.kind = 2) :
    Calls Tryd.prog 40 #[rv r a n c] w fun e w' => ∃ v, e = .returned (.tuple #[v, .int .i64 0]) ∧ Own w' w.heap.size 5 v (segPut r) ∧ Ext w w' := by
  have hpp := Lib.hid (segPut2 r k2)
  have hc0 := fun w' (hx : Ext w w') => rright_calls r a n c w' (hb.ext hx)
  rw [hr] at hc0
  obtain ⟨kind, path, method, factor, rungs, rung, time, now, value⟩ := r
  unfold rv at *
  dsimp only at hb k2 hpp ⊢
  subst k2
  have hc0 := Lib.hid hc0
  clear hr
  go_enter Tryd.func40, Tryd.ntmps40
  go_wp2_with fail
  refine (hc0.out _ (Ext.alloc _ _)).mono ?_
  rintro e w2 ⟨rfl, hx2⟩
  have hxx := (Ext.alloc _ _).trans hx2
  have c0 := hx2.cell (a := ⟨w.heap.size, 0, none⟩) (v := .int .i64 2) (by simp)
  have c6 := hx2.cell (a := ⟨w.heap.size, 6, none⟩) (v := .int .i64 time) (by simp)
  have c7 := hx2.cell (a := ⟨w.heap.size, 7, none⟩) (v := .int .i64 now) (by simp)
  have c8 := hx2.cell (a := ⟨w.heap.size, 8, none⟩) (v := .int .i64 value) (by simp)
  have hz : w.heap.size < w2.heap.size := by have := hx2.size; simp at this; omega
  clear hx2 hc0 hb
  go_upto_region 14 with fail
  have OB : Own (w2.alloc (.cells #[.int .u8 2] 5)).drew w2.heap.size 5 (.slice (some ⟨w2.heap.size, 0, none⟩) 1 1) [2] := (Own.lit w2 [2] [bv 2] rfl 5 (by simp [maxLen])).ext (Ext.refl _).drew
  have HX : Ext w2 (w2.alloc (.cells #[.int .u8 2] 5)).drew := (Ext.alloc _ _).drew
  go_region_held3 (fun w' => w'.cell? ⟨w.heap.size, 6, none⟩ = some (.int .i64 time) ∧ w'.cell? ⟨w.heap.size, 7, none⟩ = some (.int .i64 now) ∧ w'.cell? ⟨w.heap.size, 8, none⟩ = some (.int .i64 value))
    (exact ⟨HX.cell c6, HX.cell c7, HX.cell c8⟩)
    (first
      | (go_at_call 55; refine (rnumber_g _ _ time 8 ?hm (by decide) (by decide)).mono ?_; (case hm => (first | rfl | (simp; done) | omega)); rintro e w' ⟨g1, n1, c1, rfl, O1, hx, hg1⟩; have N1 := Nat.ne_of_lt (Nat.lt_of_lt_of_le (own_lt OB) hg1); replace OB := OB.ext hx; (try replace O2 := O2.ext hx); (try replace O3 := O3.ext hx); replace HX := HX.trans hx; clear hx)
      | (go_at_call 55; refine (rnumber_g _ _ now 8 ?hm (by decide) (by decide)).mono ?_; (case hm => (first | rfl | (simp; done) | omega)); rintro e w' ⟨g2, n2, c2, rfl, O2, hx, hg2⟩; have N2 := Nat.ne_of_lt (Nat.lt_of_lt_of_le (own_lt OB) hg2); replace OB := OB.ext hx; (try replace O1 := O1.ext hx); (try replace O3 := O3.ext hx); replace HX := HX.trans hx; clear hx)
      | (go_at_call 55; refine (rnumber_g _ _ value 8 ?hm (by decide) (by decide)).mono ?_; (case hm => (first | rfl | (simp; done) | omega)); rintro e w' ⟨g3, n3, c3, rfl, O3, hx, hg3⟩; have N3 := Nat.ne_of_lt (Nat.lt_of_lt_of_le (own_lt OB) hg3); replace OB := OB.ext hx; (try replace O1 := O1.ext hx); (try replace O2 := O2.ext hx); replace HX := HX.trans hx; clear hx)
      | (refine step_app rfl (.tmp 88) (.tmp 92) 22 5 rfl Tryd.underlying22 infoU8 HX rfl OB rfl O1.bs_at ?hb ?hp ?_; (case hb => (simp [le_length])); (case hp => (simp [le_length])); intro g' n' c' w' OB' hgrow hat HX'; (try (obtain ⟨O2', N2'⟩ := own_keep O2 hgrow N2 hat; clear O2 N2; have O2 := O2'; have N2 := N2'; clear O2' N2')); (try (obtain ⟨O3', N3'⟩ := own_keep O3 hgrow N3 hat; clear O3 N3; have O3 := O3'; have N3 := N3'; clear O3' N3')); clear OB HX hgrow hat; have OB := OB'; have HX := HX'; clear OB' HX')
      | (refine step_app rfl (.tmp 93) (.tmp 97) 22 5 rfl Tryd.underlying22 infoU8 HX rfl OB rfl O2.bs_at ?hb ?hp ?_; (case hb => (simp [le_length])); (case hp => (simp [le_length])); intro g' n' c' w' OB' hgrow hat HX'; (try (obtain ⟨O3', N3'⟩ := own_keep O3 hgrow N3 hat; clear O3 N3; have O3 := O3'; have N3 := N3'; clear O3' N3')); clear OB HX hgrow hat; have OB := OB'; have HX := HX'; clear OB' HX')
      | (refine step_app rfl (.tmp 98) (.tmp 102) 22 5 rfl Tryd.underlying22 infoU8 HX rfl OB rfl O3.bs_at ?hb ?hp ?_; (case hb => (simp [le_length])); (case hp => (simp [le_length])); intro g' n' c' w' OB' hgrow hat HX'; clear OB HX hgrow hat; have OB := OB'; have HX := HX'; clear OB' HX'))
  all_goals
    have hoh := Lib.hid (OB.mono hxx.size)
    clear OB
    go_wp2
    go_ret2
    exact ⟨_, rfl, by rw [hpp.out]; simpa using hoh.out, hxx.trans HX⟩
end Go.Proofs.YtkflikfcpdekdaaDoor
