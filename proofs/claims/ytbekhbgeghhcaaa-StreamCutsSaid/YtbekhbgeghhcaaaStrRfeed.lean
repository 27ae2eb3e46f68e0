/-
  Layer 19's contracts: the document's Feed.
-/
import Derived.Test.YtbekhbgeghhcaaaStrFeed0
import Derived.Test.YtbekhbgeghhcaaaStrRef
import Derived.Deep.RegionHeld3
import Derived.Deep.AppendLies
import Derived.Deep.RegionLaw
namespace Go.Proofs.Ytbekhbgeghhcaaa
open Go.RowKit

theorem feedR_cons (c : Cn) (out : List Cn) (b : UInt8) (l : List UInt8) : feedR c out (b :: l) = if b = 10 then feedR ([], false) (out ++ [c]) l else feedR (bstep c b) out l := rfl
/-- 'append(v, src...)' of bytes, v the call's own, as a step of a region that draws its order. -/
theorem step_own {P : Program} {w : World} {ops : Array Oper} {o : Oper} {a : Act} {K : Act → World → Prop} {Q : Exit → Act → World → Prop} {E : Prop} (hgd : o.guard = none) (s x : Operand) (t e : TypeId)
    (ho : o.op = .call { callee := .builtin .append, args := #[s, x], argTypes := #[t, t] })
    (ht : P.underlying t = some (.slice e)) (hi : (P.info? e).map (fun i => (i.zero, i.size, i.bytes)) = some (some (.int .u8 0), 1, 1)) {base : Nat}
    {v : Value} {lb : List UInt8} (hs : a.eval s = v) (OB : Own w base e v lb)
    {g n c : Nat} {l : List UInt8} (hx : a.eval x = .slice (some ⟨g, 0, none⟩) n c) (O : Bs w (some ⟨g, 0, none⟩) n c l) (hb0 : base ≤ w.heap.size) (hbytes : lb.length + l.length ≤ 140737488355328) (hpos : 0 < l.length)
    (h : ∀ g' n' c' w', Own w' base e (.slice (some ⟨g', 0, none⟩) n' c') (lb ++ l) → w.grownBy w' v.ownBlock → K (a.put o.dst (.slice (some ⟨g', 0, none⟩) n' c')) w') :
    if Region.wanted o (yielded ops a.tmps) = true then Oper.wp P o a w K Q else E := by
  obtain ⟨i, hi0, hz0, hz1, hz2⟩ := info_parts hi
  have hm := O.len
  have hm0 : 0 < n := by omega
  have hnews : ∀ j u, (bvs l)[j]? = some u → w.cell? ((⟨g, 0, none⟩ : Addr).add j) = some u := by
    intro j u hj
    have hlt : j < (bvs l).length := (List.getElem?_eq_some_iff.1 hj).1
    rw [bvs_length, hm] at hlt
    obtain ⟨b, of, hab, hc⟩ := Sl.at_ O (by omega)
    cases hab
    rw [show (⟨g, 0, none⟩ : Addr).add j = ⟨g, 0 + j, none⟩ by unfold Addr.add; split <;> simp_all]
    rw [hc j (by rw [bvs_length, hm]; exact hlt), ← hj, List.getElem?_eq_getElem (by rw [bvs_length, hm]; exact hlt)]
  refine step_append_lies w hgd s x t ho base e i (.int .u8 0) 1 1 ht hi0 hz0 hz1 hz2 rfl (by decide) v lb.length (bvs lb) hs OB ⟨g, 0, none⟩ n c (bvs l) hx (by rw [bvs_length, hm, Nat.mul_one]) hnews (bvs_one l) hm0 (by unfold maxLen; omega) (by omega) hb0 w.heap.size rfl ?_
  intro g' cap w' h1 h2 h3 h4
  refine h g' (lb.length + n) cap w' ?_ h2
  unfold Own
  rw [bvs_append, List.length_append, hm]
  exact h1
theorem owns_two {w : World} {base : Nat} {l : List UInt8} {v u0 u1 : Value} {b : Nat} (h : Own w (b + 1) 5 v l) (hb : base ≤ b) : Own ((w.setCell ⟨b, 0, none⟩ u0).setCell ⟨b, 1, none⟩ u1) base 5 v l :=
  Own.mono (ownsRow_setCell_below (a := ⟨b, 1, none⟩) (ownsRow_setCell_below (a := ⟨b, 0, none⟩) h (Nat.lt_succ_self b) _) (Nat.lt_succ_self b) _) (Nat.le_succ_of_le hb)
/-- Between two rounds. -/
def RI (w1 : World) (B : Nat) (st : Cn × List Cn) (out : Value) (wr : World) : Prop :=
  ∃ p n c, wr.heap[B]? = some (.cells #[.slice p n c, .bool st.1.2] 24 (0, 0)) ∧ Own wr w1.heap.size 5 (.slice p n c) st.1.1 ∧
    wr.ownsRow w1.heap.size 37 2 out st.2.length (pcells st.2) ∧ Ext w1 wr
theorem owns_apart {W : World} {b1 b2 : Nat} {e1 e2 : TypeId} {s1 s2 : Nat} {v1 v2 : Value} {n1 n2 : Nat} {x1 x2 : List Value} (h1 : W.ownsRow b1 e1 s1 v1 n1 x1) (h2 : W.ownsRow b2 e2 s2 v2 n2 x2) (hne : e1 ≠ e2) : v1.ownBlock = none ∨ v1.ownBlock ≠ v2.ownBlock := by
  cases h : v1.ownBlock with
  | none => exact .inl rfl
  | some k =>
    refine .inr fun he => hne ?_
    obtain ⟨c1, f1, g1⟩ := owns_block h1 k h
    obtain ⟨c2, f2, g2⟩ := owns_block h2 k he.symm
    rw [g1] at g2
    cases g2; rfl
theorem owns_other {W : World} {b : Nat} {e e2 : TypeId} {s : Nat} {v : Value} {n : Nat} {xs : List Value} (h : W.ownsRow b e s v n xs) {B : Nat} {cs : Array Value} {fr : Nat × Nat} (hB : W.heap[B]? = some (.cells cs e2 fr)) (hne : e ≠ e2) : v.ownBlock ≠ some B := fun he => by
  obtain ⟨c1, f1, g1⟩ := owns_block h B he
  rw [g1] at hB
  cases hB
  exact hne rfl
theorem owns_put {W : World} {b : Nat} {e : TypeId} {s : Nat} {v : Value} {n : Nat} {xs : List Value} (h : W.ownsRow b e s v n xs) {B : Nat} (hB : v.ownBlock ≠ some B) (k : Nat) (u : Value) : (W.setCell ⟨B, k, none⟩ u).ownsRow b e s v n xs :=
  h.kept (row := some B) ⟨rfl, rfl, rfl, by simp [World.setCell], fun j _ hj => Below.heap_setCell _ _ _ _ (fun e => hj (by rw [e]))⟩ (.inr hB)
set_option maxRecDepth 100000 in
set_option maxHeartbeats 1600000 in
theorem rfeed_yes (a : Option Addr) (n c : Nat) (l : List UInt8) (o : Bool) (a2 : Option Addr) (n2 c2 : Nat) (l2 : List UInt8) (w : World) (hb : Bs w a n c l) (hb2 : Bs w a2 n2 c2 l2) (hc : crt (l, o) = true) (hn2 : n2 ≤ 100000) :
    Calls Try.prog 9 #[cv a n c o, .slice a2 n2 c2] w fun e w' => ∃ a3 n3 c3 vp, e = .returned (.tuple #[cv a3 n3 c3 (feedR (l, o) [] l2).1.2, vp, .int .i64 0]) ∧ Bs w' a3 n3 c3 (feedR (l, o) [] l2).1.1 ∧
      w'.ownsRow w.heap.size 37 2 vp (feedR (l, o) [] l2).2.length (pcells (feedR (l, o) [] l2).2) ∧ Ext w w' := by
  have hlen := Lib.hid hb.len
  have hlen2 := Lib.hid hb2.len
  have hc3 := Lib.hid ((crt_iff (l, o)).1 hc)
  have hxx2 := (Ext.alloc w (.cells #[.slice a n c, .bool o] 24)).trans (Ext.alloc _ (.cells #[.slice none 0 0, .bool false] 24))
  have hr := rright_calls a n c l o _ (hb.ext hxx2)
  rw [hc] at hr
  obtain ⟨i0, hi, hz0, hz1, hz2⟩ := info_parts infoPiece
  unfold cv at *
  go_enter Try.func9, Try.ntmps9
  go_wp2_with fail
  refine hr.mono ?_
  rintro e w1 ⟨rfl, hxr⟩
  have hB0 := hxr.block w.heap.size (by simp; omega)
  have hB1 := hxr.block (w.heap.size + 1) (by simp)
  have hszr := hxr.size
  rw [Below.heap_alloc _ _ w.heap.size (by simp), heap_alloc_new] at hB0
  have hB2 := heap_alloc_new (w.alloc (.cells #[.slice a n c, .bool o] 24)) (.cells #[.slice none 0 0, .bool false] 24)
  simp only [World.size_alloc] at hB2
  rw [hB2] at hB1
  clear hB2
  have hxw1 := hxx2.trans hxr
  simp only [World.size_alloc] at hszr
  have y0 : w1.cell? ⟨w.heap.size, 0, none⟩ = some (.slice a n c) := by simp [World.cell?, hB0]
  have y1 : w1.cell? ⟨w.heap.size, 1, none⟩ = some (.bool o) := by simp [World.cell?, hB0]
  have HX := Ext.refl w1
  have hb1 := hb.ext hxw1
  clear hr hxr hxx2
  go_wp2_with fail
  go_region_held3 (fun w' => w'.cell? ⟨w.heap.size, 0, none⟩ = some (.slice a n c) ∧ w'.cell? ⟨w.heap.size, 1, none⟩ = some (.bool o))
    (first | exact ⟨HX.cell y0, HX.cell y1⟩ | (have HY := fun ob => HX.trans (Ext.alloc _ ob); exact ⟨(HY _).cell y0, (HY _).cell y1⟩) | (have HY := fun ua ub => (show Ext w1 _ from Below.setCell (p := ⟨w1.heap.size, 1, none⟩) (Below.setCell (p := ⟨w1.heap.size, 0, none⟩) HX (Nat.le_refl _) ua) (Nat.le_refl _) ub); exact ⟨(HY _ _).cell y0, (HY _ _).cell y1⟩))
    (first
      | (go_at_call 7; refine Calls.mono (copy_calls a n c l _ ?hm (Bs.ext hb1 (show Ext w1 w1.drew from Ext.drewN _ 1))) ?_; (case hm => (have h5 := hlen.out; have h6 := hc3.out.2.1; omega)); rintro e w' ⟨v, rfl, O1, hx1⟩; obtain ⟨a1, n1, c1, rfl, hbo⟩ := O1.bs; replace HX := Ext.trans (show Ext w1 w1.drew from Ext.drewN _ 1) hx1)
      | (go_at_call 7; have HY := HX.trans (Ext.alloc _ (.cells #[.slice none 0 0, .bool false] 24)); refine Calls.mono (copy_calls a n c l _ ?hm (Bs.ext hb1 (show Ext w1 (w1.alloc (.cells #[.slice none 0 0, .bool false] 24)).drew from HY.trans (Ext.drewN _ 1)))) ?_; (case hm => (have h5 := hlen.out; have h6 := hc3.out.2.1; omega)); rintro e w' ⟨v, rfl, O1, hx1⟩; obtain ⟨a1, n1, c1, rfl, hbo⟩ := O1.bs; have O2 : Own w' (w1.heap.size + 1) 5 (.slice a1 n1 c1) l := (Own.mono O1 (by simp)); have hBX := (hx1.block w1.heap.size (by simp)).trans (heap_alloc_new w1 (.cells #[.slice none 0 0, .bool false] 24)); have v0 : w'.cell? ⟨w1.heap.size, 0, none⟩ = some (.slice none 0 0) := (by simp [World.cell?, hBX]); have v1 : w'.cell? ⟨w1.heap.size, 1, none⟩ = some (.bool false) := (by simp [World.cell?, hBX]); have v2 : w'.frozen? ⟨w1.heap.size, 0, none⟩ = false := (by simp [World.frozen?, hBX]); have v3 : w'.frozen? ⟨w1.heap.size, 1, none⟩ = false := (by simp [World.frozen?, hBX]); replace HX := Ext.trans (show Ext w1 (w1.alloc (.cells #[.slice none 0 0, .bool false] 24)).drew from HY.trans (Ext.drewN _ 1)) hx1))
  all_goals first
    | (obtain ⟨B, W, hBd, hWd⟩ : ∃ B W, w1.heap.size = B ∧ (w'.setCell ⟨w1.heap.size, 0, none⟩ (.slice a1 n1 c1)).setCell ⟨w1.heap.size, 1, none⟩ (.bool o) = W := ⟨_, _, rfl, rfl⟩
       have hBw : w1.heap.size ≤ B := Nat.le_of_eq hBd
       have hBW : W.heap[B]? = some (.cells #[.slice a1 n1 c1, .bool o] 24 (0, 0)) := by rw [← hWd, ← hBd]; exact two_setCell hBX
       have hXW : Ext w1 W := by rw [← hWd]; exact Below.setCell (p := ⟨w1.heap.size, 1, none⟩) (Below.setCell (p := ⟨w1.heap.size, 0, none⟩) HX (Nat.le_refl _) _) (Nat.le_refl _) _
       have hOW : Own W w1.heap.size 5 (.slice a1 n1 c1) l := by rw [← hWd]; exact owns_two O2 (Nat.le_refl _)
       rw [hWd, hBd])
    | (obtain ⟨B, W, hBd, hWd⟩ : ∃ B W, w'.heap.size = B ∧ w'.alloc (.cells #[.slice a1 n1 c1, .bool o] 24) = W := ⟨_, _, rfl, rfl⟩
       have hBw : w1.heap.size ≤ B := by rw [← hBd]; exact HX.size
       have hBW : W.heap[B]? = some (.cells #[.slice a1 n1 c1, .bool o] 24 (0, 0)) := by rw [← hWd, ← hBd]; exact heap_alloc_new _ _
       have hXW : Ext w1 W := by rw [← hWd]; exact HX.trans (Ext.alloc _ _)
       have hOW : Own W w1.heap.size 5 (.slice a1 n1 c1) l := by rw [← hWd]; exact O1.ext (Ext.alloc _ _)
       rw [hWd, hBd])
  all_goals
    have hRI : RI w1 B ((l, o), []) (.slice none 0 0) W := ⟨a1, n1, c1, hBW, hOW, World.ownsRow_nil _ _ _ _, hXW⟩
    have hxi : ∀ x : UInt8, x ≠ 10 → ((x.toNat : Int) == 10) = false := fun x hx => by rw [beq_eq_false_iff_ne]; intro h; exact hx (UInt8.toNat_inj.1 (by show x.toNat = 10; omega))
    (try clear v0 v1 v2 v3 hBX O2 HY)
    clear hBd hWd hBW hXW hOW O1 HX hx1 hbo
    (try clear hHeld)
    have hB1h := Lib.hid hB1
    clear hB0 hB1 y0 y1 hb1 hb
    go_wp2_with fail
    go_loopw [8, 9] (fun out i wr => ∃ (k : Nat) (st : Cn × List Cn), k ≤ n2 ∧ i = .int .i64 k ∧ feedR (l, o) [] l2 = feedR st.1 st.2 (l2.drop k) ∧ st.2.length ≤ k ∧ crt st.1 = true ∧ RI w1 B st out wr) (fun _ i _ => n2 - (intOf i).toNat)
    case atStart => exact ⟨0, ((l, o), []), Nat.zero_le _, rfl, rfl, Nat.le_refl _, hc, hRI⟩
    case round =>
      obtain ⟨k, ⟨⟨q, bo⟩, out⟩, hk, rfl, hfe, hol, hcr, p, n', c', hBr, hO, hP, hX⟩ := hrel
      dsimp only at hfe hol hcr hBr hO hP
      have hq := ((crt_iff (q, bo)).1 hcr).2.1
      have hqn := ((crt_iff (q, bo)).1 hcr).2.2
      dsimp only at hq hqn
      have hn' := hO.bs_at.len
      have hBlt := lt_of_block hBr
      have c0 : wr.cell? ⟨B, 0, none⟩ = some (.slice p n' c') := by simp [World.cell?, hBr]
      have c1 : wr.cell? ⟨B, 1, none⟩ = some (.bool bo) := by simp [World.cell?, hBr]
      have f0 : wr.frozen? ⟨B, 0, none⟩ = false := by simp [World.frozen?, hBr]
      have f1 : wr.frozen? ⟨B, 1, none⟩ = false := by simp [World.frozen?, hBr]
      by_cases hlt : k < n2
      · obtain ⟨b2, o2, rfl, hc2⟩ := hb2.at (by omega)
        have hkl : k < l2.length := by rw [hlen2.out]; exact hlt
        have hcw := hc2 k hkl
        have hcell := (hxw1.trans hX).cell (hc2 k hkl)
        have hdr : l2.drop k = l2[k] :: l2.drop (k + 1) := List.drop_eq_getElem_cons hkl
        obtain ⟨x, hxk⟩ : ∃ x, x = l2[k] := ⟨_, rfl⟩
        rw [hdr] at hfe
        rw [← hxk] at hcell hfe hcw
        rw [feedR_cons] at hfe
        clear hc2 hxk hdr
        have hFE := Lib.hid hfe
        have hOh := Lib.hid hO
        have hPh := Lib.hid hP
        have hqh := Lib.hid hqn
        have hcwh := Lib.hid hcw
        clear hfe hO hP hqn hcw
        by_cases hx10 : x = 10
        · subst hx10
          have hstr := hOh.out.bs_at.string (P := Try.prog) 22 5 9 Try.underlying22 Try.underlying5 Try.underlying9
          have hcl := Lib.hid (cell_two_new wr (.string ⟨q.toArray⟩) (.bool bo) 37 wr.heap.size rfl)
          have hz1' : Hid (out.length + 1 ≤ maxLen) := by show _ ≤ _; unfold maxLen; omega
          have hz2' : Hid ((out.length + 1) * 24 ≤ 140737488355328) := by show _ ≤ _; omega
          have hz3' : Hid (w1.heap.size ≤ (wr.alloc (.cells #[.string ⟨q.toArray⟩, .bool bo] 37)).heap.size) := by have := hX.size; show _ ≤ _; rw [World.size_alloc]; omega
          go_wp2_with (at_builtin; refine wpList_append_own _ rfl _ _ 27 rfl w1.heap.size 37 i0 (.agg #[.string ⟨#[]⟩, .bool false]) 2 24 Try.underlying27 hi hz0 hz1 hz2 rfl (by decide) _ _ _ rfl (hPh.out.alloc _) ⟨wr.heap.size, 0, none⟩ 1 1 [.string ⟨q.toArray⟩, .bool bo] rfl rfl hcl.out (by simp [Value.oneCell']) hz1'.out hz2'.out hz3'.out ?_)
          intro v' w5 hown5 hgrow _
          obtain ⟨g', cap', rfl⟩ := ownsRow_succ hown5
          have j0 : w5.heap[B]? = some (.cells #[.slice p n' c', .bool bo] 24 (0, 0)) := (hgrow.block B (by simp; omega) (fun e => owns_other hPh.out hBr (by decide) e.symm)).trans ((Below.heap_alloc wr _ B hBlt).trans hBr)
          have m0 : w5.cell? ⟨B, 0, none⟩ = some (.slice p n' c') := by simp [World.cell?, j0]
          have m1 : w5.cell? ⟨B, 1, none⟩ = some (.bool bo) := by simp [World.cell?, j0]
          have g0 : w5.frozen? ⟨B, 0, none⟩ = false := by simp [World.frozen?, j0]
          have g1 : w5.frozen? ⟨B, 1, none⟩ = false := by simp [World.frozen?, j0]
          go_wp2
          have hx5 : Ext w1 w5 := (hX.trans (Ext.alloc _ _)).grown hgrow (fun k e => owns_row hPh.out k e)
          have hBh := Nat.le_of_lt hBlt
          go_roundw
          case rel =>
            refine ⟨k + 1, (([], false), out ++ [(q, bo)]), by omega, by go_num, by rw [hFE.out]; simp only [if_true], by simp; omega, crt_new, none, 0, 0, two_setCell j0, own_nil _ _ _, ?_, ?_⟩
            · have hpc : pcells (out ++ [(q, bo)]) = pcells out ++ [.string ⟨q.toArray⟩, .bool bo] := by rw [pcells_append]; rfl
              dsimp only
              rw [hpc, List.length_append]
              have hne := owns_other hown5 j0 (by decide)
              exact owns_put (owns_put hown5 hne 0 _) hne 1 _
            · exact Below.setCell (p := ⟨B, 1, none⟩) (Below.setCell (p := ⟨B, 0, none⟩) hx5 hBw _) hBw _
          case measure => simp [intOf]; omega
        · cases bo with
          | true =>
            go_wp2
            go_roundw
            case rel =>
              have hbs : bstep (q, true) x = (q, true) := rfl
              exact ⟨k + 1, ((q, true), out), by omega, by go_num, by rw [hFE.out, if_neg hx10, hbs], by dsimp only; omega, hcr, p, n', c', hBr, hOh.out, hPh.out, hX⟩
            case measure => simp [intOf]; omega
          | false =>
            by_cases h200 : n' = 200
            · subst h200
              go_wp2
              go_roundw
              case rel =>
                have hbs : bstep (q, false) x = ([], true) := by unfold bstep; simp [hn']
                have hne := owns_other hPh.out hBr (by decide)
                exact ⟨k + 1, (([], true), out), by omega, by go_num, by rw [hFE.out, if_neg hx10, hbs], by dsimp only; omega, by simp [crt], none, 0, 0, two_setCell hBr, own_nil _ _ _, owns_put (owns_put hPh.out hne 0 _) hne 1 _, Below.setCell (p := ⟨B, 1, none⟩) (Below.setCell (p := ⟨B, 0, none⟩) hX hBw _) hBw _⟩
              case measure => simp [intOf]; omega
            · have hHX := Ext.refl wr
              have hby : Hid (Value.int .u8 (x.toNat : Int) = bv x) := rfl
              go_wp2
              have hb2lt := World.block_lt_of_cell? wr _ hcell
              go_region_law
                (first
                  | (refine step_own rfl _ _ 22 5 rfl Try.underlying22 infoU8 (base := w1.heap.size) (v := .slice p n' c') (lb := q) rfl ?hO rfl (l := [x]) ?hS ?hb0 ?hby ?hpos ?_; (case hO => (first | exact hOh.out.ext (Ext.alloc _ _) | exact (hOh.out.ext (Ext.alloc _ _)).ext (Ext.drewN _ 1))); (case hS => (first | exact Bs.one_of _ _ _ hby.out _ | exact (Bs.one_of _ _ _ hby.out _).ext (Ext.drewN _ 1))); (case hb0 => (have h9 := hX.size; simp; omega)); (case hby => (simp; omega)); (case hpos => simp); intro g' n5 c5 w5 O5 hgrow; have hx5 : Ext w1 w5 := (by first | exact (hX.trans (Ext.alloc _ _)).grown hgrow (fun k e => owns_row hOh.out k e) | exact ((hX.trans (Ext.alloc _ _)).trans (Ext.drewN _ 1)).grown hgrow (fun k e => owns_row hOh.out k e)); have j0 := (hgrow.block B (by simp; omega) (fun e => owns_other hOh.out hBr (by decide) e.symm)).trans ((Below.heap_alloc wr (.cells #[.int .u8 (x.toNat : Int)] 5) B hBlt).trans hBr); have m0 : w5.cell? ⟨B, 0, none⟩ = some (.slice p n' c') := (by simp [World.cell?, j0]); have m2 := (hxw1.trans hx5).cell hcwh.out; have g0 : w5.frozen? ⟨B, 0, none⟩ = false := (by simp [World.frozen?, j0]); have P5 := (by first | exact (owns_ext hPh.out (Ext.alloc _ _)).kept hgrow (owns_apart hPh.out hOh.out (by decide)) | exact (owns_ext (owns_ext hPh.out (Ext.alloc _ _)) (Ext.drewN _ 1)).kept hgrow (owns_apart hPh.out hOh.out (by decide)) : w5.ownsRow w1.heap.size 37 2 u8 out.length (pcells out))))
              all_goals
                go_wp2
                go_roundw
                case rel =>
                  have hbs : bstep (q, false) x = (q ++ [x], false) := by unfold bstep; simp [hn', h200]
                  have hcr2 := bstep_crt (q, false) x hx10 hcr
                  rw [hbs] at hcr2
                  refine ⟨k + 1, ((q ++ [x], false), out), by omega, by go_num, by rw [hFE.out, if_neg hx10, hbs], by dsimp only; omega, hcr2, some ⟨g', 0, none⟩, n5, c5, ?_, ?_, ?_, ?_⟩
                  · have := at_setCell j0 0 (.slice (some ⟨g', 0, none⟩) n5 c5)
                    simpa using this
                  · first | exact owns_put O5 (owns_other O5 j0 (by decide)) 0 _ | exact Own.ext (owns_put O5 (owns_other O5 j0 (by decide)) 0 _) (Ext.drewN _ 1)
                  · first | exact owns_put P5 (owns_other P5 j0 (by decide)) 0 _ | exact owns_ext (owns_put P5 (owns_other P5 j0 (by decide)) 0 _) (Ext.drewN _ 1)
                  · first | exact Below.setCell (p := ⟨B, 0, none⟩) hx5 hBw _ | exact Ext.trans (show Ext w1 _ from Below.setCell (p := ⟨B, 0, none⟩) hx5 hBw _) (Ext.drewN _ 1)
                case measure => simp [intOf]; omega
      · obtain rfl : k = n2 := by omega
        rw [List.drop_of_length_le (by rw [hlen2.out]; exact Nat.le_refl _)] at hfe
        have hFE : Hid (feedR (l, o) [] l2 = ((q, bo), out)) := hfe
        have d1 := (hX.block (w.heap.size + 1) (by omega)).trans hB1h.out
        have z2 : wr.cell? ⟨w.heap.size + 1, 0, none⟩ = some (.slice none 0 0) := by simp [World.cell?, d1]
        have z3 : wr.cell? ⟨w.heap.size + 1, 1, none⟩ = some (.bool false) := by simp [World.cell?, d1]
        have z4 : wr.frozen? ⟨w.heap.size + 1, 0, none⟩ = false := by simp [World.frozen?, d1]
        have z5 : wr.frozen? ⟨w.heap.size + 1, 1, none⟩ = false := by simp [World.frozen?, d1]
        have hOh := Lib.hid hO
        have hPh := Lib.hid hP
        clear hfe hO hP hqn
        go_wp2
        obtain ⟨W2, hW2⟩ : ∃ W2, ((wr.setCell ⟨w.heap.size + 1, 0, none⟩ (.slice p n' c')).setCell ⟨w.heap.size + 1, 1, none⟩ (.bool bo)) = W2 := ⟨_, rfl⟩
        have hr1 : W2.heap[w.heap.size + 1]? = some (.cells #[.slice p n' c', .bool bo] 24 (0, 0)) := by rw [← hW2]; exact two_setCell d1
        have hx3 : Ext w W2 := by
          rw [← hW2]
          exact Below.setCell (p := ⟨w.heap.size + 1, 1, none⟩) (Below.setCell (p := ⟨w.heap.size + 1, 0, none⟩) (hxw1.trans hX) (by show w.heap.size ≤ w.heap.size + 1; omega) _) (by show w.heap.size ≤ w.heap.size + 1; omega) _
        have hO2 : Own W2 w1.heap.size 5 (.slice p n' c') q := by
          rw [← hW2]
          exact ownsRow_setCell_below (a := ⟨w.heap.size + 1, 1, none⟩) (ownsRow_setCell_below (a := ⟨w.heap.size + 1, 0, none⟩) hOh.out (by show w.heap.size + 1 < _; omega) _) (by show w.heap.size + 1 < _; omega) _
        have hP2 : W2.ownsRow w1.heap.size 37 2 u8 out.length (pcells out) := by
          rw [← hW2]
          exact ownsRow_setCell_below (a := ⟨w.heap.size + 1, 1, none⟩) (ownsRow_setCell_below (a := ⟨w.heap.size + 1, 0, none⟩) hPh.out (by show w.heap.size + 1 < _; omega) _) (by show w.heap.size + 1 < _; omega) _
        rw [hW2]
        have q0 : W2.cell? ⟨w.heap.size + 1, 0, none⟩ = some (.slice p n' c') := by simp [World.cell?, hr1]
        have q1 : W2.cell? ⟨w.heap.size + 1, 1, none⟩ = some (.bool bo) := by simp [World.cell?, hr1]
        refine bodyPost_ret (v := .tuple #[.agg #[.slice p n' c', .bool bo], u8, .int .i64 0]) (by simp [results, Try.results9, go_sem, q0, q1]) rfl ?_
        rw [hFE.out]
        exact ⟨p, n', c', u8, rfl, hO2.bs_at, owns_mono hP2 (by omega), hx3⟩
end Go.Proofs.Ytbekhbgeghhcaaa
