/-
  Layer 19's contracts: Feed: what a round keeps, and the walk.
-/
import Derived.Test.YtbekhbgeghhcaaaStrParts
import Derived.Test.YtbekhbgeghhcaaaStrGrown
import Derived.RangeFuncBox
import Derived.Shelf.RegionOpen
namespace Go.Proofs.Ytbekhbgeghhcaaa
open Go.RowKit
attribute [local go_sem] Oper.semAt_some

/-- Pieces as cells. -/
def pcells (l : List Cn) : List Value := l.flatMap fun x => [.string ⟨x.1.toArray⟩, .bool x.2]
theorem pcells_append (l m : List Cn) : pcells (l ++ m) = pcells l ++ pcells m := by simp [pcells]
theorem pcells_length (l : List Cn) : (pcells l).length = l.length * 2 := by
  induction l with
  | nil => rfl
  | cons x l ih => simp only [pcells, List.flatMap_cons, List.length_append, List.length_cons, List.length_nil] at ih ⊢; omega
/-- What has been made of the parts that came. -/
def fst {w : World} (c0 : Cn) (pre : List (Part w)) : Cn × List Cn := (pre.map (·.1.1)).foldl pstep (c0, [])
theorem fst_snoc {w : World} (c0 : Cn) (pre : List (Part w)) (x : Part w) : fst c0 (pre ++ [x]) = pstep (fst c0 pre) x.1.1 := by simp [fst]
theorem grow_le (c : Cn) (p : List UInt8) : (grow c p).1.length ≤ 200 := by
  unfold grow
  split
  · simp
  · rename_i h
    simp at h ⊢; omega
theorem psteps_le : ∀ (xs : List Cn) (s : Cn × List Cn), s.1.1.length ≤ 200 → (xs.foldl pstep s).1.1.length ≤ 200 ∧ (xs.foldl pstep s).2.length ≤ s.2.length + xs.length
  | [], s, h => ⟨h, by simp⟩
  | x :: xs, s, h => by
    rw [List.foldl_cons]
    have hs : (pstep s x).1.1.length ≤ 200 ∧ (pstep s x).2.length ≤ s.2.length + 1 := by
      unfold pstep
      split
      · simp
      · exact ⟨grow_le _ _, by simp⟩
    have := psteps_le xs (pstep s x) hs.1
    simp only [List.length_cons]
    omega
theorem fst_le {w : World} (c0 : Cn) (h0 : c0.1.length ≤ 200) (pre : List (Part w)) : (fst c0 pre).1.1.length ≤ 200 ∧ (fst c0 pre).2.length ≤ pre.length := by
  have := psteps_le (pre.map (·.1.1)) (c0, []) h0
  unfold fst
  simpa using this
theorem grown_calls (a : Option Addr) (n c : Nat) (l : List UInt8) (o : Bool) (a2 : Option Addr) (n2 c2 : Nat) (l2 : List UInt8) (w : World) (hb : Bs w a n c l) (hb2 : Bs w a2 n2 c2 l2) (hn : n ≤ 200) :
    Calls Try.prog 19 #[cv a n c o, .slice a2 n2 c2] w fun e w' => ∃ a3 n3 c3, e = .returned (cv a3 n3 c3 (grow (l, o) l2).2) ∧ Bs w' a3 n3 c3 (grow (l, o) l2).1 ∧ (0 < n3 → ∀ x, a3 = some x → w.heap.size ≤ x.block) ∧ Ext w w' := by
  have hl := hb.len
  have hl2 := hb2.len
  by_cases hno : o = true ∨ 200 < n + n2
  · refine (grown_no a n c o a2 n2 c2 w hno hn).mono ?_
    rintro e w' ⟨rfl, hx⟩
    have hg : grow (l, o) l2 = ([], true) := by
      unfold grow; rw [if_pos]; simp [hl, hl2]; exact hno
    rw [hg]
    exact ⟨none, 0, 0, rfl, bs_nil _, fun h => absurd h (by omega), hx⟩
  · have ho : o = false := by cases o <;> simp_all
    subst ho
    refine (grown_yes a n c l a2 n2 c2 l2 w hb hb2 (by omega)).mono ?_
    rintro e w' ⟨a3, n3, c3, rfl, ho, hx⟩
    have hg : grow (l, false) l2 = (l ++ l2, false) := by
      unfold grow; rw [if_neg]; simp [hl, hl2]; omega
    rw [hg]
    refine ⟨a3, n3, c3, rfl, ho.bs_at, fun h x hx => ?_, hx⟩
    have hn3 := ho.bs_at.len
    obtain ⟨g, hg, hb, _⟩ := ho.addr (by omega)
    subst hx
    cases hg
    exact hb
/-- Between two rounds: G: where the pieces' box lies; behind it the iterator's. -/
def FI (w : World) (G : Nat) (c0 : Cn) (pre : List (Part w)) (W : World) : Prop :=
  ∃ p n c vp, W.heap[w.heap.size]? = some (.cells #[.slice p n c, .bool (fst c0 pre).1.2] 24 (0, 0)) ∧
    W.heap[w.heap.size + 1]? = some (.cells #[.slice none 0 0, .bool false] 24 (0, 0)) ∧
    W.heap[G]? = some (.cells #[vp] 27 (0, 0)) ∧
    Bs W p n c (fst c0 pre).1.1 ∧ (0 < n → ∀ x, p = some x → (pre = [] ∧ x.block < w.heap.size) ∨ G + 2 ≤ x.block) ∧
    W.ownsRow (G + 2) 37 2 vp (fst c0 pre).2.length (pcells (fst c0 pre).2) ∧ Ext w W ∧ G + 2 ≤ W.heap.size
theorem Bs.kept {W W' : World} {row : Option Nat} {p : Option Addr} {n c : Nat} {l : List UInt8} (h : Bs W p n c l) (hg : W.grownBy W' row) (hr : ∀ r, row = some r → ∃ o : Obj, W.heap[r]? = some o ∧ o.isCells = false) : Bs W' p n c l :=
  ⟨Sl.len h, Sl.le h, Sl.max h, Sl.nil h, fun hn => by
    obtain ⟨b, o, ha, hc⟩ := Sl.at_ h hn
    exact ⟨b, o, ha, fun i hi => cell_kept (hc i hi) hg hr⟩⟩
theorem Bs.put {W : World} {p : Option Addr} {n c : Nat} {l : List UInt8} (h : Bs W p n c l) (B : Nat) (k : Nat) (v : Value) (hB : 0 < n → ∀ x, p = some x → x.block ≠ B) : Bs (W.setCell ⟨B, k, none⟩ v) p n c l :=
  ⟨Sl.len h, Sl.le h, Sl.max h, Sl.nil h, fun hn => by
    obtain ⟨b, o, ha, hc⟩ := Sl.at_ h hn
    refine ⟨b, o, ha, fun i hi => (World.cell?_of_block (a := ⟨b, o + i, none⟩) ?_).trans (hc i hi)⟩
    exact Below.heap_setCell _ _ _ _ (hB hn ⟨b, o, none⟩ ha)⟩
theorem owns_keptc {W W' : World} {row : Option Nat} {base : Nat} {e : TypeId} {size : Nat} {v : Value} {n : Nat} {xs : List Value} (h : W.ownsRow base e size v n xs) (hg : W.grownBy W' row) (hr : ∀ r, row = some r → ∃ o : Obj, W.heap[r]? = some o ∧ o.isCells = false) : W'.ownsRow base e size v n xs := by
  refine h.kept hg ?_
  rcases h.2 with ⟨rfl, _⟩ | ⟨g, cap, cur, rfl, _, hgb, _⟩
  · exact .inl rfl
  · refine .inr fun e' => ?_
    obtain ⟨o, ho, hc⟩ := hr g e'.symm
    rw [hgb] at ho
    cases ho
    cases hc
theorem FI_own (w : World) (G : Nat) (c0 : Cn) (B : Nat) (hB : w.heap.size ≤ B) : OwnFrom B (FI w G c0) := by
  rintro pre W W' row ⟨p, n, c, vp, h1, h2, h3, hb, hp, ho, hx, hsG⟩ hg hr
  have hr2 : ∀ r, row = some r → ∃ o : Obj, W.heap[r]? = some o ∧ o.isCells = false := fun r e => (hr r e).2
  exact ⟨p, n, c, vp, (grownBy_keeps_cells hg hr2 h1 rfl).trans h1, (grownBy_keeps_cells hg hr2 h2 rfl).trans h2, (grownBy_keeps_cells hg hr2 h3 rfl).trans h3, hb.kept hg hr2, hp, owns_keptc ho hg hr2, hx.grown hg (fun k e => Nat.le_trans hB (hr k e).1), Nat.le_trans hsG hg.size⟩
theorem FI_box (w : World) (G : Nat) (c0 : Cn) (hG : w.heap.size + 2 ≤ G) (pre : List (Part w)) (V : World) (v : Value) (h : FI w G c0 pre V) : FI w G c0 pre (V.setCell ⟨G + 1, 0, none⟩ v) := by
  obtain ⟨p, n, c, vp, h1, h2, h3, hb, hp, ho, hx, hsG⟩ := h
  exact ⟨p, n, c, vp, (Below.heap_setCell _ _ _ _ (by simp; omega)).trans h1, (Below.heap_setCell _ _ _ _ (by simp; omega)).trans h2, (Below.heap_setCell _ _ _ _ (by simp)).trans h3, hb.put _ _ _ (fun hn x e => by rcases hp hn x e with ⟨_, h⟩ | h <;> omega), hp, ownsRow_setCell_below ho (by simp) _, Below.setCell hx (by simp; omega) _, by simpa [World.setCell] using hsG⟩

theorem partsOf_ne : ∀ l : List UInt8, partsOf l ≠ []
  | [] => by simp [partsOf]
  | b :: l => by
    have ih := partsOf_ne l
    rw [partsOf]
    split
    · simp
    · cases h : partsOf l with
      | nil => exact absurd h ih
      | cons x r => obtain ⟨p, e⟩ := x; simp
theorem KpB_t (w : World) (B : Nat) {X Y Z : World} (h1 : KpB w B X Y) (h2 : KpB w B Y Z) : KpB w B X Z := fun hx => by
  obtain ⟨hy, e1, s1⟩ := h1 hx
  obtain ⟨hz, e2, s2⟩ := h2 hy
  exact ⟨hz, e2.trans e1, Nat.le_trans s1 s2⟩
theorem KpB_b {w wL : World} {B : Nat} (hw : w.heap.size ≤ wL.heap.size) (hB : B < wL.heap.size) (W : World) (l : Nat) (o o' : Obj) (hl : wL.heap.size ≤ l) (_ : W.heap[l]? = some o) (_ : o.isCells = false) : KpB w B W (W.putObj l o') := fun hx =>
  ⟨hx.grown (grownBy_putObj' W l o') (fun k e => by cases e; omega), World.putObj_heap_other (by omega), by simp⟩
theorem at_setCell {w : World} {b : Nat} {cs : Array Value} {t : TypeId} (h : w.heap[b]? = some (.cells cs t (0, 0))) (k : Nat) (u : Value) : (w.setCell ⟨b, k, none⟩ u).heap[b]? = some (.cells (cs.setIfInBounds k u) t (0, 0)) := by
  obtain ⟨hb, he⟩ := Array.getElem?_eq_some_iff.1 h
  show (w.heap.modify b _)[b]? = _
  rw [Array.getElem?_eq_getElem (by simpa using hb), Array.getElem_modify_self, he]
  rfl
theorem two_setCell {w : World} {b : Nat} {v0 v1 u0 u1 : Value} {t : TypeId} (h : w.heap[b]? = some (.cells #[v0, v1] t (0, 0))) : ((w.setCell ⟨b, 0, none⟩ u0).setCell ⟨b, 1, none⟩ u1).heap[b]? = some (.cells #[u0, u1] t (0, 0)) := by
  have := at_setCell (at_setCell h 0 u0) 1 u1
  simpa using this
theorem cell_two_new (w : World) (x y : Value) (t : TypeId) (g : Nat) (hg : w.heap.size = g) : ∀ j u, [x, y][j]? = some u → (w.alloc (.cells #[x, y] t)).cell? ((⟨g, 0, none⟩ : Addr).add j) = some u := by
  subst hg
  intro j u hj
  match j, hj with
  | 0, hj => simp at hj; subst hj; simp [Addr.add, World.cell?_alloc_at]
  | 1, hj => simp at hj; subst hj; simp [Addr.add, World.cell?_alloc_at]
theorem appended_below {W4 w5 : World} {o : Obj} {base : Nat} {e : TypeId} {v : Value} {n : Nat} {xs : List Value} (ho : W4.ownsRow base e 2 v n xs) (hg : (W4.alloc o).grownBy w5 v.ownBlock) (hs : base ≤ W4.heap.size) (b : Nat) (hb : b < base) : w5.heap[b]? = W4.heap[b]? :=
  (hg.block b (by simp; omega) (fun e => by have := owns_row ho b e.symm; omega)).trans (Below.heap_alloc W4 o b (by omega))
theorem ext_keeps {W W' : World} (hx : Ext W W') : KeepsOthers W W' := KeepsOthers.of_grownBy (row := none) ⟨hx.os, hx.tape, hx.output, hx.size, fun k hk _ => hx.block k hk⟩ (fun _ _ e => by cases e)
theorem owns_mono {w : World} {base base' : Nat} {e : TypeId} {size : Nat} {v : Value} {n : Nat} {xs : List Value} (h : w.ownsRow base e size v n xs) (hb : base' ≤ base) : w.ownsRow base' e size v n xs := by
  refine ⟨h.1, ?_⟩
  rcases h.2 with h | ⟨g, cap, cur, hv, hg, r⟩
  · exact .inl h
  · exact .inr ⟨g, cap, cur, hv, Nat.le_trans hb hg, r⟩
theorem infoPiece : (Try.prog.info? 37).map (fun i => (i.zero, i.size, i.bytes)) = some (some (.agg #[.string ⟨#[]⟩, .bool false]), 2, 24) := by kernel_rfl

set_option maxRecDepth 100000 in
set_option maxHeartbeats 1600000 in
theorem feed_yesx (a : Option Addr) (n c : Nat) (l : List UInt8) (o : Bool) (a2 : Option Addr) (n2 c2 : Nat) (l2 : List UInt8) (w : World) (hb : Bs w a n c l) (hb2 : Bs w a2 n2 c2 l2) (hc : crt (l, o) = true) (hn2 : n2 ≤ 100000) :
    Calls Try.prog 8 #[cv a n c o, .slice a2 n2 c2] w fun e w' => ∃ a3 n3 c3 vp, e = .returned (.tuple #[cv a3 n3 c3 (feedR (l, o) [] l2).1.2, vp, .int .i64 0]) ∧ Bs w' a3 n3 c3 (feedR (l, o) [] l2).1.1 ∧
      w'.ownsRow w.heap.size 37 2 vp (feedR (l, o) [] l2).2.length (pcells (feedR (l, o) [] l2).2) ∧ Ext w w' ∧ (0 < n3 → ∀ x, a3 = some x → w.heap.size ≤ x.block) := by
  have hlen := hb.len
  have hlen2 := hb2.len
  have hc3 := (crt_iff (l, o)).1 hc
  obtain ⟨i0, hi, hz0, hz1, hz2⟩ := info_parts infoPiece
  unfold cv
  have hx1 := Ext.alloc w (.cells #[.slice a n c, .bool o] 24)
  have hx2 := hx1.trans (Ext.alloc _ (.cells #[.slice none 0 0, .bool false] 24))
  have hr := right_calls a n c l o _ (hb.ext hx2)
  rw [hc] at hr
  refine (callsIn_wide (n := 8)).1 ?_
  refine callsIn_of_wp_marks Try.func8 rfl trivial ?_ rfl
  simp only [Try.ntmps8, List.size_toArray, List.length_cons, List.length_nil, Nat.reduceAdd, Nat.reduceSub, Array.replicate_succ, Array.replicate_zero, List.push_toArray, List.append_toArray, List.nil_append, List.cons_append]
  gi_wp2
  refine ⟨trivial, (callsIn_wide.2 hr).mono ?_⟩
  rintro e w1 ⟨rfl, hxr⟩
  have hB0 := hxr.block w.heap.size (by simp; omega)
  have hB1 := hxr.block (w.heap.size + 1) (by simp)
  have hszr := hxr.size
  rw [Below.heap_alloc _ _ w.heap.size (by simp), heap_alloc_new] at hB0
  have hB2 := heap_alloc_new (w.alloc (.cells #[.slice a n c, .bool o] 24)) (.cells #[.slice none 0 0, .bool false] 24)
  simp only [World.size_alloc] at hB2
  rw [hB2] at hB1
  clear hB2
  have hxw1 := hx2.trans hxr
  simp only [World.size_alloc] at hszr
  have hps := parts_calls a2 n2 c2 (w1.alloc (.cells #[.slice none 0 0] 27))
  gi_wp2
  refine ⟨trivial, (callsIn_wide.2 hps).mono ?_⟩
  rintro e w2 ⟨rfl, rfl⟩
  gi_wp2
  obtain ⟨G, hG⟩ : ∃ G, w1.heap.size = G := ⟨_, rfl⟩
  have hGs : w.heap.size + 2 ≤ G := by omega
  have hxw2 : Ext w ((w1.alloc (.cells #[.slice none 0 0] 27)).alloc (.cells #[.slice a2 n2 c2] 22)) := (hxw1.trans (Ext.alloc _ _)).trans (Ext.alloc _ _)
  have hG0 : ((w1.alloc (.cells #[.slice none 0 0] 27)).alloc (.cells #[.slice a2 n2 c2] 22)).heap[G]? = some (.cells #[.slice none 0 0] 27 (0, 0)) := by
    rw [Below.heap_alloc _ _ _ (by simp; omega), ← hG]; exact heap_alloc_new _ _
  have hG1 : ((w1.alloc (.cells #[.slice none 0 0] 27)).alloc (.cells #[.slice a2 n2 c2] 22)).heap[G + 1]? = some (.cells #[.slice a2 n2 c2] 22 (0, 0)) := by
    have := heap_alloc_new (w1.alloc (.cells #[.slice none 0 0] 27)) (.cells #[.slice a2 n2 c2] 22)
    rwa [World.size_alloc, hG] at this
  have hsz2 : ((w1.alloc (.cells #[.slice none 0 0] 27)).alloc (.cells #[.slice a2 n2 c2] 22)).heap.size = G + 2 := by simp [hG]
  have hBs0 := ((Below.heap_alloc (w1.alloc (.cells #[.slice none 0 0] 27)) (.cells #[.slice a2 n2 c2] 22) w.heap.size (by simp; omega)).trans (Below.heap_alloc w1 (.cells #[.slice none 0 0] 27) w.heap.size (by omega))).trans hB0
  have hBs1 := ((Below.heap_alloc (w1.alloc (.cells #[.slice none 0 0] 27)) (.cells #[.slice a2 n2 c2] 22) (w.heap.size + 1) (by simp; omega)).trans (Below.heap_alloc w1 (.cells #[.slice none 0 0] 27) (w.heap.size + 1) (by omega))).trans hB1
  rw [hG]
  obtain ⟨wL, hwL⟩ : ∃ wL, ((w1.alloc (.cells #[.slice none 0 0] 27)).alloc (.cells #[.slice a2 n2 c2] 22)) = wL := ⟨_, rfl⟩
  rw [hwL] at hxw2 hG0 hG1 hsz2 hBs0 hBs1 ⊢
  have hofs : 0 < n → ∀ x, a = some x → (([] : List (Part w)) = [] ∧ x.block < w.heap.size) ∨ G + 2 ≤ x.block := fun hn x hx => by
    obtain ⟨b, off, hab, hcell⟩ := hb.at_ hn
    rw [hab] at hx
    cases hx
    have := hcell 0 (by rw [bvs_length]; omega)
    exact .inl ⟨rfl, World.block_lt_of_cell? w _ this⟩
  refine wpIn_rangeFunc_box rfl (by decide) (gf := 22) (lb := #[.pointer (some ⟨G + 1, 0, none⟩)]) rfl trivial (enters_of Try.func22 (by kernel_rfl) rfl)
    (parts_seq (w0 := w) 7 (G + 1) a2 n2 c2 l2 wL (by decide) hxw2 hG1 (by omega) hb2) (KpB_t w (G + 1)) (KpB_b hxw2.size (by omega)) (Below.refl _ _) (fun _ => rfl)
    (FI w G (l, o)) (FI_own w G (l, o) _ hxw2.size) (fun s V v => FI_box w G (l, o) hGs s V v)
    ⟨a, n, c, .slice none 0 0, hBs0, hBs1, hG0, hb.ext hxw2, hofs, World.ownsRow_nil _ _ _ _, hxw2, Nat.le_of_eq hsz2.symm⟩
    (fun x => { tmps := #[.agg #[.slice a n c, .bool o], .slice a2 n2 c2, .pointer (some ⟨w.heap.size, 0, none⟩), undef, .pointer (some ⟨w.heap.size + 1, 0, none⟩), .slice none 0 0, .int .i64 0, .pointer (some ⟨G, 0, none⟩), .slice x.1.2.1 x.1.2.2.1 x.1.2.2.2, .bool x.1.1.2,
      .agg #[.slice a n c, .bool o], .bool true, .bool false, undef, .slice a2 n2 c2, .func (.func 22) #[] #[.pointer (some ⟨G + 1, 0, none⟩)], .slice x.1.2.1 x.1.2.2.1 x.1.2.2.2, .bool x.1.1.2, undef, undef, undef, undef, undef, undef, undef, undef, undef, undef, undef, undef, undef, undef, undef, undef], defers := [] }) ?assign ?body ?done
  case assign =>
    intro lp x W K hK
    dsimp only [partV]
    gi_wp2
    exact hK
  case body =>
    rintro lp pre ⟨⟨⟨pb, pe⟩, ⟨pa, pn, pc⟩⟩, hpx⟩ W ⟨p, n', c', vp, h1, h2, h3, hbp, hp, ho, hx, hsG⟩ hlen3
    dsimp only at hpx
    have hle := fst_le (l, o) hc3.2.1 pre
    have hsn := fst_snoc (l, o) pre ⟨((pb, pe), (pa, pn, pc)), hpx⟩
    obtain ⟨xx, hxx⟩ : ∃ x : Part w, x = ⟨((pb, pe), (pa, pn, pc)), hpx⟩ := ⟨_, rfl⟩
    rw [← hxx] at hsn
    obtain ⟨⟨⟨q, bo⟩, out⟩, hst⟩ : ∃ st, fst (l, o) pre = st := ⟨_, rfl⟩
    rw [hst] at h1 hbp ho hle hsn
    dsimp only at h1 hbp ho hle
    have hsn2 : fst (l, o) (pre ++ [xx]) = pstep ((q, bo), out) (pb, pe) := by rw [hsn, hxx]
    clear hsn
    dsimp only
    rw [← hxx]
    clear hxx
    have hgr := grown_calls p n' c' q bo pa pn pc pb W hbp (hpx.ext hx) (by have := hbp.len; omega)
    unfold cv at hgr
    have y0 : W.cell? ⟨w.heap.size, 0, none⟩ = some (.slice p n' c') := by simp [World.cell?, h1]
    have y1 : W.cell? ⟨w.heap.size, 1, none⟩ = some (.bool bo) := by simp [World.cell?, h1]
    have hlt0 := lt_of_block h1
    have hltG := lt_of_block h3
    obtain ⟨⟨q3, bo3⟩, hgq⟩ : ∃ g, grow (q, bo) pb = g := ⟨_, rfl⟩
    rw [hgq] at hgr
    dsimp only at hgr
    cases pe with
    | false =>
      gi_wp2
      refine ⟨trivial, (CallsIn.inRound lp (callsIn_wide.2 hgr)).mono ?_⟩
      rintro e w3 ⟨a3, n3, c3, rfl, hb3, ha3, hx3⟩
      have k1 := (hx3.block _ hlt0).trans h1
      have u0 : w3.cell? ⟨w.heap.size, 0, none⟩ = some (.slice p n' c') := by simp [World.cell?, k1]
      have u1 : w3.cell? ⟨w.heap.size, 1, none⟩ = some (.bool bo) := by simp [World.cell?, k1]
      have z0 : w3.frozen? ⟨w.heap.size, 0, none⟩ = false := by simp [World.frozen?, k1]
      have z1 : w3.frozen? ⟨w.heap.size, 1, none⟩ = false := by simp [World.frozen?, k1]
      gi_wp2
      have hx4 : Ext w ((w3.setCell ⟨w.heap.size, 0, none⟩ (.slice a3 n3 c3)).setCell ⟨w.heap.size, 1, none⟩ (.bool bo3)) := Below.setCell (p := ⟨w.heap.size, 1, none⟩) (Below.setCell (p := ⟨w.heap.size, 0, none⟩) (hx.trans hx3) (Nat.le_refl _) _) (Nat.le_refl _) _
      have hs4 : ((w3.setCell ⟨w.heap.size, 0, none⟩ (.slice a3 n3 c3)).setCell ⟨w.heap.size, 1, none⟩ (.bool bo3)).heap.size = w3.heap.size := by simp [World.setCell]
      have hx3s := hx3.size
      have hoth : ∀ k, k ≠ w.heap.size → k < W.heap.size → ((w3.setCell ⟨w.heap.size, 0, none⟩ (.slice a3 n3 c3)).setCell ⟨w.heap.size, 1, none⟩ (.bool bo3)).heap[k]? = W.heap[k]? := fun k hk hl => ((Below.heap_setCell _ _ _ _ hk).trans (Below.heap_setCell _ _ _ _ hk)).trans (hx3.block k hl)
      refine ⟨(ext_keeps hx3).from _ |>.trans (((KeepsOthers.setCell _ _ _).trans (KeepsOthers.setCell _ _ _)).from _), fun hxw => ⟨hx4, hoth _ (by omega) (by omega), by rw [hs4]; exact hx3s⟩, a3, n3, c3, vp, ?_⟩
      rw [hsn2]
      have hps : pstep ((q, bo), out) (pb, false) = ((q3, bo3), out) := by unfold pstep; simp [hgq]
      rw [hps]
      refine ⟨two_setCell k1, (hoth _ (by omega) (by omega)).trans h2, (hoth _ (by omega) (by omega)).trans h3, (hb3.put _ 0 _ (fun hn x e => by have := ha3 hn x e; omega)).put _ 1 _ (fun hn x e => by have := ha3 hn x e; omega), fun hn x e => .inr (by have := ha3 hn x e; omega), ?_, hx4, by rw [hs4]; omega⟩
      exact ownsRow_setCell_below (a := ⟨w.heap.size, 1, none⟩) (ownsRow_setCell_below (a := ⟨w.heap.size, 0, none⟩) (owns_ext ho hx3) (by show w.heap.size < _; omega) _) (by show w.heap.size < _; omega) _
    | true =>
      gi_wp2
      refine ⟨trivial, (CallsIn.inRound lp (callsIn_wide.2 hgr)).mono ?_⟩
      rintro e w3 ⟨a3, n3, c3, rfl, hb3, ha3, hx3⟩
      have k1 := (hx3.block _ hlt0).trans h1
      have k3 := (hx3.block _ hltG).trans h3
      have u0 : w3.cell? ⟨w.heap.size, 0, none⟩ = some (.slice p n' c') := by simp [World.cell?, k1]
      have u1 : w3.cell? ⟨w.heap.size, 1, none⟩ = some (.bool bo) := by simp [World.cell?, k1]
      have u3 : w3.cell? ⟨G, 0, none⟩ = some vp := by simp [World.cell?, k3]
      have z0 : w3.frozen? ⟨w.heap.size, 0, none⟩ = false := by simp [World.frozen?, k1]
      have z1 : w3.frozen? ⟨w.heap.size, 1, none⟩ = false := by simp [World.frozen?, k1]
      have z3 : w3.frozen? ⟨G, 0, none⟩ = false := by simp [World.frozen?, k3]
      have hb4 : Bs ((w3.setCell ⟨w.heap.size, 0, none⟩ (.slice a3 n3 c3)).setCell ⟨w.heap.size, 1, none⟩ (.bool bo3)) a3 n3 c3 q3 := (hb3.put _ 0 _ (fun hn x e => by have := ha3 hn x e; omega)).put _ 1 _ (fun hn x e => by have := ha3 hn x e; omega)
      have hstr := hb4.string (P := Try.prog) 22 5 9 Try.underlying22 Try.underlying5 Try.underlying9
      have ho4 : ((w3.setCell ⟨w.heap.size, 0, none⟩ (.slice a3 n3 c3)).setCell ⟨w.heap.size, 1, none⟩ (.bool bo3)).ownsRow (G + 2) 37 2 vp out.length (pcells out) :=
        ownsRow_setCell_below (a := ⟨w.heap.size, 1, none⟩) (ownsRow_setCell_below (a := ⟨w.heap.size, 0, none⟩) (owns_ext ho hx3) (by show w.heap.size < _; omega) _) (by show w.heap.size < _; omega) _
      have hsz4 : ((w3.setCell ⟨w.heap.size, 0, none⟩ (.slice a3 n3 c3)).setCell ⟨w.heap.size, 1, none⟩ (.bool bo3)).heap.size = w3.heap.size := by simp [World.setCell]
      have hcl := Lib.hid (cell_two_new ((w3.setCell ⟨w.heap.size, 0, none⟩ (.slice a3 n3 c3)).setCell ⟨w.heap.size, 1, none⟩ (.bool bo3)) (.string ⟨q3.toArray⟩) (.bool bo3) 37 w3.heap.size hsz4)
      have hz1' : Hid (out.length + 1 ≤ maxLen) := by show _ ≤ _; unfold maxLen; omega
      have hz2' : Hid ((out.length + 1) * 24 ≤ 140737488355328) := by show _ ≤ _; omega
      have hx3s := hx3.size
      have hz3' : Hid (G + 2 ≤ (((w3.setCell ⟨w.heap.size, 0, none⟩ (.slice a3 n3 c3)).setCell ⟨w.heap.size, 1, none⟩ (.bool bo3)).alloc (.cells #[.string ⟨q3.toArray⟩, .bool bo3] 37)).heap.size) := by show _ ≤ _; rw [World.size_alloc, hsz4]; omega
      have k4 := two_setCell (u0 := .slice a3 n3 c3) (u1 := .bool bo3) k1
      have k5 : ((w3.setCell ⟨w.heap.size, 0, none⟩ (.slice a3 n3 c3)).setCell ⟨w.heap.size, 1, none⟩ (.bool bo3)).heap[G]? = some (.cells #[vp] 27 (0, 0)) := ((Below.heap_setCell _ _ _ _ (by show G ≠ w.heap.size; omega)).trans (Below.heap_setCell _ _ _ _ (by show G ≠ w.heap.size; omega))).trans k3
      have hz4' : G + 2 ≤ ((w3.setCell ⟨w.heap.size, 0, none⟩ (.slice a3 n3 c3)).setCell ⟨w.heap.size, 1, none⟩ (.bool bo3)).heap.size := by rw [hsz4]; omega
      have k4h := Lib.hid k4
      have k5h := Lib.hid k5
      have hz4h := Lib.hid hz4'
      clear k4 k5 hz4'
      have ho4h := Lib.hid ho4
      clear ho4
      gi_wp2_with (gi_at_builtin; refine wpListIn_append_own _ rfl _ _ 27 rfl (G + 2) 37 i0 (.agg #[.string ⟨#[]⟩, .bool false]) 2 24 Try.underlying27 hi hz0 hz1 hz2 rfl (by decide) _ _ _ rfl (ho4h.out.alloc _) ⟨w3.heap.size, 0, none⟩ 1 1 [.string ⟨q3.toArray⟩, .bool bo3] rfl rfl hcl.out (by simp [Value.oneCell']) hz1'.out hz2'.out hz3'.out ?hK)
      intro v' w5 hown5 hgrow _
      obtain ⟨g', cap', rfl⟩ := ownsRow_succ hown5
      have j0 := (appended_below ho4h.out hgrow hz4h.out w.heap.size (by omega)).trans k4h.out
      have jG := (appended_below ho4h.out hgrow hz4h.out G (by omega)).trans k5h.out
      have m0 : w5.cell? ⟨w.heap.size, 0, none⟩ = some (.slice a3 n3 c3) := by simp [World.cell?, j0]
      have m1 : w5.cell? ⟨w.heap.size, 1, none⟩ = some (.bool bo3) := by simp [World.cell?, j0]
      have mG : w5.cell? ⟨G, 0, none⟩ = some vp := by simp [World.cell?, jG]
      have f0 : w5.frozen? ⟨w.heap.size, 0, none⟩ = false := by simp [World.frozen?, j0]
      have f1 : w5.frozen? ⟨w.heap.size, 1, none⟩ = false := by simp [World.frozen?, j0]
      have fG : w5.frozen? ⟨G, 0, none⟩ = false := by simp [World.frozen?, jG]
      gi_wp2
      have hx4 : Ext w ((w3.setCell ⟨w.heap.size, 0, none⟩ (.slice a3 n3 c3)).setCell ⟨w.heap.size, 1, none⟩ (.bool bo3)) := Below.setCell (p := ⟨w.heap.size, 1, none⟩) (Below.setCell (p := ⟨w.heap.size, 0, none⟩) (hx.trans hx3) (Nat.le_refl _) _) (Nat.le_refl _) _
      have hgs := hgrow.size
      simp only [World.size_alloc, hsz4] at hgs
      have hx5 : Ext w w5 := (hx4.trans (Ext.alloc _ _)).grown hgrow (fun k e => by have := owns_row ho4h.out k e; omega)
      have hoth : ∀ k, k ≠ w.heap.size → k < G + 2 → w5.heap[k]? = W.heap[k]? := fun k hk hl => (((appended_below ho4h.out hgrow hz4h.out k hl).trans (Below.heap_setCell _ _ _ _ hk)).trans (Below.heap_setCell _ _ _ _ hk)).trans (hx3.block k (by omega))
      have hx6 : Ext w (((w5.setCell ⟨G, 0, none⟩ (.slice (some ⟨g', 0, none⟩) (out.length + 1) cap')).setCell ⟨w.heap.size, 0, none⟩ (.slice none 0 0)).setCell ⟨w.heap.size, 1, none⟩ (.bool false)) :=
        Below.setCell (p := ⟨w.heap.size, 1, none⟩) (Below.setCell (p := ⟨w.heap.size, 0, none⟩) (Below.setCell (p := ⟨G, 0, none⟩) hx5 (by show w.heap.size ≤ G; omega) _) (Nat.le_refl _) _) (Nat.le_refl _) _
      have hs6 : (((w5.setCell ⟨G, 0, none⟩ (.slice (some ⟨g', 0, none⟩) (out.length + 1) cap')).setCell ⟨w.heap.size, 0, none⟩ (.slice none 0 0)).setCell ⟨w.heap.size, 1, none⟩ (.bool false)).heap.size = w5.heap.size := by simp [World.setCell]
      have hoth6 : ∀ k, k ≠ w.heap.size → k ≠ G → k < G + 2 → (((w5.setCell ⟨G, 0, none⟩ (.slice (some ⟨g', 0, none⟩) (out.length + 1) cap')).setCell ⟨w.heap.size, 0, none⟩ (.slice none 0 0)).setCell ⟨w.heap.size, 1, none⟩ (.bool false)).heap[k]? = W.heap[k]? := fun k hk hG hl =>
        (((Below.heap_setCell _ _ _ _ hk).trans (Below.heap_setCell _ _ _ _ hk)).trans (Below.heap_setCell _ _ _ _ hG)).trans (hoth k hk hl)
      have hkk : KeepsOthers W w5 := (ext_keeps hx3).trans (((KeepsOthers.setCell _ _ _).trans (KeepsOthers.setCell _ _ _)).trans ((KeepsOthers.alloc _ _).trans (KeepsOthers.of_grownBy hgrow (fun j o e hj => by
        obtain ⟨cur, fr, hc⟩ := owns_block (ho4h.out.alloc (.cells #[.string ⟨q3.toArray⟩, .bool bo3] 37)) j e
        rw [hc] at hj; cases hj; rfl))))
      refine ⟨(hkk.trans ((KeepsOthers.setCell _ _ _).trans ((KeepsOthers.setCell _ _ _).trans (KeepsOthers.setCell _ _ _)))).from _, fun hxw => ⟨hx6, hoth6 _ (by omega) (by omega) (by omega), by rw [hs6]; omega⟩, none, 0, 0, .slice (some ⟨g', 0, none⟩) (out.length + 1) cap', ?_⟩
      rw [hsn2]
      have hps : pstep ((q, bo), out) (pb, true) = (([], false), out ++ [(q3, bo3)]) := by unfold pstep; simp [hgq]
      rw [hps]
      have hs5 : (w5.setCell ⟨G, 0, none⟩ (.slice (some ⟨g', 0, none⟩) (out.length + 1) cap')).heap[w.heap.size]? = some (.cells #[.slice a3 n3 c3, .bool bo3] 24 (0, 0)) := (Below.heap_setCell _ _ _ _ (by show w.heap.size ≠ G; omega)).trans j0
      refine ⟨two_setCell hs5, (hoth6 _ (by omega) (by omega) (by omega)).trans h2, ?_, bs_nil _, fun hn => absurd hn (by omega), ?_, hx6, by rw [hs6]; omega⟩
      · refine ((Below.heap_setCell _ _ _ _ (by show G ≠ w.heap.size; omega)).trans (Below.heap_setCell _ _ _ _ (by show G ≠ w.heap.size; omega))).trans ?_
        exact one_setCell jG
      · have hpc : pcells (out ++ [(q3, bo3)]) = pcells out ++ [.string ⟨q3.toArray⟩, .bool bo3] := by rw [pcells_append]; rfl
        rw [hpc, List.length_append]
        exact ownsRow_setCell_below (a := ⟨w.heap.size, 1, none⟩) (ownsRow_setCell_below (a := ⟨w.heap.size, 0, none⟩) (ownsRow_setCell_below (a := ⟨G, 0, none⟩) hown5 (by show G < _; omega) _) (by show w.heap.size < _; omega) _) (by show w.heap.size < _; omega) _
  case done =>
    rintro D xs W hD hS ⟨p, n', c', vp, h1, h2, h3, hbp, hp, ho, hx, hsG⟩ hK
    have y0 : W.cell? ⟨w.heap.size, 0, none⟩ = some (.slice p n' c') := by simp [World.cell?, h1]
    have y1 : W.cell? ⟨w.heap.size, 1, none⟩ = some (.bool (fst (l, o) xs).1.2) := by simp [World.cell?, h1]
    have y2 : W.cell? ⟨w.heap.size + 1, 0, none⟩ = some (.slice none 0 0) := by simp [World.cell?, h2]
    have y3 : W.cell? ⟨w.heap.size + 1, 1, none⟩ = some (.bool false) := by simp [World.cell?, h2]
    have y4 : W.cell? ⟨G, 0, none⟩ = some vp := by simp [World.cell?, h3]
    have z2 : W.frozen? ⟨w.heap.size + 1, 0, none⟩ = false := by simp [World.frozen?, h2]
    have z3 : W.frozen? ⟨w.heap.size + 1, 1, none⟩ = false := by simp [World.frozen?, h2]
    have hmx : Try.prog.follows .mixedOrders = true := by kernel_rfl
    gi_wp2
    gi_region_o
    gi_wp2
    have hkc : W.heap[D]? = some (.deferred (some [])) := hK
    have hD2 := ((KeepsOthers.setCell W ⟨w.heap.size + 1, 0, none⟩ (.slice p n' c')).trans ((KeepsOthers.setCell _ ⟨w.heap.size + 1, 1, none⟩ (.bool (fst (l, o) xs).1.2)).trans (KeepsOthers.drew _))).same D _ hK rfl
    obtain ⟨W2, hW2⟩ : ∃ W2, (((W.setCell ⟨w.heap.size + 1, 0, none⟩ (.slice p n' c')).setCell ⟨w.heap.size + 1, 1, none⟩ (.bool (fst (l, o) xs).1.2)).drew) = W2 := ⟨_, rfl⟩
    rw [hW2] at hD2 ⊢
    refine ⟨by simp, .inl ⟨_, _, rfl, run_takeDeferred hD2, ?_⟩⟩
    have hW3 : W.heap.size ≤ (W2.putObj D (.deferred none)).heap.size := by rw [← hW2]; simp [World.setCell]
    have hr1 : W2.heap[w.heap.size + 1]? = some (.cells #[.slice p n' c', .bool (fst (l, o) xs).1.2] 24 (0, 0)) := by rw [← hW2]; exact two_setCell h2
    have hr2 : (W2.putObj D (.deferred none)).heap[w.heap.size + 1]? = some (.cells #[.slice p n' c', .bool (fst (l, o) xs).1.2] 24 (0, 0)) := (World.putObj_heap_other (by omega)).trans hr1
    have hb2 : Bs W2 p n' c' (fst (l, o) xs).1.1 := by
      rw [← hW2]
      exact (((hbp.put _ 0 _ (fun hn x e => by rcases hp hn x e with ⟨_, h⟩ | h <;> omega)).put _ 1 _ (fun hn x e => by rcases hp hn x e with ⟨_, h⟩ | h <;> omega))).ext (Ext.drewN _ 1)
    have ho2 : W2.ownsRow (G + 2) 37 2 vp (fst (l, o) xs).2.length (pcells (fst (l, o) xs).2) := by
      rw [← hW2]
      exact owns_ext (ownsRow_setCell_below (a := ⟨w.heap.size + 1, 1, none⟩) (ownsRow_setCell_below (a := ⟨w.heap.size + 1, 0, none⟩) ho (by show w.heap.size + 1 < _; omega) _) (by show w.heap.size + 1 < _; omega) _) (Ext.drewN _ 1)
    have hx3 : Ext w W2 := by
      rw [← hW2]
      exact Ext.trans (show Ext w _ from Below.setCell (p := ⟨w.heap.size + 1, 1, none⟩) (Below.setCell (p := ⟨w.heap.size + 1, 0, none⟩) hx (by show w.heap.size ≤ w.heap.size + 1; omega) _) (by show w.heap.size ≤ w.heap.size + 1; omega) _) (Ext.drewN _ 1)
    have hkr : ∀ r, some D = some r → ∃ o : Obj, W2.heap[r]? = some o ∧ o.isCells = false := fun r e => by cases e; exact ⟨_, hD2, rfl⟩
    have hfs : fst (l, o) xs = feedR (l, o) [] l2 := by
      unfold fst
      rw [hS]
      exact feed_parts _ l2 (l, o) [] (Nat.le_refl _) hc
    rw [hfs] at hr2 hb2 ho2
    have q0 : (W2.putObj D (.deferred none)).cell? ⟨w.heap.size + 1, 0, none⟩ = some (.slice p n' c') := by simp [World.cell?, hr2]
    have q1 : (W2.putObj D (.deferred none)).cell? ⟨w.heap.size + 1, 1, none⟩ = some (.bool (feedR (l, o) [] l2).1.2) := by simp [World.cell?, hr2]
    refine ⟨.tuple #[.agg #[.slice p n' c', .bool (feedR (l, o) [] l2).1.2], vp, .int .i64 0], by simp [results, Try.results8, go_sem, q0, q1], ?_⟩
    exact ⟨p, n', c', vp, rfl, hb2.kept (grownBy_putObj' W2 D _) hkr, owns_mono (owns_keptc ho2 (grownBy_putObj' W2 D _) hkr) (by omega), hx3.grown (grownBy_putObj' W2 D _) (fun k e => by cases e; omega), fun hn x e => by
      rcases hp hn x e with ⟨h, _⟩ | h
      · rw [h] at hS; exact absurd hS.symm (partsOf_ne l2)
      · omega⟩
theorem feed_yes (a : Option Addr) (n c : Nat) (l : List UInt8) (o : Bool) (a2 : Option Addr) (n2 c2 : Nat) (l2 : List UInt8) (w : World) (hb : Bs w a n c l) (hb2 : Bs w a2 n2 c2 l2) (hc : crt (l, o) = true) (hn2 : n2 ≤ 100000) :
    Calls Try.prog 8 #[cv a n c o, .slice a2 n2 c2] w fun e w' => ∃ a3 n3 c3 vp, e = .returned (.tuple #[cv a3 n3 c3 (feedR (l, o) [] l2).1.2, vp, .int .i64 0]) ∧ Bs w' a3 n3 c3 (feedR (l, o) [] l2).1.1 ∧
      w'.ownsRow w.heap.size 37 2 vp (feedR (l, o) [] l2).2.length (pcells (feedR (l, o) [] l2).2) ∧ Ext w w' :=
  (feed_yesx a n c l o a2 n2 c2 l2 w hb hb2 hc hn2).mono fun _ _ ⟨a3, n3, c3, vp, h1, h2, h3, h4, _⟩ => ⟨a3, n3, c3, vp, h1, h2, h3, h4⟩
end Go.Proofs.Ytbekhbgeghhcaaa
