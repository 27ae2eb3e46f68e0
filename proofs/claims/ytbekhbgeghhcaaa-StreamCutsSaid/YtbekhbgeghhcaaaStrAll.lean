/-
  Layer 19's contracts: more bytes than are fed; the pieces of all chunks.
-/
import Derived.Test.YtbekhbgeghhcaaaLaw19a
namespace Go.Proofs.Ytbekhbgeghhcaaa
open Go.RowKit

theorem feed_gx (a : Option Addr) (n c : Nat) (l : List UInt8) (o : Bool) (a2 : Option Addr) (n2 c2 : Nat) (l2 : List UInt8) (w : World) (hb : Bs w a n c l) (hb2 : Bs w a2 n2 c2 l2) (hc : crt (l, o) = true) (hn2 : n2 ≤ 100000)
    (st : Cn × List Cn) (hst : feedR (l, o) [] l2 = st) :
    Calls Try.prog 8 #[cv a n c o, .slice a2 n2 c2] w fun e w' => ∃ a3 n3 c3 a4 n4 c4, e = .returned (.tuple #[cv a3 n3 c3 st.1.2, .slice a4 n4 c4, .int .i64 0]) ∧ Bs w' a3 n3 c3 st.1.1 ∧
      Ps w' a4 n4 c4 st.2 ∧ w'.ownsRow w.heap.size 37 2 (.slice a4 n4 c4) st.2.length (pcells st.2) ∧ Ext w w' ∧ (0 < n3 → ∀ x, a3 = some x → w.heap.size ≤ x.block) := by
  refine (feed_yesx a n c l o a2 n2 c2 l2 w hb hb2 hc hn2).mono ?_
  rw [hst]
  rintro e w' ⟨a3, n3, c3, vp, rfl, hb3, ho, hx, hy⟩
  obtain ⟨a4, n4, c4, rfl, hp⟩ := ps_of ho
  exact ⟨a3, n3, c3, a4, n4, c4, rfl, hb3, hp, ho, hx, hy⟩

/-- How many bytes are told. -/
def mny : Nat → List (List UInt8) → Nat
  | m, [] => m
  | m, l :: L => if m ≤ 5000 then mny (m + min l.length 10000) L else m
theorem mny_le : ∀ (L : List (List UInt8)) (m : Nat), mny m L ≤ 5000 → L.flatten.length + m ≤ 5000
  | [], m, h => by simpa [mny] using h
  | l :: L, m, h => by
    rw [mny] at h
    split at h
    · have := mny_le L _ h
      rw [List.flatten_cons, List.length_append]
      omega
    · omega
/-- Are there too many? -/
def manyR (L : List (List UInt8)) : Bool := decide (5000 < mny L.length L)
theorem manyR_few (L : List (List UInt8)) (h : manyR L = false) : L.flatten.length + L.length ≤ 5000 := by
  unfold manyR at h
  exact mny_le L _ (by simpa using h)
set_option maxRecDepth 100000 in
set_option maxHeartbeats 800000 in
theorem many_calls (a : Option Addr) (n c : Nat) (L : List (List UInt8)) (w : World) (hb : Bss w a n c L) :
    Calls Try.prog 16 #[.slice a n c] w fun e w' => e = .returned (.bool (manyR L)) ∧ w' = w := by
  have hlen := Lib.hid hb.len
  obtain ⟨vs, hs, hv⟩ := hb
  have hm := Nat.le_trans hs.le hs.max
  unfold maxLen at hm
  have hvl := Lib.hid hv.1
  obtain ⟨r, hr⟩ : ∃ r, manyR L = r := ⟨_, rfl⟩
  have hr2 : Hid (decide (5000 < mny n L) = r) := by rw [← hlen.out]; exact hr
  rw [hr]
  clear hr
  go_enter Try.func16, Try.ntmps16
  go_wp2
  go_loop [3, 4] (fun s i => ∃ k m : Nat, k ≤ n ∧ i = .int .i64 k ∧ s = .int .i64 m ∧ Hid (mny n L = mny m (L.drop k)) ∧ m ≤ n + 20000) (fun _ i => n - (intOf i).toNat)
  case atStart => exact ⟨0, n, by omega, rfl, rfl, rfl, by omega⟩
  case round =>
    obtain ⟨k, m, hk, rfl, rfl, hm1, hm2⟩ := hrel
    by_cases hlt : k < n
    · obtain ⟨b, o, rfl, hc⟩ := hs.at_ (by omega)
      have hkL : k < L.length := by rw [hlen.out]; exact hlt
      have hkv : k < vs.length := by rw [hvl.out]; exact hkL
      obtain ⟨ak, nk, ck, h1, h2⟩ := hv.2 k hkL
      have hcell := hc k hkv
      rw [List.getElem?_eq_getElem hkv] at h1
      rw [Option.some.inj h1] at hcell
      have hnk := Lib.hid h2.len
      have hnm := Nat.le_trans (Sl.le h2) (Sl.max h2)
      unfold maxLen at hnm
      have hdr : L.drop k = L[k] :: L.drop (k + 1) := List.drop_eq_getElem_cons hkL
      have hm3 := hm1.out
      rw [hdr, mny, hnk.out] at hm3
      clear hc h1 h2 hdr
      by_cases h5 : (m : Int) ≤ 5000
      · rw [if_pos (by omega)] at hm3
        have hm4 := Lib.hid hm3
        clear hm3
        go_wp2
        go_round
        case rel => exact ⟨k + 1, m + min nk 10000, by omega, by go_num, by go_num, hm4, by omega⟩
        case measure => simp [intOf]; omega
      · rw [if_neg (by omega)] at hm3
        have h6 := hr2.out
        rw [hm3, decide_eq_true (by omega)] at h6
        subst h6
        clear hm3
        go_wp2
        go_ret
        exact ⟨rfl, rfl⟩
    · obtain rfl : k = n := by omega
      have hm3 := hm1.out
      rw [List.drop_of_length_le (by rw [hlen.out]; exact Nat.le_refl _), mny] at hm3
      have h6 := hr2.out
      rw [hm3] at h6
      have h7 : Hid (decide (5000 < (m : Int)) = r) := by
        show _ = _
        rw [← h6]
        by_cases h : 5000 < m
        · rw [decide_eq_true h, decide_eq_true (by omega)]
        · rw [decide_eq_false h, decide_eq_false (by omega)]
      clear hm3 h6
      go_wp2
      go_ret
      exact ⟨ret_bool h7.out, rfl⟩

theorem pcells_one (l : List Cn) : ∀ u ∈ pcells l, u.oneCell' = true := by
  intro u hu
  unfold pcells at hu
  rw [List.mem_flatMap] at hu
  obtain ⟨x, _, hx⟩ := hu
  simp at hx
  rcases hx with rfl | rfl <;> rfl
/-- A chunk more. -/
theorem feed_more (c : Cn) (out : List Cn) (l m : List UInt8) (st : Cn × List Cn) (h : feedR c out l = st) : feedR c out (l ++ m) = ((feedR st.1 [] m).1, st.2 ++ (feedR st.1 [] m).2) := by
  rw [feedR_append, h, feedR_out]
theorem feed_len (l : List UInt8) (c : Cn) : (feedR c [] l).2.length ≤ l.length := by
  rw [feedR_count]
  have := @List.count_le_length _ _ (10 : UInt8) l
  simp
  exact this
theorem Bs.same {W W' : World} {p : Option Addr} {n c : Nat} {l : List UInt8} (h : Bs W p n c l) (hs : 0 < n → ∀ x, p = some x → x.block < W.heap.size → W'.heap[x.block]? = W.heap[x.block]?) : Bs W' p n c l :=
  ⟨Sl.len h, Sl.le h, Sl.max h, Sl.nil h, fun hn => by
    obtain ⟨b, o, ha, hc⟩ := Sl.at_ h hn
    refine ⟨b, o, ha, fun i hi => ?_⟩
    have hlt := World.block_lt_of_cell? W _ (hc i hi)
    exact (World.cell?_of_block (a := ⟨b, o + i, none⟩) (hs hn ⟨b, o, none⟩ ha hlt)).trans (hc i hi)⟩
/-- The state between two chunks: a connection in its box, pieces of the call's own. -/
def AI (w0 : World) (s : Nat) (st : Cn × List Cn) (all : Value) (wr : World) : Prop :=
  ∃ p n c, wr.heap[s]? = some (.cells #[.slice p n c, .bool st.1.2] 24 (0, 0)) ∧ Bs wr p n c st.1.1 ∧ (0 < n → ∀ x, p = some x → s < x.block) ∧
    wr.ownsRow (s + 1) 37 2 all st.2.length (pcells st.2) ∧ Ext w0 wr

set_option maxRecDepth 100000 in
set_option maxHeartbeats 1600000 in
theorem all_calls (a : Option Addr) (n c : Nat) (L : List (List UInt8)) (w : World) (hb : Bss w a n c L) (hf : L.flatten.length + L.length ≤ 5000) :
    Calls Try.prog 17 #[.slice a n c] w fun e w' => ∃ a4 n4 c4, e = .returned (.slice a4 n4 c4) ∧ Ps w' a4 n4 c4 (feedR ([], false) [] L.flatten).2 ∧ Ext w w' := by
  have hlen := Lib.hid hb.len
  obtain ⟨vs, hs, hv⟩ := hb
  have hm := Nat.le_trans hs.le hs.max
  unfold maxLen at hm
  have hvl := Lib.hid hv.1
  have hfh := Lib.hid hf
  clear hf
  go_enter Try.func17, Try.ntmps17
  go_wp2
  go_loopw [4, 12] (fun all i wr => ∃ (k : Nat) (st : Cn × List Cn), k ≤ n ∧ i = .int .i64 k ∧ Hid (feedR ([], false) [] (L.take k).flatten = st) ∧ AI w w.heap.size st all wr) (fun _ i _ => n - (intOf i).toNat)
  case atStart => exact ⟨0, (([], false), []), by omega, rfl, rfl, none, 0, 0, heap_alloc_new _ _, bs_nil _, fun h => absurd h (by omega), World.ownsRow_nil _ _ _ _, Ext.alloc _ _⟩
  case round =>
    obtain ⟨k, ⟨⟨q, bo⟩, out⟩, hk, rfl, hst, p, n', c', hB, hbq, hpp, ho, hX⟩ := hrel
    dsimp only at hB hbq ho
    by_cases hlt : k < n
    · obtain ⟨b, o, rfl, hc⟩ := hs.at_ (by omega)
      have hkL : k < L.length := by rw [hlen.out]; exact hlt
      have hkv : k < vs.length := by rw [hvl.out]; exact hkL
      obtain ⟨ak, nk, ck, h1, h2⟩ := hv.2 k hkL
      have hcell := hX.cell (hc k hkv)
      rw [List.getElem?_eq_getElem hkv] at h1
      rw [Option.some.inj h1] at hcell
      have hcr : crt (q, bo) = true := by have := feedR_crt (L.take k).flatten ([], false) [] rfl; rwa [hst.out] at this
      have htk := flatten_take_succ L k hkL
      have hle1 := flatten_take_le L (k + 1)
      have hst2 := Lib.hid (feed_more ([], false) [] (L.take k).flatten L[k] _ hst.out)
      have hol : out.length ≤ (L.take k).flatten.length := by have := feed_len (L.take k).flatten ([], false); rwa [hst.out] at this
      have hpl := feed_len L[k] (q, bo)
      have hfo := hfh.out
      have h2l := h2.len
      rw [htk, List.length_append] at hle1
      have hol2 : out.length + (feedR (q, bo) [] L[k]).2.length ≤ 5000 := by omega
      have hnk : nk ≤ 100000 := by omega
      have htkh := Lib.hid htk
      dsimp only at hst2
      obtain ⟨⟨⟨q2, bo2⟩, pl⟩, hs2⟩ : ∃ st, feedR (q, bo) [] L[k] = st := ⟨_, rfl⟩
      rw [hs2] at hst2 hol2
      dsimp only at hol2
      have hfd := feed_gx p n' c' q bo ak nk ck L[k] wr hbq (h2.ext hX) hcr hnk _ hs2
      unfold cv at hfd
      have y0 : wr.cell? ⟨w.heap.size, 0, none⟩ = some (.slice p n' c') := by simp [World.cell?, hB]
      have y1 : wr.cell? ⟨w.heap.size, 1, none⟩ = some (.bool bo) := by simp [World.cell?, hB]
      have hsl := lt_of_block hB
      have hoh := Lib.hid ho
      clear hc h1 h2 htk hle1 hpl hfo h2l hs2 hst hol ho hbq hpp
      go_wp2_with fail
      refine hfd.mono ?_
      rintro e w3 ⟨a3, n3, c3, a4, n4, c4, rfl, hb3, hp4, ho4, hx3, hd3⟩
      dsimp only at hb3 hp4 ho4 ⊢
      have k0 := (hx3.block _ hsl).trans hB
      have hsl3 := lt_of_block k0
      have u0 : w3.cell? ⟨w.heap.size, 0, none⟩ = some (.slice p n' c') := by simp [World.cell?, k0]
      have u1 : w3.cell? ⟨w.heap.size, 1, none⟩ = some (.bool bo) := by simp [World.cell?, k0]
      have z0 : w3.frozen? ⟨w.heap.size, 0, none⟩ = false := by simp [World.frozen?, k0]
      have z1 : w3.frozen? ⟨w.heap.size, 1, none⟩ = false := by simp [World.frozen?, k0]
      have q0 : ((w3.setCell ⟨w.heap.size, 0, none⟩ (.slice a3 n3 c3)).setCell ⟨w.heap.size, 1, none⟩ (.bool bo2)).ownsRow (w.heap.size + 1) 37 2 u4 out.length (pcells out) :=
        ownsRow_setCell_below (a := ⟨w.heap.size, 1, none⟩) (ownsRow_setCell_below (a := ⟨w.heap.size, 0, none⟩) (owns_ext hoh.out hx3) (Nat.lt_succ_self _) _) (Nat.lt_succ_self _) _
      have q1 : ((w3.setCell ⟨w.heap.size, 0, none⟩ (.slice a3 n3 c3)).setCell ⟨w.heap.size, 1, none⟩ (.bool bo2)).ownsRow wr.heap.size 37 2 (.slice a4 n4 c4) pl.length (pcells pl) :=
        ownsRow_setCell_below (a := ⟨w.heap.size, 1, none⟩) (ownsRow_setCell_below (a := ⟨w.heap.size, 0, none⟩) ho4 hsl _) hsl _
      have hs4 : ((w3.setCell ⟨w.heap.size, 0, none⟩ (.slice a3 n3 c3)).setCell ⟨w.heap.size, 1, none⟩ (.bool bo2)).heap.size = w3.heap.size := by simp [World.setCell]
      have hBx : ((w3.setCell ⟨w.heap.size, 0, none⟩ (.slice a3 n3 c3)).setCell ⟨w.heap.size, 1, none⟩ (.bool bo2)).heap[w.heap.size]? = some (.cells #[.slice a3 n3 c3, .bool bo2] 24 (0, 0)) := two_setCell k0
      have hb4 : Bs ((w3.setCell ⟨w.heap.size, 0, none⟩ (.slice a3 n3 c3)).setCell ⟨w.heap.size, 1, none⟩ (.bool bo2)) a3 n3 c3 q2 := (hb3.put _ 0 _ (fun hn x e => by have := hd3 hn x e; omega)).put _ 1 _ (fun hn x e => by have := hd3 hn x e; omega)
      have hx4 : Ext w ((w3.setCell ⟨w.heap.size, 0, none⟩ (.slice a3 n3 c3)).setCell ⟨w.heap.size, 1, none⟩ (.bool bo2)) := Below.setCell (p := ⟨w.heap.size, 1, none⟩) (Below.setCell (p := ⟨w.heap.size, 0, none⟩) (hX.trans hx3) (Nat.le_refl _) _) (Nat.le_refl _) _
      have e0 := Lib.hid (q0.alloc (.cells #[.slice a3 n3 c3, .bool bo2] 24))
      obtain ⟨a4', n4', c4', he4, hpA⟩ := ps_of (q1.alloc (.cells #[.slice a3 n3 c3, .bool bo2] 24))
      obtain ⟨rfl, rfl, rfl⟩ : a4' = a4 ∧ n4' = n4 ∧ c4' = c4 := by cases he4; exact ⟨rfl, rfl, rfl⟩
      have hpAh := Lib.hid hpA
      have hp4l := hp4.len
      have hz1 : Hid ((out.length + n4') * 24 ≤ 140737488355328) := by show _ ≤ _; omega
      have hz2 : Hid (out.length + n4' ≤ maxLen) := by show _ ≤ _; unfold maxLen; omega
      have hsl3b : wr.heap.size ≤ w3.heap.size := hx3.size
      have hz3 : Hid (w.heap.size + 1 ≤ (((w3.setCell ⟨w.heap.size, 0, none⟩ (.slice a3 n3 c3)).setCell ⟨w.heap.size, 1, none⟩ (.bool bo2)).alloc (.cells #[.slice a3 n3 c3, .bool bo2] 24)).heap.size) := by show _ ≤ _; rw [World.size_alloc, hs4]; omega
      have hon : ∀ k, Value.ownBlock u4 = some k → k < wr.heap.size := fun k hk => (World.ownsRow.lt hoh.out k hk).2
      have hb4h := Lib.hid hb4
      have hBxh := Lib.hid hBx
      have hx4h := Lib.hid hx4
      clear q0 q1 hb4 hBx hx4 hpA he4 ho4 hp4
      go_wp2_with (at_builtin; refine wpList_append_sl rfl _ _ 27 rfl (w.heap.size + 1) 37 Try.underlying27 infoPiece rfl (by decide) _ _ _ rfl e0.out _ _ _ (pcells pl) rfl hpAh.out (pcells_one pl) hz1.out hz2.out hz3.out ?_)
      intro v' w5 hown5 hgrow
      have hsame : ∀ k, k < w3.heap.size → Value.ownBlock u4 ≠ some k → w5.heap[k]? = ((w3.setCell ⟨w.heap.size, 0, none⟩ (.slice a3 n3 c3)).setCell ⟨w.heap.size, 1, none⟩ (.bool bo2)).heap[k]? := fun k hk hne => (hgrow.block k (by rw [World.size_alloc, hs4]; omega) (fun e => hne e.symm)).trans (Below.heap_alloc _ _ k (by rw [hs4]; omega))
      go_wp2
      go_roundw
      case rel =>
        refine ⟨k + 1, ((q2, bo2), out ++ pl), by omega, by go_num, by show _ = _; rw [htkh.out, hst2.out], a3, n3, c3, ?_, ?_, fun hn x e => by have := hd3 hn x e; omega, ?_, ?_⟩
        · exact (hsame _ (by omega) (fun e => by have := owns_row hoh.out _ e; omega)).trans hBxh.out
        · refine Bs.same hb4h.out (fun hn x e hlt5 => hsame _ (by rw [hs4] at hlt5; exact hlt5) (fun e5 => ?_))
          have h1 := hd3 hn x e
          have h2 := hon _ e5
          omega
        · dsimp only
          rw [pcells_append, List.length_append, hp4l]
          exact hown5
        · exact (hx4h.out.trans (Ext.alloc _ _)).grown hgrow (fun k e => Nat.le_of_succ_le (owns_row e0.out k e))
      case measure => simp [intOf]; omega
    · obtain rfl : k = n := by omega
      have htk : (L.take k).flatten = L.flatten := by rw [List.take_of_length_le (by rw [hlen.out]; exact Nat.le_refl _)]
      have hst2 : Hid (feedR ([], false) [] L.flatten = ((q, bo), out)) := by rw [← htk]; exact hst
      have hoh := Lib.hid ho
      clear hst ho htk
      go_wp2
      go_ret
      obtain ⟨a4, n4, c4, he, hp⟩ := ps_of hoh.out
      rw [hst2.out]
      subst he
      exact ⟨_, _, _, rfl, hp, hX⟩
end Go.Proofs.Ytbekhbgeghhcaaa
