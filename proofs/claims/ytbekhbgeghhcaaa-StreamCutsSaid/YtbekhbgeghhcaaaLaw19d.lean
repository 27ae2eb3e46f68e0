/-
  Layer 19's statements: StreamCuts.
-/
import Derived.Test.YtbekhbgeghhcaaaStrAll
import Derived.Deep.RegionHeld3
namespace Go.Proofs.Ytbekhbgeghhcaaa
open Go.RowKit

theorem sameC_refl (c : Cn) : sameC c c = true := (sameC_iff c c).2 rfl
theorem cut_facts (u r nw cw : Nat) (h1 : u + r ≤ nw) (h2 : nw ≤ cw) (h3 : nw ≤ 5000) :
    (0 : Int) ≤ (u : Int) ∧ (u : Int) ≤ (u : Int) + (r : Int) ∧ (u : Int) + (r : Int) ≤ (cw : Int) ∧ IntKind.i64.wrap ((u : Int) + (r : Int)) = (u : Int) + (r : Int) ∧ ((u : Int) + (r : Int)).toNat = u + r ∧ u + r - u = r := by
  refine ⟨by omega, by omega, by omega, by rw [IntKind.wrap_i64]; omega, by omega, by omega⟩
theorem min_facts (x u nw : Nat) (h : u ≤ nw) : ∃ r : Nat, min (x : Int) ((nw : Int) - (u : Int)) = (r : Int) ∧ u + r ≤ nw :=
  ⟨min x (nw - u), by omega, by omega⟩
/-- Behind a chunk that was fed: the box turns, the pieces are appended. -/
theorem ai_step {w0 wr W w5 : World} {s : Nat} {c2 : Cn} {out pl : List Cn} {all v' : Value} {a3 : Option Addr} {n3 c3 : Nat} {p0 p1 : Value}
    (hs0 : w0.heap.size ≤ s) (hk : W.heap[s]? = some (.cells #[p0, p1] 24 (0, 0))) (hsl : s < wr.heap.size) (hxw : wr.heap.size ≤ W.heap.size) (hX : Ext w0 W)
    (ho : W.ownsRow (s + 1) 37 2 all out.length (pcells out)) (hon : ∀ k, all.ownBlock = some k → k < wr.heap.size)
    (hb3 : Bs W a3 n3 c3 c2.1) (hd3 : 0 < n3 → ∀ x, a3 = some x → wr.heap.size ≤ x.block)
    (hown5 : w5.ownsRow (s + 1) 37 2 v' (out.length + pl.length) (pcells out ++ pcells pl)) (hgrow : ((W.setCell ⟨s, 0, none⟩ (.slice a3 n3 c3)).setCell ⟨s, 1, none⟩ (.bool c2.2)).grownBy w5 all.ownBlock) :
    AI w0 s (c2, out ++ pl) v' w5 := by
  have hs4 : ((W.setCell ⟨s, 0, none⟩ (.slice a3 n3 c3)).setCell ⟨s, 1, none⟩ (.bool c2.2)).heap.size = W.heap.size := by simp [World.setCell]
  have hx4 : Ext w0 ((W.setCell ⟨s, 0, none⟩ (.slice a3 n3 c3)).setCell ⟨s, 1, none⟩ (.bool c2.2)) := Below.setCell (p := ⟨s, 1, none⟩) (Below.setCell (p := ⟨s, 0, none⟩) hX hs0 _) hs0 _
  have hb4 : Bs ((W.setCell ⟨s, 0, none⟩ (.slice a3 n3 c3)).setCell ⟨s, 1, none⟩ (.bool c2.2)) a3 n3 c3 c2.1 := (hb3.put _ 0 _ (fun hn x e => by have := hd3 hn x e; omega)).put _ 1 _ (fun hn x e => by have := hd3 hn x e; omega)
  have hbase : ∀ k, all.ownBlock = some k → s + 1 ≤ k := fun k e => owns_row ho k e
  refine ⟨a3, n3, c3, ?_, ?_, fun hn x e => by have := hd3 hn x e; omega, ?_, ?_⟩
  · exact (hgrow.block s (by rw [hs4]; omega) (fun e => by have := hbase s e.symm; omega)).trans (two_setCell hk)
  · refine Bs.same hb4 (fun hn x e hlt5 => hgrow.block _ hlt5 (fun e5 => ?_))
    have h1 := hd3 hn x e
    have h2 := hon _ e5.symm
    omega
  · dsimp only
    rw [pcells_append, List.length_append]
    exact hown5
  · exact hx4.grown hgrow (fun k e => by have := hbase k e; omega)

set_option maxRecDepth 100000 in
set_option maxHeartbeats 6400000 in
theorem cuts_walk (a : Option Addr) (n c : Nat) (L : List (List UInt8)) (a2 : Option Addr) (n2 c2 : Nat) (l2 : List UInt8) (w : World) (hb : Bss w a n c L) (hb2 : Bs w a2 n2 c2 l2) :
    Calls Try.prog 5 #[.slice a n c, .slice a2 n2 c2] w fun e w' => e = .returned (.bool true) ∧ Ext w w' := by
  have hal := alive19_calls w
  have hlen := Lib.hid hb.len
  have hlen2 := Lib.hid hb2.len
  cases hmr : manyR L with
  | true =>
    have hmc := fun w1 (h : Ext w w1) => many_calls a n c L w1 (hb.ext h)
    rw [hmr] at hmc
    go_enter Try.func5, Try.ntmps5
    go_wp2_with fail
    refine hal.mono ?_
    rintro e w1 ⟨rfl, hx1⟩
    go_wp2_with fail
    refine (hmc w1 hx1).mono ?_
    rintro e w1 ⟨rfl, rfl⟩
    go_wp2
    go_ret
    exact ⟨rfl, hx1⟩
  | false =>
    have hfew := manyR_few L hmr
    have hmc := fun w1 (h : Ext w w1) => many_calls a n c L w1 (hb.ext h)
    rw [hmr] at hmc
    by_cases g1 : (5000 : Int) < (n2 : Int)
    · go_enter Try.func5, Try.ntmps5
      go_wp2_with fail
      refine hal.mono ?_
      rintro e w1 ⟨rfl, hx1⟩
      go_wp2_with fail
      refine (hmc w1 hx1).mono ?_
      rintro e w1 ⟨rfl, rfl⟩
      go_wp2
      go_ret
      exact ⟨rfl, hx1⟩
    · have hac := Lib.hid (fun w1 (h : Ext w w1) => all_calls a n c L w1 (hb.ext h) hfew)
      obtain ⟨vs, hs, hv⟩ := hb
      have hm := Nat.le_trans hs.le hs.max
      unfold maxLen at hm
      have hvl := Lib.hid hv.1
      have hfh := Lib.hid hfew
      clear hfew hmr
      go_enter Try.func5, Try.ntmps5
      go_wp2_with fail
      refine hal.mono ?_
      rintro e w1 ⟨rfl, hx1⟩
      go_wp2_with fail
      refine (hmc w1 hx1).mono ?_
      rintro e w1 ⟨rfl, rfl⟩
      clear hal hmc
      go_wp2_with fail
      go_loopw [5, 6] (fun v i wr => ∃ k : Nat, k ≤ n ∧ i = .int .i64 k ∧ Own wr w1.heap.size 5 v ((L.take k).flatten) ∧ Ext w1 wr) (fun _ i _ => n - (intOf i).toNat)
      case atStart => exact ⟨0, by omega, rfl, by simpa using own_nil _ _ _, Ext.refl _⟩
      case round =>
        obtain ⟨k, hk, rfl, ho, hX⟩ := hrel
        by_cases hlt : k < n
        · obtain ⟨b, o, rfl, hc⟩ := hs.at_ (by omega)
          have hkL : k < L.length := by rw [hlen.out]; exact hlt
          have hkv : k < vs.length := by rw [hvl.out]; exact hkL
          obtain ⟨ak, nk, ck, h1, h2⟩ := hv.2 k hkL
          have hcell := (hx1.trans hX).cell (hc k hkv)
          rw [List.getElem?_eq_getElem hkv] at h1
          rw [Option.some.inj h1] at hcell
          have HF : Hid ((L.take (k + 1)).flatten = (L.take k).flatten ++ L[k]) := flatten_take_succ L k hkL
          have HL : Hid ((L.take k).flatten.length + nk ≤ 140737488355328) := by
            have h3 := flatten_take_le L (k + 1)
            have h4 := hfh.out
            rw [HF.out, List.length_append, h2.len] at h3
            show _ ≤ _
            omega
          have h2h := Lib.hid (h2.ext (hx1.trans hX))
          have hoh := Lib.hid ho
          clear hc h1 h2 ho
          go_wp2_with (at_builtin; refine wpList_append_bytes rfl _ _ 22 rfl w1 5 Try.underlying22 infoU8 _ _ rfl hoh.out hX _ nk _ _ rfl h2h.out HL.out ?_; intro v' w3 hown3 hx3 hgrow)
          go_roundw
          case rel => exact ⟨k + 1, by omega, by go_num, by rw [HF.out]; exact hown3, hx3⟩
          case measure => simp [intOf]; omega
        · obtain rfl : n = k := by omega
          have htk : (L.take n).flatten = L.flatten := by rw [List.take_of_length_le (by rw [hlen.out]; exact Nat.le_refl _)]
          rw [htk] at ho
          obtain ⟨aw, nw, cw, rfl, hbw⟩ := ho.bs
          have hxw := hx1.trans hX
          clear htk ho hX hx1
          obtain ⟨wA, hwA⟩ : ∃ wA, wA = wr := ⟨_, rfl⟩
          rw [← hwA] at hxw hbw ⊢
          clear hwA
          go_wp2_with fail
          go_loopw [8, 9] (fun lv i wr => ∃ (k : Nat) (st : Cn × List Cn), k ≤ n ∧ i = .int .i64 k ∧ Hid (feedR ([], false) [] (L.take k).flatten = st) ∧ AI wA wA.heap.size st lv wr) (fun _ i _ => n - (intOf i).toNat)
          case atStart => exact ⟨0, (([], false), []), by omega, rfl, rfl, none, 0, 0, heap_alloc_new _ _, bs_nil _, fun h => absurd h (by omega), World.ownsRow_nil _ _ _ _, Ext.alloc _ _⟩
          case round =>
            obtain ⟨k, ⟨⟨q, bo⟩, out⟩, hk, rfl, hst, p, n', c', hB, hbq, hpp, ho, hX⟩ := hrel
            dsimp only at hB hbq ho
            by_cases hlt : k < n
            · obtain ⟨b, o, rfl, hc⟩ := hs.at_ (by omega)
              have hkL : k < L.length := by rw [hlen.out]; exact hlt
              have hkv : k < vs.length := by rw [hvl.out]; exact hkL
              obtain ⟨ak, nk, ck, h1, h2⟩ := hv.2 k hkL
              have hcell := (hxw.trans hX).cell (hc k hkv)
              rw [List.getElem?_eq_getElem hkv] at h1
              rw [Option.some.inj h1] at hcell
              have hcr : crt (q, bo) = true := by have := feedR_crt (L.take k).flatten ([], false) [] rfl; rwa [hst.out] at this
              have htk := flatten_take_succ L k hkL
              have hle1 := flatten_take_le L (k + 1)
              have hst2 := Lib.hid (feed_more ([], false) [] (L.take k).flatten L[k] _ hst.out)
              have hol : out.length ≤ (L.take k).flatten.length := by have := feed_len (L.take k).flatten ([], false); rwa [hst.out] at this
              have hpl := feed_len L[k] (q, bo)
              have hfo := hfh.out
              have h2l := h2.len
              rw [htk, List.length_append] at hle1
              have hol2 : out.length + (feedR (q, bo) [] L[k]).2.length ≤ 5000 := by omega
              have hnk : nk ≤ 100000 := by omega
              have htkh := Lib.hid htk
              dsimp only at hst2
              obtain ⟨⟨⟨q2, bo2⟩, pl⟩, hs2⟩ : ∃ st, feedR (q, bo) [] L[k] = st := ⟨_, rfl⟩
              rw [hs2] at hst2 hol2
              dsimp only at hol2
              have hfd := fun W' (h : Ext wr W') => feed_gx p n' c' q bo ak nk ck L[k] W' (hbq.ext h) ((h2.ext (hxw.trans hX)).ext h) hcr hnk _ hs2
              unfold cv at hfd
              have hfdh := Lib.hid hfd
              have y0 : wr.cell? ⟨wA.heap.size, 0, none⟩ = some (.slice p n' c') := by simp [World.cell?, hB]
              have y1 : wr.cell? ⟨wA.heap.size, 1, none⟩ = some (.bool bo) := by simp [World.cell?, hB]
              have hsl := lt_of_block hB
              have hoh := Lib.hid ho
              have hon : ∀ k, Value.ownBlock u8 = some k → k < wr.heap.size := fun k hk => (World.ownsRow.lt hoh.out k hk).2
              have hcl2 := World.block_lt_of_cell? wr _ hcell
              clear hc h1 h2 htk hle1 hpl hfo h2l hs2 hst hol ho hbq hpp hfd
              have HX := Ext.refl wr
              go_wp2_with fail
              go_region_held3 (fun w' => w'.cell? ⟨wA.heap.size, 0, none⟩ = some (.slice p n' c') ∧ w'.cell? ⟨wA.heap.size, 1, none⟩ = some (.bool bo) ∧ w'.cell? ⟨b, o + k, none⟩ = some (.slice ak nk ck))
                (first | exact ⟨HX.cell y0, HX.cell y1, HX.cell hcell⟩ | (have HY := fun ob => HX.trans (Ext.alloc _ ob); exact ⟨(HY _).cell y0, (HY _).cell y1, (HY _).cell hcell⟩) | (have HY := fun ua ub => (show Ext wr _ from Below.setCell (p := ⟨wr.heap.size, 1, none⟩) (Below.setCell (p := ⟨wr.heap.size, 0, none⟩) HX (Nat.le_refl _) ua) (Nat.le_refl _) ub); exact ⟨(HY _ _).cell y0, (HY _ _).cell y1, (HY _ _).cell hcell⟩))
                (first
                  | (go_at_call 8; refine Calls.mono (hfdh.out _ (show Ext wr wr.drew from Ext.drewN _ 1)) ?_; rintro e w3 ⟨a3, n3, c3, a4, n4, c4, rfl, hb3, hp4, ho4, hx3, hd3⟩; replace HX := Ext.trans (show Ext wr wr.drew from Ext.drewN _ 1) hx3)
                  | (go_at_call 8; have HY := HX.trans (Ext.alloc _ (.cells #[.slice none 0 0, .bool false] 24)); refine Calls.mono (hfdh.out _ (show Ext wr (wr.alloc (.cells #[.slice none 0 0, .bool false] 24)).drew from HY.trans (Ext.drewN _ 1))) ?_; rintro e w3 ⟨a3, n3, c3, a4, n4, c4, rfl, hb3, hp4, ho4, hx3, hd3⟩; have hBX := (hx3.block wr.heap.size (by simp)).trans (heap_alloc_new wr (.cells #[.slice none 0 0, .bool false] 24)); have v0 : w3.cell? ⟨wr.heap.size, 0, none⟩ = some (.slice none 0 0) := (by simp [World.cell?, hBX]); have v1 : w3.cell? ⟨wr.heap.size, 1, none⟩ = some (.bool false) := (by simp [World.cell?, hBX]); have v2 : w3.frozen? ⟨wr.heap.size, 0, none⟩ = false := (by simp [World.frozen?, hBX]); have v3 : w3.frozen? ⟨wr.heap.size, 1, none⟩ = false := (by simp [World.frozen?, hBX]); replace HX := Ext.trans (show Ext wr (wr.alloc (.cells #[.slice none 0 0, .bool false] 24)).drew from HY.trans (Ext.drewN _ 1)) hx3))
              all_goals first
                | (obtain ⟨X, W, hXd, hWd⟩ : ∃ X W, wr.heap.size = X ∧ (w3.setCell ⟨wr.heap.size, 0, none⟩ (.slice a3 n3 c3)).setCell ⟨wr.heap.size, 1, none⟩ (.bool bo2) = W := ⟨_, _, rfl, rfl⟩
                   have hd4 : 0 < n3 → ∀ x, a3 = some x → wr.heap.size + 1 ≤ x.block := fun hn x e => by have := hd3 hn x e; simpa using this
                   have ho5 : w3.ownsRow (wr.heap.size + 1) 37 2 (.slice a4 n4 c4) pl.length (pcells pl) := owns_mono ho4 (by simp)
                   have hWX : W.heap[X]? = some (.cells #[.slice a3 n3 c3, .bool bo2] 24 (0, 0)) := by rw [← hWd, ← hXd]; exact two_setCell hBX
                   have hXW : Ext wr W := by rw [← hWd]; exact Below.setCell (p := ⟨wr.heap.size, 1, none⟩) (Below.setCell (p := ⟨wr.heap.size, 0, none⟩) HX (Nat.le_refl _) _) (Nat.le_refl _) _
                   have hbW : Bs W a3 n3 c3 q2 := by rw [← hWd]; exact (hb3.put _ 0 _ (fun hn x e => by have := hd4 hn x e; omega)).put _ 1 _ (fun hn x e => by have := hd4 hn x e; omega)
                   have hoW : W.ownsRow wr.heap.size 37 2 (.slice a4 n4 c4) pl.length (pcells pl) := by rw [← hWd]; exact owns_mono (ownsRow_setCell_below (a := ⟨wr.heap.size, 1, none⟩) (ownsRow_setCell_below (a := ⟨wr.heap.size, 0, none⟩) ho5 (Nat.lt_succ_self _) _) (Nat.lt_succ_self _) _) (Nat.le_succ _)
                   have hdW : 0 < n3 → ∀ x, a3 = some x → wr.heap.size ≤ x.block := fun hn x e => by have := hd4 hn x e; omega
                   rw [hWd, hXd])
                | (obtain ⟨X, W, hXd, hWd⟩ : ∃ X W, w3.heap.size = X ∧ w3.alloc (.cells #[.slice a3 n3 c3, .bool bo2] 24) = W := ⟨_, _, rfl, rfl⟩
                   have hWX : W.heap[X]? = some (.cells #[.slice a3 n3 c3, .bool bo2] 24 (0, 0)) := by rw [← hWd, ← hXd]; exact heap_alloc_new _ _
                   have hXW : Ext wr W := by rw [← hWd]; exact HX.trans (Ext.alloc _ _)
                   have hbW : Bs W a3 n3 c3 q2 := by rw [← hWd]; exact hb3.ext (Ext.alloc _ _)
                   have hoW : W.ownsRow wr.heap.size 37 2 (.slice a4 n4 c4) pl.length (pcells pl) := by rw [← hWd]; exact owns_ext ho4 (Ext.alloc _ _)
                   have hdW : 0 < n3 → ∀ x, a3 = some x → wr.heap.size ≤ x.block := hd3
                   rw [hWd, hXd])
              all_goals
                (try clear v0 v1 v2 v3 hBX HY hd4 ho5)
                clear hWd hXd hb3 hp4 ho4 hd3 HX hx3
                have k0 := (hXW.block _ hsl).trans hB
                have hsW := hXW.size
                have x0 : W.cell? ⟨X, 0, none⟩ = some (.slice a3 n3 c3) := by simp [World.cell?, hWX]
                have x1 : W.cell? ⟨X, 1, none⟩ = some (.bool bo2) := by simp [World.cell?, hWX]
                have u0 : W.cell? ⟨wA.heap.size, 0, none⟩ = some (.slice p n' c') := by simp [World.cell?, k0]
                have u1 : W.cell? ⟨wA.heap.size, 1, none⟩ = some (.bool bo) := by simp [World.cell?, k0]
                have z0 : W.frozen? ⟨wA.heap.size, 0, none⟩ = false := by simp [World.frozen?, k0]
                have z1 : W.frozen? ⟨wA.heap.size, 1, none⟩ = false := by simp [World.frozen?, k0]
                have hoO := owns_ext hoh.out hXW
                have e0 : Hid (((W.setCell ⟨wA.heap.size, 0, none⟩ (.slice a3 n3 c3)).setCell ⟨wA.heap.size, 1, none⟩ (.bool bo2)).ownsRow (wA.heap.size + 1) 37 2 u8 out.length (pcells out)) :=
                  ownsRow_setCell_below (a := ⟨wA.heap.size, 1, none⟩) (ownsRow_setCell_below (a := ⟨wA.heap.size, 0, none⟩) hoO (Nat.lt_succ_self _) _) (Nat.lt_succ_self _) _
                have e1 : ((W.setCell ⟨wA.heap.size, 0, none⟩ (.slice a3 n3 c3)).setCell ⟨wA.heap.size, 1, none⟩ (.bool bo2)).ownsRow wr.heap.size 37 2 (.slice a4 n4 c4) pl.length (pcells pl) :=
                  ownsRow_setCell_below (a := ⟨wA.heap.size, 1, none⟩) (ownsRow_setCell_below (a := ⟨wA.heap.size, 0, none⟩) hoW hsl _) hsl _
                obtain ⟨a4', n4', c4', he4, hpA⟩ := ps_of e1
                obtain ⟨rfl, rfl, rfl⟩ : a4' = a4 ∧ n4' = n4 ∧ c4' = c4 := by cases he4; exact ⟨rfl, rfl, rfl⟩
                have hp4l := hpA.len
                have hpAh := Lib.hid hpA
                have hz1 : Hid ((out.length + n4') * 24 ≤ 140737488355328) := by show _ ≤ _; omega
                have hz2 : Hid (out.length + n4' ≤ maxLen) := by show _ ≤ _; unfold maxLen; omega
                have hz3 : Hid (wA.heap.size + 1 ≤ ((W.setCell ⟨wA.heap.size, 0, none⟩ (.slice a3 n3 c3)).setCell ⟨wA.heap.size, 1, none⟩ (.bool bo2)).heap.size) := by show _ ≤ _; simp [World.setCell]; omega
                have hbWh := Lib.hid hbW
                have hoOh := Lib.hid hoO
                clear hoO e1 he4 hpA hbW hoW
                go_wp2_with (at_builtin; refine wpList_append_sl rfl _ _ 27 rfl (wA.heap.size + 1) 37 Try.underlying27 infoPiece rfl (by decide) _ _ _ rfl e0.out _ _ _ (pcells pl) rfl hpAh.out (pcells_one pl) hz1.out hz2.out hz3.out ?_)
                intro v' w5 hown5 hgrow
                go_wp2
                go_roundw
                case rel =>
                  refine ⟨k + 1, ((q2, bo2), out ++ pl), by omega, by go_num, by show _ = _; rw [htkh.out, hst2.out], ?_⟩
                  rw [← hp4l] at hown5
                  exact ai_step (Nat.le_refl _) k0 hsl hsW (hX.trans hXW) hoOh.out hon hbWh.out hdW hown5 hgrow
                case measure => simp [intOf]; omega
            · obtain rfl : n = k := by omega
              have htk : (L.take n).flatten = L.flatten := by rw [List.take_of_length_le (by rw [hlen.out]; exact Nat.le_refl _)]
              have hF : Hid (feedR ([], false) [] L.flatten = ((q, bo), out)) := by rw [← htk]; exact hst
              have hwl := hbw.len
              have hfo := hfh.out
              have hnw5 : nw ≤ 5000 := by omega
              have hfd := feed_gx none 0 0 [] false aw nw cw L.flatten wr (bs_nil _) (hbw.ext hX) rfl (by omega) _ hF.out
              unfold cv at hfd
              obtain ⟨al, nl, cl, rfl, hpl⟩ := ps_of ho
              have hsl := lt_of_block hB
              have hk0 : wr.cell? ⟨wA.heap.size, 0, none⟩ = some (.slice p n' c') := by simp [World.cell?, hB]
              have hk1 : wr.cell? ⟨wA.heap.size, 1, none⟩ = some (.bool bo) := by simp [World.cell?, hB]
              have hbo := hbw.ext hX
              have hxr := hxw.trans hX
              clear htk hst ho hpp hB hX hbw hxw
              go_wp2_with fail
              refine hfd.mono ?_
              rintro e w4 ⟨a5, n5, c5, am, nm, cm, rfl, hb5, hpm, -, hx4, -⟩
              dsimp only at hb5 hpm ⊢
              have hk2 := hx4.cell hk0
              have hk3 := hx4.cell hk1
              have hbq4 := hbq.ext hx4
              have hpl4 := hpl.ext hx4
              have hbw4 := hbo.ext hx4
              have hxr4 := hxr.trans hx4
              clear hfd hk0 hk1 hbq hpl hbo hxr
              have hxD := Ext.alloc w4 (.cells #[.slice a5 n5 c5, .bool bo] 24)
              obtain ⟨hd0, hd1⟩ := box2 (Ext.refl (w4.alloc (.cells #[.slice a5 n5 c5, .bool bo] 24)))
              obtain ⟨D, hD⟩ : ∃ D, w4.heap.size = D := ⟨_, rfl⟩
              rw [hD] at hd0 hd1
              go_wp2_with fail
              have cK0 := hxD.cell hk2
              have cK1 := hxD.cell hk3
              have cQ := hbq4.ext hxD
              have cL := hpl4.ext hxD
              have cW := hbw4.ext hxD
              have cX := hxr4.trans hxD
              have cA5 := hb5.ext hxD
              have cM := hpm.ext hxD
              obtain ⟨wC, hwC⟩ : ∃ W, w4.alloc (.cells #[.slice a5 n5 c5, .bool bo] 24) = W := ⟨_, rfl⟩
              have hsC : D + 1 = wC.heap.size := by rw [← hwC, World.size_alloc, hD]
              rw [hwC] at cK0 cK1 cQ cL cW cX cA5 cM hd0 hd1 ⊢
              rw [hsC]
              clear hwC hxD hk2 hk3 hbq4 hpl4 hbw4 hxr4 hb5 hpm hx4 hD
              have c2W := hb2.ext cX
              have hFo := feed_len L.flatten ([], false)
              rw [hF.out] at hFo
              dsimp only at hFo
              go_loopw [17, 18, 19] (fun ov t i wr => ∃ (k u : Nat) (st : Cn × List Cn), k ≤ n2 ∧ i = .int .i64 k ∧ t = .int .i64 u ∧ u ≤ nw ∧ Hid (feedR ([], false) [] (L.flatten.take u) = st) ∧ AI wC wC.heap.size st ov wr) (fun _ _ i _ => n2 - (intOf i).toNat)
              case atStart => exact ⟨0, 0, (([], false), []), by omega, rfl, rfl, by omega, rfl, none, 0, 0, heap_alloc_new _ _, bs_nil _, fun h => absurd h (by omega), World.ownsRow_nil _ _ _ _, Ext.alloc _ _⟩
              case round =>
                obtain ⟨k, u, ⟨⟨q1, bo1⟩, out1⟩, hk, rfl, rfl, hu, hst, p1, np, cp, hB, hbq, hpp, ho, hX⟩ := hrel
                dsimp only at hB hbq ho
                by_cases hgo : k < n2 ∧ u < nw
                · obtain ⟨hlt, hltu⟩ := hgo
                  obtain ⟨b2, o2, rfl, hc2⟩ := c2W.at (by omega)
                  have hkl : k < l2.length := by rw [hlen2.out]; exact hlt
                  have hcell := hX.cell (hc2 k hkl)
                  obtain ⟨x, hxk⟩ : ∃ x, x = l2[k] := ⟨_, rfl⟩
                  rw [← hxk] at hcell
                  have hx256 := x.toNat_lt
                  obtain ⟨r, hrn, hru⟩ := min_facts x.toNat u nw hu
                  have hcr : crt (q1, bo1) = true := by have := feedR_crt (L.flatten.take u) ([], false) [] rfl; rwa [hst.out] at this
                  have htk : Hid (L.flatten.take (u + r) = L.flatten.take u ++ (L.flatten.drop u).take r) := List.take_add
                  have hst2 := Lib.hid (feed_more ([], false) [] (L.flatten.take u) ((L.flatten.drop u).take r) _ hst.out)
                  have hol : out1.length ≤ (L.flatten.take u).length := by have := feed_len (L.flatten.take u) ([], false); rwa [hst.out] at this
                  have hpl := feed_len ((L.flatten.drop u).take r) (q1, bo1)
                  rw [List.length_take] at hol hpl
                  have hol2 : out1.length + (feedR (q1, bo1) [] ((L.flatten.drop u).take r)).2.length ≤ 5000 := by omega
                  dsimp only at hst2
                  obtain ⟨⟨⟨q2, bo2⟩, pl⟩, hs2⟩ : ∃ st, feedR (q1, bo1) [] ((L.flatten.drop u).take r) = st := ⟨_, rfl⟩
                  rw [hs2] at hst2 hol2
                  dsimp only at hol2
                  have hsub := (cW.ext hX).sub u (u + r) (by omega) hru
                  rw [show u + r - u = r by omega] at hsub
                  have hcw := Nat.le_trans (Sl.le cW) (Sl.max cW)
                  have hcle := Sl.le cW
                  unfold maxLen at hcw
                  have hfd := fun W' (h : Ext wr W') => feed_gx p1 np cp q1 bo1 (subA aw cw u 1) r (cw - u) _ W' (hbq.ext h) (hsub.ext h) hcr (by omega) _ hs2
                  unfold cv at hfd
                  have hfdh := Lib.hid hfd
                  have y0 : wr.cell? ⟨wC.heap.size, 0, none⟩ = some (.slice p1 np cp) := by simp [World.cell?, hB]
                  have y1 : wr.cell? ⟨wC.heap.size, 1, none⟩ = some (.bool bo1) := by simp [World.cell?, hB]
                  have hsl := lt_of_block hB
                  have hoh := Lib.hid ho
                  have hon : ∀ k, Value.ownBlock u17 = some k → k < wr.heap.size := fun k hk => (World.ownsRow.lt hoh.out k hk).2
                  have HX := Ext.refl wr
                  clear hc2 hxk hol hpl hs2 hst ho hbq hpp hfd hsub
                  obtain ⟨b1, b2', b3, b4, b6, b7⟩ := cut_facts u r nw cw hru hcle hnw5
                  go_wp2_with fail
                  go_region_held3 (fun w' => w'.cell? ⟨wC.heap.size, 0, none⟩ = some (.slice p1 np cp) ∧ w'.cell? ⟨wC.heap.size, 1, none⟩ = some (.bool bo1))
                    (first | exact ⟨HX.cell y0, HX.cell y1⟩ | (have HY := fun ob => HX.trans (Ext.alloc _ ob); exact ⟨(HY _).cell y0, (HY _).cell y1⟩) | (have HY := fun ua ub => (show Ext wr _ from Below.setCell (p := ⟨wr.heap.size, 1, none⟩) (Below.setCell (p := ⟨wr.heap.size, 0, none⟩) HX (Nat.le_refl _) ua) (Nat.le_refl _) ub); exact ⟨(HY _ _).cell y0, (HY _ _).cell y1⟩))
                    (first
                      | (go_at_call 8; refine Calls.mono (hfdh.out _ (show Ext wr wr.drew from Ext.drewN _ 1)) ?_; rintro e w3 ⟨a3, n3, c3, a4, n4, c4, rfl, hb3, hp4, ho4, hx3, hd3⟩; replace HX := Ext.trans (show Ext wr wr.drew from Ext.drewN _ 1) hx3)
                      | (go_at_call 8; have HY := HX.trans (Ext.alloc _ (.cells #[.slice none 0 0, .bool false] 24)); refine Calls.mono (hfdh.out _ (show Ext wr (wr.alloc (.cells #[.slice none 0 0, .bool false] 24)).drew from HY.trans (Ext.drewN _ 1))) ?_; rintro e w3 ⟨a3, n3, c3, a4, n4, c4, rfl, hb3, hp4, ho4, hx3, hd3⟩; have hBX := (hx3.block wr.heap.size (by simp)).trans (heap_alloc_new wr (.cells #[.slice none 0 0, .bool false] 24)); have v0 : w3.cell? ⟨wr.heap.size, 0, none⟩ = some (.slice none 0 0) := (by simp [World.cell?, hBX]); have v1 : w3.cell? ⟨wr.heap.size, 1, none⟩ = some (.bool false) := (by simp [World.cell?, hBX]); have v2 : w3.frozen? ⟨wr.heap.size, 0, none⟩ = false := (by simp [World.frozen?, hBX]); have v3 : w3.frozen? ⟨wr.heap.size, 1, none⟩ = false := (by simp [World.frozen?, hBX]); replace HX := Ext.trans (show Ext wr (wr.alloc (.cells #[.slice none 0 0, .bool false] 24)).drew from HY.trans (Ext.drewN _ 1)) hx3))
                  all_goals first
                    | (obtain ⟨X, W, hXd, hWd⟩ : ∃ X W, wr.heap.size = X ∧ (w3.setCell ⟨wr.heap.size, 0, none⟩ (.slice a3 n3 c3)).setCell ⟨wr.heap.size, 1, none⟩ (.bool bo2) = W := ⟨_, _, rfl, rfl⟩
                       have hd4 : 0 < n3 → ∀ x, a3 = some x → wr.heap.size + 1 ≤ x.block := fun hn x e => by have := hd3 hn x e; simpa using this
                       have ho5 : w3.ownsRow (wr.heap.size + 1) 37 2 (.slice a4 n4 c4) pl.length (pcells pl) := owns_mono ho4 (by simp)
                       have hWX : W.heap[X]? = some (.cells #[.slice a3 n3 c3, .bool bo2] 24 (0, 0)) := by rw [← hWd, ← hXd]; exact two_setCell hBX
                       have hXW : Ext wr W := by rw [← hWd]; exact Below.setCell (p := ⟨wr.heap.size, 1, none⟩) (Below.setCell (p := ⟨wr.heap.size, 0, none⟩) HX (Nat.le_refl _) _) (Nat.le_refl _) _
                       have hbW : Bs W a3 n3 c3 q2 := by rw [← hWd]; exact (hb3.put _ 0 _ (fun hn x e => by have := hd4 hn x e; omega)).put _ 1 _ (fun hn x e => by have := hd4 hn x e; omega)
                       have hoW : W.ownsRow wr.heap.size 37 2 (.slice a4 n4 c4) pl.length (pcells pl) := by rw [← hWd]; exact owns_mono (ownsRow_setCell_below (a := ⟨wr.heap.size, 1, none⟩) (ownsRow_setCell_below (a := ⟨wr.heap.size, 0, none⟩) ho5 (Nat.lt_succ_self _) _) (Nat.lt_succ_self _) _) (Nat.le_succ _)
                       have hdW : 0 < n3 → ∀ x, a3 = some x → wr.heap.size ≤ x.block := fun hn x e => by have := hd4 hn x e; omega
                       rw [hWd, hXd])
                    | (obtain ⟨X, W, hXd, hWd⟩ : ∃ X W, w3.heap.size = X ∧ w3.alloc (.cells #[.slice a3 n3 c3, .bool bo2] 24) = W := ⟨_, _, rfl, rfl⟩
                       have hWX : W.heap[X]? = some (.cells #[.slice a3 n3 c3, .bool bo2] 24 (0, 0)) := by rw [← hWd, ← hXd]; exact heap_alloc_new _ _
                       have hXW : Ext wr W := by rw [← hWd]; exact HX.trans (Ext.alloc _ _)
                       have hbW : Bs W a3 n3 c3 q2 := by rw [← hWd]; exact hb3.ext (Ext.alloc _ _)
                       have hoW : W.ownsRow wr.heap.size 37 2 (.slice a4 n4 c4) pl.length (pcells pl) := by rw [← hWd]; exact owns_ext ho4 (Ext.alloc _ _)
                       have hdW : 0 < n3 → ∀ x, a3 = some x → wr.heap.size ≤ x.block := hd3
                       rw [hWd, hXd])
                  all_goals
                    (try clear v0 v1 v2 v3 hBX HY hd4 ho5)
                    clear hWd hXd hb3 hp4 ho4 hd3 HX hx3
                    have k0 := (hXW.block _ hsl).trans hB
                    have hsW := hXW.size
                    have x0 : W.cell? ⟨X, 0, none⟩ = some (.slice a3 n3 c3) := by simp [World.cell?, hWX]
                    have x1 : W.cell? ⟨X, 1, none⟩ = some (.bool bo2) := by simp [World.cell?, hWX]
                    have u0 : W.cell? ⟨wC.heap.size, 0, none⟩ = some (.slice p1 np cp) := by simp [World.cell?, k0]
                    have u1 : W.cell? ⟨wC.heap.size, 1, none⟩ = some (.bool bo1) := by simp [World.cell?, k0]
                    have z0 : W.frozen? ⟨wC.heap.size, 0, none⟩ = false := by simp [World.frozen?, k0]
                    have z1 : W.frozen? ⟨wC.heap.size, 1, none⟩ = false := by simp [World.frozen?, k0]
                    have hoO := owns_ext hoh.out hXW
                    have e0 : Hid (((W.setCell ⟨wC.heap.size, 0, none⟩ (.slice a3 n3 c3)).setCell ⟨wC.heap.size, 1, none⟩ (.bool bo2)).ownsRow (wC.heap.size + 1) 37 2 u17 out1.length (pcells out1)) :=
                      ownsRow_setCell_below (a := ⟨wC.heap.size, 1, none⟩) (ownsRow_setCell_below (a := ⟨wC.heap.size, 0, none⟩) hoO (Nat.lt_succ_self _) _) (Nat.lt_succ_self _) _
                    have e1 : ((W.setCell ⟨wC.heap.size, 0, none⟩ (.slice a3 n3 c3)).setCell ⟨wC.heap.size, 1, none⟩ (.bool bo2)).ownsRow wr.heap.size 37 2 (.slice a4 n4 c4) pl.length (pcells pl) :=
                      ownsRow_setCell_below (a := ⟨wC.heap.size, 1, none⟩) (ownsRow_setCell_below (a := ⟨wC.heap.size, 0, none⟩) hoW hsl _) hsl _
                    obtain ⟨a4', n4', c4', he4, hpA⟩ := ps_of e1
                    obtain ⟨rfl, rfl, rfl⟩ : a4' = a4 ∧ n4' = n4 ∧ c4' = c4 := by cases he4; exact ⟨rfl, rfl, rfl⟩
                    have hp4l := hpA.len
                    have hpAh := Lib.hid hpA
                    have hz1 : Hid ((out1.length + n4') * 24 ≤ 140737488355328) := by show _ ≤ _; omega
                    have hz2 : Hid (out1.length + n4' ≤ maxLen) := by show _ ≤ _; unfold maxLen; omega
                    have hz3 : Hid (wC.heap.size + 1 ≤ ((W.setCell ⟨wC.heap.size, 0, none⟩ (.slice a3 n3 c3)).setCell ⟨wC.heap.size, 1, none⟩ (.bool bo2)).heap.size) := by show _ ≤ _; simp [World.setCell]; omega
                    have hbWh := Lib.hid hbW
                    have hoOh := Lib.hid hoO
                    clear hoO e1 he4 hpA hbW hoW
                    go_wp2_with (at_builtin; refine wpList_append_sl rfl _ _ 27 rfl (wC.heap.size + 1) 37 Try.underlying27 infoPiece rfl (by decide) _ _ _ rfl e0.out _ _ _ (pcells pl) rfl hpAh.out (pcells_one pl) hz1.out hz2.out hz3.out ?_)
                    intro v' w5 hown5 hgrow
                    go_wp2
                    go_roundw
                    case rel =>
                      refine ⟨k + 1, u + r, ((q2, bo2), out1 ++ pl), by omega, by go_num, by go_num, hru, by show _ = _; rw [htk.out, hst2.out], ?_⟩
                      rw [← hp4l] at hown5
                      exact ai_step (Nat.le_refl _) k0 hsl hsW (hX.trans hXW) hoOh.out hon hbWh.out hdW hown5 hgrow
                    case measure => simp [intOf]; omega
                · have hcases : (k < n2 ∧ ¬ u < nw) ∨ ¬ k < n2 := by omega
                  have hcr : crt (q1, bo1) = true := by have := feedR_crt (L.flatten.take u) ([], false) [] rfl; rwa [hst.out] at this
                  have hmore := feed_more ([], false) [] (L.flatten.take u) (L.flatten.drop u) _ hst.out
                  rw [List.take_append_drop, hF.out] at hmore
                  have hpl := feed_len (L.flatten.drop u) (q1, bo1)
                  have hol : out1.length ≤ (L.flatten.take u).length := by have := feed_len (L.flatten.take u) ([], false); rwa [hst.out] at this
                  rw [List.length_take] at hol
                  rw [List.length_drop] at hpl
                  dsimp only at hmore
                  have hol2 : out1.length + (feedR (q1, bo1) [] (L.flatten.drop u)).2.length ≤ 5000 := by omega
                  obtain ⟨⟨⟨q2, bo2⟩, pl⟩, hs2⟩ : ∃ st, feedR (q1, bo1) [] (L.flatten.drop u) = st := ⟨_, rfl⟩
                  rw [hs2] at hmore hol2
                  dsimp only at hmore hol2
                  obtain ⟨⟨rfl, rfl⟩, rfl⟩ : (q = q2 ∧ bo = bo2) ∧ out = out1 ++ pl := by
                    simp only [Prod.mk.injEq] at hmore
                    exact hmore
                  have hsub := (cW.ext hX).sub u nw hu (Nat.le_refl _)
                  rw [List.take_of_length_le (by rw [List.length_drop]; omega)] at hsub
                  have hfd := fun W' (h : Ext wr W') => feed_gx p1 np cp q1 bo1 (subA aw cw u 1) (nw - u) (cw - u) _ W' (hbq.ext h) (hsub.ext h) hcr (by omega) _ hs2
                  unfold cv at hfd
                  have hfdh := Lib.hid hfd
                  have b1 : (0 : Int) ≤ (u : Int) := Int.natCast_nonneg u
                  have b2' : (u : Int) ≤ (nw : Int) := Int.ofNat_le.2 hu
                  have y0 : wr.cell? ⟨wC.heap.size, 0, none⟩ = some (.slice p1 np cp) := by simp [World.cell?, hB]
                  have y1 : wr.cell? ⟨wC.heap.size, 1, none⟩ = some (.bool bo1) := by simp [World.cell?, hB]
                  have hoh := Lib.hid ho
                  have hon : ∀ k, Value.ownBlock u17 = some k → k < wr.heap.size := fun k hk => (World.ownsRow.lt hoh.out k hk).2
                  have HX := Ext.refl wr
                  clear hol hpl hs2 hst ho hbq hpp hfd hsub hmore
                  rcases hcases with ⟨hlt, hnu⟩ | hlt
                  all_goals
                    clear hgo
                    go_wp2_with fail
                    go_region_held3 (fun w' => w'.cell? ⟨wC.heap.size, 0, none⟩ = some (.slice p1 np cp) ∧ w'.cell? ⟨wC.heap.size, 1, none⟩ = some (.bool bo1))
                      (first | exact ⟨HX.cell y0, HX.cell y1⟩ | (have HY := fun ob => HX.trans (Ext.alloc _ ob); exact ⟨(HY _).cell y0, (HY _).cell y1⟩) | (have HY := fun ua ub => (show Ext wr _ from Below.setCell (p := ⟨wr.heap.size, 1, none⟩) (Below.setCell (p := ⟨wr.heap.size, 0, none⟩) HX (Nat.le_refl _) ua) (Nat.le_refl _) ub); exact ⟨(HY _ _).cell y0, (HY _ _).cell y1⟩))
                      (first
                        | (go_at_call 8; refine Calls.mono (hfdh.out _ (show Ext wr wr.drew from Ext.drewN _ 1)) ?_; rintro e w3 ⟨a3, n3, c3, a4, n4, c4, rfl, hb3, hp4, ho4, hx3, hd3⟩; replace HX := Ext.trans (show Ext wr wr.drew from Ext.drewN _ 1) hx3)
                        | (go_at_call 8; have HY := HX.trans (Ext.alloc _ (.cells #[.slice none 0 0, .bool false] 24)); refine Calls.mono (hfdh.out _ (show Ext wr (wr.alloc (.cells #[.slice none 0 0, .bool false] 24)).drew from HY.trans (Ext.drewN _ 1))) ?_; rintro e w3 ⟨a3, n3, c3, a4, n4, c4, rfl, hb3, hp4, ho4, hx3, hd3⟩; have hBX := (hx3.block wr.heap.size (by simp)).trans (heap_alloc_new wr (.cells #[.slice none 0 0, .bool false] 24)); have v0 : w3.cell? ⟨wr.heap.size, 0, none⟩ = some (.slice none 0 0) := (by simp [World.cell?, hBX]); have v1 : w3.cell? ⟨wr.heap.size, 1, none⟩ = some (.bool false) := (by simp [World.cell?, hBX]); have v2 : w3.frozen? ⟨wr.heap.size, 0, none⟩ = false := (by simp [World.frozen?, hBX]); have v3 : w3.frozen? ⟨wr.heap.size, 1, none⟩ = false := (by simp [World.frozen?, hBX]); replace HX := Ext.trans (show Ext wr (wr.alloc (.cells #[.slice none 0 0, .bool false] 24)).drew from HY.trans (Ext.drewN _ 1)) hx3))
                    all_goals first
                      | (obtain ⟨X, W, hXd, hWd⟩ : ∃ X W, wr.heap.size = X ∧ (w3.setCell ⟨wr.heap.size, 0, none⟩ (.slice a3 n3 c3)).setCell ⟨wr.heap.size, 1, none⟩ (.bool bo) = W := ⟨_, _, rfl, rfl⟩
                         have hd4 : 0 < n3 → ∀ x, a3 = some x → wr.heap.size + 1 ≤ x.block := fun hn x e => by have := hd3 hn x e; simpa using this
                         have ho5 : w3.ownsRow (wr.heap.size + 1) 37 2 (.slice a4 n4 c4) pl.length (pcells pl) := owns_mono ho4 (by simp)
                         have hXb : wr.heap.size ≤ X := Nat.le_of_eq hXd
                         have hWX : W.heap[X]? = some (.cells #[.slice a3 n3 c3, .bool bo] 24 (0, 0)) := by rw [← hWd, ← hXd]; exact two_setCell hBX
                         have hXW : Ext wr W := by rw [← hWd]; exact Below.setCell (p := ⟨wr.heap.size, 1, none⟩) (Below.setCell (p := ⟨wr.heap.size, 0, none⟩) HX (Nat.le_refl _) _) (Nat.le_refl _) _
                         have hbW : Bs W a3 n3 c3 q := by rw [← hWd]; exact (hb3.put _ 0 _ (fun hn x e => by have := hd4 hn x e; omega)).put _ 1 _ (fun hn x e => by have := hd4 hn x e; omega)
                         have hoW : W.ownsRow wr.heap.size 37 2 (.slice a4 n4 c4) pl.length (pcells pl) := by rw [← hWd]; exact owns_mono (ownsRow_setCell_below (a := ⟨wr.heap.size, 1, none⟩) (ownsRow_setCell_below (a := ⟨wr.heap.size, 0, none⟩) ho5 (Nat.lt_succ_self _) _) (Nat.lt_succ_self _) _) (Nat.le_succ _)
                         have hdW : 0 < n3 → ∀ x, a3 = some x → wr.heap.size ≤ x.block := fun hn x e => by have := hd4 hn x e; omega
                         rw [hWd, hXd])
                      | (obtain ⟨X, W, hXd, hWd⟩ : ∃ X W, w3.heap.size = X ∧ w3.alloc (.cells #[.slice a3 n3 c3, .bool bo] 24) = W := ⟨_, _, rfl, rfl⟩
                         have hXb : wr.heap.size ≤ X := by rw [← hXd]; exact HX.size
                         have hWX : W.heap[X]? = some (.cells #[.slice a3 n3 c3, .bool bo] 24 (0, 0)) := by rw [← hWd, ← hXd]; exact heap_alloc_new _ _
                         have hXW : Ext wr W := by rw [← hWd]; exact HX.trans (Ext.alloc _ _)
                         have hbW : Bs W a3 n3 c3 q := by rw [← hWd]; exact hb3.ext (Ext.alloc _ _)
                         have hoW : W.ownsRow wr.heap.size 37 2 (.slice a4 n4 c4) pl.length (pcells pl) := by rw [← hWd]; exact owns_ext ho4 (Ext.alloc _ _)
                         have hdW : 0 < n3 → ∀ x, a3 = some x → wr.heap.size ≤ x.block := hd3
                         rw [hWd, hXd])
                    all_goals
                      (try clear v0 v1 v2 v3 hBX HY hd4 ho5)
                      clear hWd hXd hb3 hp4 ho4 hd3 HX hx3
                      have hsW := hXW.size
                      have hXl := lt_of_block hWX
                      have x0 : W.cell? ⟨X, 0, none⟩ = some (.slice a3 n3 c3) := by simp [World.cell?, hWX]
                      have x1 : W.cell? ⟨X, 1, none⟩ = some (.bool bo) := by simp [World.cell?, hWX]
                      have hoO := Lib.hid (owns_ext hoh.out hXW)
                      obtain ⟨a4', n4', c4', he4, hpA⟩ := ps_of hoW
                      obtain ⟨rfl, rfl, rfl⟩ : a4' = a4 ∧ n4' = n4 ∧ c4' = c4 := by cases he4; exact ⟨rfl, rfl, rfl⟩
                      have hp4l := hpA.len
                      have hpAh := Lib.hid hpA
                      have hz1 : Hid ((out1.length + n4') * 24 ≤ 140737488355328) := by show _ ≤ _; omega
                      have hz2 : Hid (out1.length + n4' ≤ maxLen) := by show _ ≤ _; unfold maxLen; omega
                      have hz3 : Hid (wC.heap.size + 1 ≤ W.heap.size) := by have := lt_of_block hB; show _ ≤ _; omega
                      have hbWh := Lib.hid hbW
                      clear he4 hpA hbW hoW
                      go_wp2_with (at_builtin; refine wpList_append_sl rfl _ _ 27 rfl (wC.heap.size + 1) 37 Try.underlying27 infoPiece rfl (by decide) _ _ _ rfl hoO.out _ _ _ (pcells pl) rfl hpAh.out (pcells_one pl) hz1.out hz2.out hz3.out ?_)
                      intro v' w5 hown5 hgrow
                      have hx5 : Ext wC w5 := (hX.trans hXW).grown hgrow (fun k e => by have := owns_row hoO.out k e; omega)
                      have m0 := (hgrow.block X hXl (fun e => by have := hon X e.symm; omega)).trans hWX
                      have x2 : w5.cell? ⟨X, 0, none⟩ = some (.slice a3 n3 c3) := by simp [World.cell?, m0]
                      have x3 : w5.cell? ⟨X, 1, none⟩ = some (.bool bo) := by simp [World.cell?, m0]
                      have dX : Bs w5 a3 n3 c3 q := Bs.same hbWh.out (fun hn x e hlt5 => hgrow.block _ hlt5 (fun e5 => by have := hdW hn x e; have := hon _ e5.symm; omega))
                      obtain ⟨ao, no, co, rfl, dO⟩ := ps_of (l := out1 ++ pl) (by rw [pcells_append, List.length_append, hp4l]; exact hown5)
                      have dK0 := hx5.cell cK0
                      have dK1 := hx5.cell cK1
                      have dD0 := hx5.cell hd0
                      have dD1 := hx5.cell hd1
                      have dQ := cQ.ext hx5
                      have dL := cL.ext hx5
                      have dA := cA5.ext hx5
                      have dM := cM.ext hx5
                      have hxw5 := cX.trans hx5
                      clear hx5 m0 hown5 hgrow x0 x1 hWX hXW hpAh hbWh hoO hoh hon hdW
                      have hs1 := csame_calls p n' c' q bo a5 n5 c5 q bo w5 dQ dA
                      rw [sameC_refl] at hs1
                      unfold cv at hs1
                      go_wp2_with fail
                      refine hs1.mono ?_
                      rintro e w6 ⟨rfl, hx6⟩
                      have hs2 := csame_calls a3 n3 c3 q bo a5 n5 c5 q bo w6 (dX.ext hx6) (dA.ext hx6)
                      rw [sameC_refl] at hs2
                      unfold cv at hs2
                      have r0 := hx6.cell x2
                      have r1 := hx6.cell x3
                      have r2 := hx6.cell dD0
                      have r3 := hx6.cell dD1
                      go_wp2_with fail
                      refine hs2.mono ?_
                      rintro e w7 ⟨rfl, hx7⟩
                      have hx57 := hx6.trans hx7
                      have hs3 := psame_calls al nl cl (out1 ++ pl) am nm cm (out1 ++ pl) w7 (dL.ext hx57) (dM.ext hx57)
                      rw [show decide (out1 ++ pl = out1 ++ pl) = true by simp] at hs3
                      go_wp2_with fail
                      refine hs3.mono ?_
                      rintro e w8 ⟨rfl, hx8⟩
                      have hx58 := hx57.trans hx8
                      have hs4 := psame_calls ao no co (out1 ++ pl) am nm cm (out1 ++ pl) w8 (dO.ext hx58) (dM.ext hx58)
                      rw [show decide (out1 ++ pl = out1 ++ pl) = true by simp] at hs4
                      go_wp2_with fail
                      refine hs4.mono ?_
                      rintro e w9 ⟨rfl, hx9⟩
                      have hx59 := hx58.trans hx9
                      have hs5 := hac.out w9 (hxw5.trans hx59)
                      rw [hF.out] at hs5
                      go_wp2_with fail
                      refine hs5.mono ?_
                      rintro e w10 ⟨ay, ny, cy, rfl, dY, hx10⟩
                      have hx510 := hx59.trans hx10
                      have hs6 := psame_calls ay ny cy (out1 ++ pl) am nm cm (out1 ++ pl) w10 dY (dM.ext hx510)
                      rw [show decide (out1 ++ pl = out1 ++ pl) = true by simp] at hs6
                      go_wp2_with fail
                      refine hs6.mono ?_
                      rintro e w11 ⟨rfl, hx11⟩
                      go_wp2
                      go_ret
                      exact ⟨rfl, hxw5.trans (hx510.trans hx11)⟩
end Go.Proofs.Ytbekhbgeghhcaaa
