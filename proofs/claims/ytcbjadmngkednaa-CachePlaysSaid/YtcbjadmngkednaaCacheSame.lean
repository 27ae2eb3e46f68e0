/-
  Layer 20's contracts: caches held against each other; how many (the document's); new ones.
-/
import Derived.Test.YtcbjadmngkednaaCacheSmall
import Derived.Deep.RegionHeld3
namespace Go.Proofs.Ytcbjadmngkednaa
open Go.RowKit

set_option maxRecDepth 100000 in
set_option maxHeartbeats 1600000 in
theorem casame_calls (m : Int) (a : Option Addr) (n c : Nat) (came dropped : Int) (M : List Wh) (m2 : Int) (a2 : Option Addr) (n2 c2 : Nat) (came2 dropped2 : Int) (M2 : List Wh) (w : World) (hb : Ws w a n c M) (hb2 : Ws w a2 n2 c2 M2) :
    Calls Try.prog 13 #[cav m a n c came dropped, cav m2 a2 n2 c2 came2 dropped2] w fun e w' => e = .returned (.bool (decide ((⟨m, ws M, came, dropped⟩ : Ca) = ⟨m2, ws M2, came2, dropped2⟩))) ∧ Ext w w' := by
  have hl1 := Lib.hid hb.len
  have hl2 := Lib.hid hb2.len
  have hm1 := Nat.le_trans (Sl.le hb.1) (Sl.max hb.1)
  have hm2 := Nat.le_trans (Sl.le hb2.1) (Sl.max hb2.1)
  unfold maxLen at hm1 hm2
  have hxx := (Ext.alloc w (.cells #[.int .i64 m, .slice a n c, .int .i64 came, .int .i64 dropped] 24)).trans (Ext.alloc _ (.cells #[.int .i64 m2, .slice a2 n2 c2, .int .i64 came2, .int .i64 dropped2] 24))
  obtain ⟨r, hr⟩ : ∃ r, decide ((⟨m, ws M, came, dropped⟩ : Ca) = ⟨m2, ws M2, came2, dropped2⟩) = r := ⟨_, rfl⟩
  rw [hr]
  have hno : ∀ (_ : ¬ (m = m2 ∧ came = came2 ∧ dropped = dropped2 ∧ n = n2)), r = false := fun h => by
    rw [← hr, decide_eq_false_iff_not]
    intro e
    injection e with e1 e2 e3 e4
    refine h ⟨e1, e3, e4, ?_⟩
    have := congrArg List.length e2
    unfold ws at this
    rw [List.length_map, List.length_map, hl1.out, hl2.out] at this
    exact this
  unfold cav
  by_cases h1 : m = m2
  · by_cases h2 : came = came2
    · by_cases h3 : dropped = dropped2
      · by_cases h4 : n = n2
        · clear hno
          subst h1 h2 h3 h4
          have hrh := Lib.hid hr
          clear hr
          go_enter Try.func13, Try.ntmps13
          have k0 : ((w.alloc (.cells #[.int .i64 m, .slice a n c, .int .i64 came, .int .i64 dropped] 24)).alloc (.cells #[.int .i64 m, .slice a2 n c2, .int .i64 came, .int .i64 dropped] 24)).cell? ⟨w.heap.size, 1, none⟩ = some (.slice a n c) := (box4 (Ext.alloc _ _)).2.1
          have k1 := (box4 (Ext.refl ((w.alloc (.cells #[.int .i64 m, .slice a n c, .int .i64 came, .int .i64 dropped] 24)).alloc (.cells #[.int .i64 m, .slice a2 n c2, .int .i64 came, .int .i64 dropped] 24)))).2.1
          simp only [World.size_alloc] at k1
          have hq : ((n : Int) != (n : Int)) = false := by simp
          go_wp2_with fail
          obtain ⟨wb, hwb⟩ : ∃ wb, ((w.alloc (.cells #[.int .i64 m, .slice a n c, .int .i64 came, .int .i64 dropped] 24)).alloc (.cells #[.int .i64 m, .slice a2 n c2, .int .i64 came, .int .i64 dropped] 24)) = wb := ⟨_, rfl⟩
          rw [hwb] at k0 k1 hxx ⊢
          clear hwb
          go_loopw [5] (fun i wr => ∃ k : Nat, k ≤ n ∧ i = .int .i64 k ∧ Ext wb wr ∧ Hid ((ws M).take k = (ws M2).take k)) (fun i _ => n - (intOf i).toNat)
          case atStart => exact ⟨0, Nat.zero_le _, rfl, Ext.refl _, rfl⟩
          case round =>
            obtain ⟨k, hk, rfl, hX, HT⟩ := hrel
            replace k0 := hX.cell k0
            replace k1 := hX.cell k1
            by_cases hlt : k < n
            · obtain ⟨b, o, rfl, hc⟩ := hb.at (by omega)
              obtain ⟨b2, o2, rfl, hc2⟩ := hb2.at (by omega)
              have hkl : k < M.length := by rw [hl1.out]; exact hlt
              have hkl2 : k < M2.length := by rw [hl2.out]; exact hlt
              obtain ⟨d0, d1⟩ := hc k hkl
              obtain ⟨e0, e1⟩ := hc2 k hkl2
              have hp := hb.2 M[k] (List.getElem_mem hkl)
              have hp2 := hb2.2 M2[k] (List.getElem_mem hkl2)
              have hwk : k < (ws M).length := by unfold ws; rw [List.length_map]; exact hkl
              have hwk2 : k < (ws M2).length := by unfold ws; rw [List.length_map]; exact hkl2
              have hsn : Hid ((ws M).take (k + 1) = (ws M).take k ++ [M[k].1]) := by
                show _ = _
                rw [List.take_succ_eq_append_getElem hwk]; simp [ws]
              have hsn2 : Hid ((ws M2).take (k + 1) = (ws M2).take k ++ [M2[k].1]) := by
                show _ = _
                rw [List.take_succ_eq_append_getElem hwk2]; simp [ws]
              have hne : Hid (M[k].1 ≠ M2[k].1 → r = false) := fun h => by
                rw [← hrh.out, decide_eq_false_iff_not]
                intro e
                injection e with _ e2 _ _
                refine h ?_
                have h1 : (ws M)[k] = M[k].1 := by simp [ws]
                have h2 : (ws M2)[k] = M2[k].1 := by simp [ws]
                rw [← h1, ← h2]
                congr 1
              obtain ⟨⟨⟨x, pts⟩, pa, pn, pc⟩, hx⟩ : ∃ x, x = M[k] := ⟨_, rfl⟩
              obtain ⟨⟨⟨y, pts2⟩, pa2, pn2, pc2⟩, hy⟩ : ∃ x, x = M2[k] := ⟨_, rfl⟩
              rw [← hx] at d0 d1 hp hsn hne
              rw [← hy] at e0 e1 hp2 hsn2 hne
              dsimp only at d0 d1 e0 e1 hp hp2 hsn hsn2 hne
              replace d0 := (hxx.trans hX).cell d0
              replace d1 := (hxx.trans hX).cell d1
              replace e0 := (hxx.trans hX).cell e0
              replace e1 := (hxx.trans hX).cell e1
              clear hc hc2 hx hy hwk hwk2
              by_cases hxy : x = y
              · subst hxy
                have hsa := Lib.hid (fun W' (h : Ext wr W') => asame_calls pa pn pc pts pa2 pn2 pc2 pts2 W' (hp.ext ((hxx.trans hX).trans h)) (hp2.ext ((hxx.trans hX).trans h)))
                have HX := Ext.drewN wr 1
                clear hp hp2
                cases hpp : decide (pts = pts2) with
                | true =>
                  rw [hpp] at hsa
                  have hpe : pts = pts2 := by simpa using hpp
                  subst hpe
                  clear hne hpp
                  go_wp2_with fail
                  go_region_held3 (fun w' => w'.cell? ⟨w.heap.size, 1, none⟩ = some (.slice (some ⟨b, o, none⟩) n c) ∧ w'.cell? ⟨w.heap.size + 1, 1, none⟩ = some (.slice (some ⟨b2, o2, none⟩) n c2) ∧ w'.cell? ⟨b, o + k * 2, none⟩ = some (.string ⟨x.toArray⟩) ∧ w'.cell? ⟨b, o + k * 2 + 1, none⟩ = some (.slice pa pn pc) ∧ w'.cell? ⟨b2, o2 + k * 2, none⟩ = some (.string ⟨x.toArray⟩) ∧ w'.cell? ⟨b2, o2 + k * 2 + 1, none⟩ = some (.slice pa2 pn2 pc2))
                    (first | exact ⟨k0, k1, d0, d1, e0, e1⟩ | exact ⟨HX.cell k0, HX.cell k1, HX.cell d0, HX.cell d1, HX.cell e0, HX.cell e1⟩)
                    ((go_at_call 24; refine (hsa.out _ HX).mono ?_; rintro e w' ⟨rfl, hx⟩; replace HX := HX.trans hx; clear hx))
                  all_goals
                    go_wp2
                    go_roundw
                    case rel => exact ⟨k + 1, by omega, by go_num, hX.trans HX, by show _ = _; rw [hsn.out, hsn2.out, HT.out]⟩
                    case measure => simp [intOf]; omega
                | false =>
                  rw [hpp] at hsa
                  have hr0 : r = false := hne.out (fun h => by
                    injection h with _ h2
                    rw [h2] at hpp
                    simp at hpp)
                  subst hr0
                  clear hne hpp
                  go_wp2_with fail
                  go_region_held3 (fun w' => w'.cell? ⟨w.heap.size, 1, none⟩ = some (.slice (some ⟨b, o, none⟩) n c) ∧ w'.cell? ⟨w.heap.size + 1, 1, none⟩ = some (.slice (some ⟨b2, o2, none⟩) n c2) ∧ w'.cell? ⟨b, o + k * 2, none⟩ = some (.string ⟨x.toArray⟩) ∧ w'.cell? ⟨b, o + k * 2 + 1, none⟩ = some (.slice pa pn pc) ∧ w'.cell? ⟨b2, o2 + k * 2, none⟩ = some (.string ⟨x.toArray⟩) ∧ w'.cell? ⟨b2, o2 + k * 2 + 1, none⟩ = some (.slice pa2 pn2 pc2))
                    (first | exact ⟨k0, k1, d0, d1, e0, e1⟩ | exact ⟨HX.cell k0, HX.cell k1, HX.cell d0, HX.cell d1, HX.cell e0, HX.cell e1⟩)
                    ((go_at_call 24; refine (hsa.out _ HX).mono ?_; rintro e w' ⟨rfl, hx⟩; replace HX := HX.trans hx; clear hx))
                  all_goals
                    go_wp2
                    go_ret
                    exact ⟨rfl, (hxx.trans hX).trans HX⟩
              · have hr0 : r = false := hne.out (fun h => by injection h with h1 _; exact hxy h1)
                subst hr0
                clear hne hp hp2
                have hxy1 : (x == y) = false := by simp [hxy]
                have hxy2 : (x != y) = true := by simp [hxy]
                have hxy3 : decide (x = y) = false := by simp [hxy]
                go_wp2
                go_region
                go_wp2
                go_ret
                exact ⟨rfl, (hxx.trans hX).trans (Ext.drewN _ _)⟩
            · obtain rfl : n = k := by omega
              have hfin : r = true := by
                rw [← hrh.out, decide_eq_true_eq]
                have h1 := HT.out
                have l1 : (ws M).length = n := by unfold ws; rw [List.length_map]; exact hl1.out
                have l2 : (ws M2).length = n := by unfold ws; rw [List.length_map]; exact hl2.out
                rw [List.take_of_length_le (Nat.le_of_eq l1), List.take_of_length_le (Nat.le_of_eq l2)] at h1
                rw [h1]
              subst hfin
              go_wp2
              go_ret
              exact ⟨rfl, hxx.trans hX⟩
        · obtain rfl := hno (fun h => h4 h.2.2.2)
          clear hr hno
          have h5 : ¬ (n : Int) = (n2 : Int) := by omega
          subst h1 h2 h3
          go_enter Try.func13, Try.ntmps13
          go_wp2
          go_ret
          exact ⟨rfl, hxx⟩
      · obtain rfl := hno (fun h => h3 h.2.2.1)
        clear hr hno
        subst h1 h2
        go_enter Try.func13, Try.ntmps13
        go_wp2
        go_ret
        exact ⟨rfl, hxx⟩
    · obtain rfl := hno (fun h => h2 h.2.1)
      clear hr hno
      subst h1
      go_enter Try.func13, Try.ntmps13
      go_wp2
      go_ret
      exact ⟨rfl, hxx⟩
  · obtain rfl := hno (fun h => h1 h.1)
    clear hr hno
    go_enter Try.func13, Try.ntmps13
    go_wp2
    go_ret
    exact ⟨rfl, hxx⟩
end Go.Proofs.Ytcbjadmngkednaa
