/-
  Layer 20's contracts: do a path's points stand by their orders?
-/
import Derived.Test.YtcbjadmngkednaaCacheMet
import Derived.Test.YtcbjadmngkednaaCacheSmall
namespace Go.Proofs.Ytcbjadmngkednaa
open Go.RowKit

theorem Met.block {w : World} {b : Nat} {met : List Int} (h : Met w b met) : ∃ es clock, w.heap[b]? = some (.map es clock) := by
  obtain ⟨n, D, _, ⟨es, clock, hb, _⟩, _⟩ := h
  exact ⟨es, clock, hb⟩
theorem cell_beside {w w' : World} {b : Nat} {met : List Int} (h : Met w b met) (hg : w.grownBy w' (some b)) {x : Addr} {v : Value} (hc : w.cell? x = some v) : w'.cell? x = some v := by
  have hlt := World.block_lt_of_cell? w _ hc
  have hne : x.block ≠ b := by
    intro e
    obtain ⟨es, clock, hb⟩ := h.block
    rw [← e] at hb
    simp [World.cell?, hb] at hc
  exact (World.cell?_of_block (hg.block x.block hlt (fun e => hne (by cases e; rfl)))).trans hc
theorem ext_grown {w w1 w2 : World} {row : Option Nat} (h : w.grownBy w1 row) (hx : Ext w1 w2) : w.grownBy w2 row :=
  ⟨hx.os.trans h.os, hx.tape.trans h.tape, hx.output.trans h.output, Nat.le_trans h.size hx.size, fun k hk hne => (hx.block k (Nat.lt_of_lt_of_le hk h.size)).trans (h.block k hk hne)⟩
theorem grownBy_trans {w w1 w2 : World} {row : Option Nat} (h : w.grownBy w1 row) (h2 : w1.grownBy w2 row) : w.grownBy w2 row :=
  ⟨h2.os.trans h.os, h2.tape.trans h.tape, h2.output.trans h.output, Nat.le_trans h.size h2.size, fun k hk hne => (h2.block k (Nat.lt_of_lt_of_le hk h.size) hne).trans (h.block k hk hne)⟩
def prevO (l : List Ar) (k : Nat) : Option Int := if k = 0 then none else (l[k - 1]?).map (·.order)

set_option maxRecDepth 100000 in
set_option maxHeartbeats 3200000 in
theorem ordered_calls (a : Option Addr) (n c : Nat) (l : List Ar) (came : Int) (b : Nat) (met : List Int) (w : World) (hb : As w a n c l) (hm : Met w b met) (h0 : 0 ≤ came) (h1 : came ≤ 1099511627776) (hbig : met.length + n ≤ 100000) :
    Calls Try.prog 34 #[.slice a n c, .int .i64 came, .map (some b)] w fun e w' => e = .returned (.bool (match okPts came none met l with | none => false | some _ => !l.isEmpty)) ∧ w.grownBy w' (some b) ∧ ∀ m, okPts came none met l = some m → Met w' b m := by
  have hlen := Lib.hid hb.len
  obtain ⟨r, hr⟩ : ∃ r, okPts came none met l = r := ⟨_, rfl⟩
  have hrh := Lib.hid hr
  rw [hr]
  clear hr
  go_enter Try.func34, Try.ntmps34
  go_wp2_with fail
  go_loopw [11] (fun i wr => ∃ k : Nat, k ≤ n ∧ i = .int .i64 k ∧ Hid (okPts came (prevO l k) (met ++ ords (l.take k)) (l.drop k) = r) ∧ Met wr b (met ++ ords (l.take k)) ∧ w.grownBy wr (some b)) (fun i _ => n - (intOf i).toNat)
  case atStart => exact ⟨0, by omega, rfl, by show _ = _; simpa [prevO, ords] using hrh.out, by simpa [ords] using hm, World.grownBy.refl w _⟩
  case round =>
    obtain ⟨k, hk, rfl, hok, hM, hG⟩ := hrel
    by_cases hlt : k < n
    · obtain ⟨b2, o2, rfl, hc⟩ := hb.at (by omega)
      have hkl : k < l.length := by rw [hlen.out]; exact hlt
      obtain ⟨d0, d1, d2, d3⟩ := hc k hkl
      replace d0 := cell_beside hm hG d0
      replace d1 := cell_beside hm hG d1
      replace d2 := cell_beside hm hG d2
      replace d3 := cell_beside hm hG d3
      have hb2l := World.block_lt_of_cell? wr _ d0
      have hdr : l.drop k = l[k] :: l.drop (k + 1) := List.drop_eq_getElem_cons hkl
      have hok2 := hok.out
      rw [hdr, okPts] at hok2
      have htk : Hid (ords (l.take (k + 1)) = ords (l.take k) ++ [l[k].order]) := by
        show _ = _
        rw [List.take_succ_eq_append_getElem hkl]; unfold ords; rw [List.map_append]; rfl
      have hpv : prevO l (k + 1) = some l[k].order := by simp [prevO, hkl]
      obtain ⟨⟨t0, t1, t2, t3⟩, hx⟩ : ∃ x, x = l[k] := ⟨_, rfl⟩
      rw [← hx] at d0 d1 d2 d3 hok2 htk hpv
      dsimp only at d0 d1 d2 d3 hok2 htk hpv
      clear hdr hx
      have hgd : w.grownBy ((wr.alloc (.cells #[.int .i64 t0, .int .i64 t1, .int .i64 t2, .int .i64 t3] 50)).drew) (some b) := ext_grown hG ((Ext.alloc wr _).trans (Ext.drewN _ 1))
      by_cases c1 : t3 < 0
      · have hr0 : r = none := by rw [← hok2, if_pos (.inl c1)]
        subst hr0
        clear hok hok2 htk hpv hrh
        go_wp2
        go_region
        go_wp2
        go_ret
        exact ⟨rfl, hgd⟩
      by_cases c2 : came ≤ t3
      · have hr0 : r = none := by rw [← hok2, if_pos (.inr (.inl c2))]
        subst hr0
        have q1 : decide (t3 < 0) = false := by simp [c1]
        have q2 : decide (came ≤ t3) = true := by simp [c2]
        clear hok hok2 htk hpv hrh
        go_wp2
        go_region
        go_wp2
        go_ret
        exact ⟨rfl, hgd⟩
      have hMd := hM.ext ((Ext.alloc wr (.cells #[.int .i64 t0, .int .i64 t1, .int .i64 t2, .int .i64 t3] 50)).trans (Ext.drewN _ 1))
      have hwf := wf_small t3 (by omega) (by omega)
      have hlk := hMd.lookup t3 hwf
      by_cases c3 : t3 ∈ met ++ ords (l.take k)
      · have hr0 : r = none := by rw [← hok2, if_pos (.inr (.inr (.inl c3)))]
        subst hr0
        rw [decide_eq_true c3] at hlk
        have q1 : decide (t3 < 0) = false := by simp [c1]
        have q2 : decide (came ≤ t3) = false := by simp [c2]
        change (Instr.lookup 66 (.map (some b)) (.int .i64 t3) false).run Try.prog ((wr.alloc (.cells #[.int .i64 t0, .int .i64 t1, .int .i64 t2, .int .i64 t3] 50)).drew) = .ok (.bool true) ((wr.alloc (.cells #[.int .i64 t0, .int .i64 t1, .int .i64 t2, .int .i64 t3] 50)).drew) at hlk
        clear hok hok2 htk hpv hrh c3
        go_wp2
        go_region
        go_wp2
        go_ret
        exact ⟨rfl, hgd⟩
      rw [decide_eq_false c3] at hlk
      change (Instr.lookup 66 (.map (some b)) (.int .i64 t3) false).run Try.prog ((wr.alloc (.cells #[.int .i64 t0, .int .i64 t1, .int .i64 t2, .int .i64 t3] 50)).drew) = .ok (.bool false) ((wr.alloc (.cells #[.int .i64 t0, .int .i64 t1, .int .i64 t2, .int .i64 t3] 50)).drew) at hlk
      have q1 : decide (t3 < 0) = false := by simp [c1]
      have q2 : decide (came ≤ t3) = false := by simp [c2]
      have hml : (met ++ ords (l.take k)).length < 1000000 := by
        rw [List.length_append]
        unfold ords
        rw [List.length_map, List.length_take]
        omega
      obtain ⟨w5, hup, hM5, hg5⟩ := hMd.update t3 hwf hml
      have hg6 : w.grownBy w5 (some b) := grownBy_trans hgd hg5
      change (Instr.mapUpdate 66 (.map (some b)) (.int .i64 t3) (.bool true)).run Try.prog ((wr.alloc (.cells #[.int .i64 t0, .int .i64 t1, .int .i64 t2, .int .i64 t3] 50)).drew) = .ok () w5 at hup
      rw [List.append_assoc, ← htk.out] at hM5
      have hpass : ∀ (_ : ¬ ∃ q ∈ prevO l k, t3 ≤ q), Hid (okPts came (prevO l (k + 1)) (met ++ ords (l.take (k + 1))) (l.drop (k + 1)) = r) := fun h => by
        show _ = _
        rw [← hok2, if_neg (by rintro (h2 | h2 | h2 | h2); exact c1 h2; exact c2 h2; exact c3 h2; exact h h2), hpv, htk.out, List.append_assoc]
      have hr4 : ∀ (_ : ∃ q ∈ prevO l k, t3 ≤ q), r = none := fun h => by rw [← hok2, if_pos (.inr (.inr (.inr h)))]
      clear hok2 hok htk hpv
      cases k with
      | zero =>
        have hp := hpass (by simp [prevO])
        clear hpass hr4 c3
        simp only [Nat.zero_mul, Nat.add_zero] at d0 d1 d2 d3
        go_wp2
        go_region
        go_wp2
        go_roundw
        case rel => exact ⟨1, by omega, by go_num, hp, hM5, hg6⟩
        case measure => simp [intOf]; omega
      | succ j =>
        have hjl : j < l.length := by omega
        have hpo : prevO l (j + 1) = some l[j].order := by simp [prevO, hjl]
        have hp3 := cell_beside hm hG (hc j hjl).2.2.2
        obtain ⟨o, ho⟩ : ∃ o, o = l[j].order := ⟨_, rfl⟩
        rw [← ho] at hpo hp3
        by_cases c4 : t3 ≤ o
        · have hr0 := hr4 ⟨o, by rw [hpo]; rfl, c4⟩
          subst hr0
          have q4 : decide (t3 ≤ o) = true := by simp [c4]
          clear hpass hr4 hrh c3 hc
          go_wp2
          go_region
          go_wp2
          go_ret
          exact ⟨rfl, hgd⟩
        · have hp := hpass (by rw [hpo]; rintro ⟨q, hq, h2⟩; cases hq; exact c4 h2)
          have q4 : decide (t3 ≤ o) = false := by simp [c4]
          clear hpass hr4 c3 hc
          go_wp2
          go_region
          go_wp2
          go_roundw
          case rel => exact ⟨j + 1 + 1, by omega, by go_num, hp, hM5, hg6⟩
          case measure => simp [intOf]; omega
    · obtain rfl : n = k := by omega
      have hfin := hok.out
      rw [List.drop_of_length_le (by rw [hlen.out]; exact Nat.le_refl _), okPts] at hfin
      subst hfin
      have hne : Hid ((!l.isEmpty) = decide (0 < n)) := by
        show _ = _
        rw [← hlen.out]
        cases l with
        | nil => rfl
        | cons x l => simp
      clear hok hrh
      go_wp2
      go_ret
      exact ⟨ret_bool hne.out.symm, hG, hM⟩
end Go.Proofs.Ytcbjadmngkednaa
