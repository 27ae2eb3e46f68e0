/-
  Records in memory; whether one is right: the program's and the reference's.
-/
import Derived.Test.YtkflikfcpdekdaaDoorLib
import Derived.Test.YtkflikfcpdekdaaDoorProg
import Derived.Laws.Strings
import Derived.Test.YtkflikfcpdekdaaDoorSegPlain
namespace Go.Proofs.YtkflikfcpdekdaaDoor
open Go.RowKit

/-- The cells of archives. -/
def rgc (l : List (Int × Int)) : List Value := (l.map fun x => [Value.int .i64 x.1, .int .i64 x.2]).flatten
/-- In w the slice reads as these archives. -/
def Rg (w : World) (a : Option Addr) (n c : Nat) (l : List (Int × Int)) : Prop := Sl w a n c 2 (rgc l)
theorem rgc_length (l : List (Int × Int)) : (rgc l).length = l.length * 2 := by
  induction l with
  | nil => rfl
  | cons x l ih => have e : rgc (x :: l) = [Value.int .i64 x.1, .int .i64 x.2] ++ rgc l := rfl; rw [e, List.length_append, ih]; simp; omega
theorem rgc_get (l : List (Int × Int)) (i : Nat) (h : i < l.length) : (rgc l)[i * 2]? = some (.int .i64 l[i].1) ∧ (rgc l)[i * 2 + 1]? = some (.int .i64 l[i].2) := by
  induction l generalizing i with
  | nil => simp at h
  | cons x l ih =>
    have e : rgc (x :: l) = [Value.int .i64 x.1, .int .i64 x.2] ++ rgc l := rfl
    rw [e]
    cases i with
    | zero => exact ⟨rfl, rfl⟩
    | succ i =>
      have hi := ih i (by simpa using h)
      rw [List.getElem?_append_right (by simp; omega), List.getElem?_append_right (by simp; omega)]
      simp only [List.length_cons, List.length_nil, List.getElem_cons_succ]
      rw [show (i + 1) * 2 - (0 + 1 + 1) = i * 2 by omega, show (i + 1) * 2 + 1 - (0 + 1 + 1) = i * 2 + 1 by omega]
      exact hi
theorem Rg.len {w : World} {a : Option Addr} {n c : Nat} {l : List (Int × Int)} (h : Rg w a n c l) : l.length = n := by
  have := Sl.len h
  rw [rgc_length] at this
  omega
theorem Rg.ext {w w' : World} {a : Option Addr} {n c : Nat} {l : List (Int × Int)} (h : Rg w a n c l) (hx : Ext w w') : Rg w' a n c l := Sl.ext h hx
theorem Rg.at {w : World} {a : Option Addr} {n c : Nat} {l : List (Int × Int)} (h : Rg w a n c l) (hn : 0 < n) :
    ∃ b o, a = some ⟨b, o, none⟩ ∧ ∀ i (h : i < l.length), w.cell? ⟨b, o + i * 2, none⟩ = some (.int .i64 l[i].1) ∧ w.cell? ⟨b, o + i * 2 + 1, none⟩ = some (.int .i64 l[i].2) := by
  obtain ⟨b, o, ha, hc⟩ := Sl.at_ h hn
  refine ⟨b, o, ha, fun i hi => ?_⟩
  obtain ⟨g1, g2⟩ := rgc_get l i hi
  have hl := rgc_length l
  have e1 := hc (i * 2) (by omega)
  have e2 := hc (i * 2 + 1) (by omega)
  rw [List.getElem?_eq_getElem (by omega)] at g1 g2
  rw [Option.some.inj g1] at e1
  rw [Option.some.inj g2] at e2
  exact ⟨e1, by rw [Nat.add_assoc]; exact e2⟩
/-- A record as a value. -/
def rv (r : Rec) (a : Option Addr) (n c : Nat) : Value :=
  .agg #[.int .i64 r.kind, .string ⟨r.path.toArray⟩, .int .i64 r.method, .int .i64 r.factor, .slice a n c, .int .i64 r.rung, .int .i64 r.time, .int .i64 r.now, .int .i64 r.value]

theorem timed_calls (t : Int) (w : World) : Calls Tryd.prog 58 #[.int .i64 t] w fun e w' => e = .returned (.bool (timedOk t)) ∧ w' = w := by
  by_cases h1 : 0 ≤ t <;> by_cases h2 : t ≤ 1099511627776
  all_goals
    go_enter Tryd.func58, Tryd.ntmps58
    go_wp2
    go_ret
    exact ⟨ret_bool (by simp [timedOk, h1, h2]), rfl⟩
theorem rtime_calls (t : Int) (w : World) : Calls Tryd.prog 60 #[.int .i64 t] w fun e w' => e = .returned (.bool (timedOk t)) ∧ w' = w := by
  by_cases h1 : 0 ≤ t <;> by_cases h2 : t ≤ 1099511627776
  all_goals
    go_enter Tryd.func60, Tryd.ntmps60
    go_wp2
    go_ret
    exact ⟨ret_bool (by simp [timedOk, h1, h2]), rfl⟩
theorem rungs_calls (a : Option Addr) (n c : Nat) (l : List (Int × Int)) (w : World) (hb : Rg w a n c l) : Calls Tryd.prog 56 #[.slice a n c] w fun e w' => e = .returned (.bool (rungsOk l)) ∧ Ext w w' := by
  have hlen := Lib.hid hb.len
  by_cases h0 : n = 0
  · subst h0
    go_enter Tryd.func56, Tryd.ntmps56
    go_wp2
    go_ret
    exact ⟨ret_bool (by simp [rungsOk, hlen.out]), Ext.refl _⟩
  · have hq0 : ((n : Int) == 0) = false := by rw [beq_eq_false_iff_ne]; omega
    by_cases h1 : 4 < n
    · have hq1 : decide ((4 : Int) < (n : Int)) = true := by simp; omega
      go_enter Tryd.func56, Tryd.ntmps56
      go_wp2
      go_ret
      exact ⟨ret_bool (by simp [rungsOk, hlen.out]; omega), Ext.refl _⟩
    · have hq1 : decide ((4 : Int) < (n : Int)) = false := by simp; omega
      have HR : Hid (rungsOk l = l.all rungOk) := by show _ = _; simp [rungsOk, hlen.out]; omega
      go_enter Tryd.func56, Tryd.ntmps56
      go_wp2
      go_loopw [15] (fun i wr => ∃ k : Nat, k ≤ n ∧ i = .int .i64 k ∧ l.all rungOk = (l.drop k).all rungOk ∧ Ext w wr) (fun i _ => n - (intOf i).toNat)
      case atStart => exact ⟨0, by omega, rfl, by simp, Ext.refl _⟩
      case round =>
        obtain ⟨k, hk, rfl, hall, hx⟩ := hrel
        have hall := Lib.hid hall
        by_cases hlt : k < n
        · have hkl : k < l.length := by rw [hlen.out]; exact hlt
          obtain ⟨b, o, rfl, hc⟩ := (hb.ext hx).at (by omega)
          obtain ⟨hc1, hc2⟩ := hc k hkl
          obtain ⟨x, hxx⟩ : ∃ x, l[k] = x := ⟨_, rfl⟩
          rw [hxx] at hc1 hc2
          have HS : Hid ((l.drop k).all rungOk = (rungOk x && (l.drop (k + 1)).all rungOk)) := by show _ = _; rw [List.drop_eq_getElem_cons hkl, hxx]; rfl
          clear hc hxx
          by_cases hok : rungOk x = true
          · have HS2 : Hid ((l.drop k).all rungOk = (l.drop (k + 1)).all rungOk) := by show _ = _; rw [HS.out, hok]; rfl
            simp only [rungOk, Bool.and_eq_true, decide_eq_true_eq] at hok
            obtain ⟨⟨⟨q1, q2⟩, q3⟩, q4⟩ := hok
            go_wp2
            go_roundw
            case rel => exact ⟨k + 1, by omega, by go_num, by rw [hall.out, HS2.out], hx.trans (Ext.alloc _ _)⟩
            case measure => simp [intOf]; omega
          · have HF : Hid (rungsOk l = false) := by show _ = _; rw [HR.out, hall.out, HS.out, Bool.eq_false_iff.2 hok]; rfl
            have hcase : x.1 < 1 ∨ (¬ x.1 < 1 ∧ 86400 < x.1) ∨ (¬ x.1 < 1 ∧ ¬ 86400 < x.1 ∧ x.2 < 1) ∨ (¬ x.1 < 1 ∧ ¬ 86400 < x.1 ∧ ¬ x.2 < 1 ∧ 400 < x.2) := by
              simp only [rungOk, Bool.and_eq_true, decide_eq_true_eq] at hok
              omega
            clear hok HS
            rcases hcase with q1 | ⟨q1, q2⟩ | ⟨q1, q2, q3⟩ | ⟨q1, q2, q3, q4⟩
            all_goals
              go_wp2
              go_ret
              exact ⟨ret_bool HF.out.symm, hx.trans (Ext.alloc _ _)⟩
        · obtain rfl : k = n := by omega
          have HT : Hid (rungsOk l = true) := by show _ = _; rw [HR.out, hall.out, List.drop_of_length_le (by rw [hlen.out]; omega)]; rfl
          go_wp2
          go_ret
          exact ⟨ret_bool HT.out.symm, hx⟩
def blankB (r : Rec) : Prop := r.path = [] ∧ r.method = 0 ∧ r.factor = 0 ∧ r.rungs = []
theorem bne0 (x y : Int) : (x != y) = decide (x ≠ y) := by rw [Bool.eq_iff_iff]; simp
theorem nat_beq0 (n : Nat) : ((n : Int) == 0) = decide (n = 0) := by rw [Bool.eq_iff_iff]; simp
theorem blank_calls (r : Rec) (a : Option Addr) (n c : Nat) (w : World) (hb : Rg w a n c r.rungs) : Calls Tryd.prog 57 #[rv r a n c] w fun e w' => e = .returned (.bool (blank r)) ∧ Ext w w' := by
  have hlen := Lib.hid hb.len
  unfold rv
  have hnr : r.rungs = [] ↔ n = 0 := by rw [← hlen.out]; exact List.length_eq_zero_iff.symm
  have HB : Hid (blank r = (decide (r.path = []) && decide (r.method = 0) && decide (r.factor = 0) && decide (n = 0))) := by show _ = _; unfold blank; simp [hnr]
  clear hlen hnr hb
  go_enter Tryd.func57, Tryd.ntmps57
  go_wp2
  all_goals
    go_ret
    refine ⟨ret_bool ?_, Ext.alloc _ _⟩
    rw [HB.out]
    simp [*] <;> exact nat_beq0 n
end Go.Proofs.YtkflikfcpdekdaaDoor
