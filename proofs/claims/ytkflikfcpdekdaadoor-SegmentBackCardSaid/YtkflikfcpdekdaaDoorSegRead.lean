/-
  The reference: a number at a place.
-/
import Derived.Test.YtkflikfcpdekdaaDoorSegRd
import Derived.Test.YtkflikfcpdekdaaDoorSegPos
namespace Go.Proofs.YtkflikfcpdekdaaDoor
open Go.RowKit

theorem or_low (r : Nat) (x : UInt8) (hr : r < 256 ^ 7) : bits .or .u64 ((r * 256 : Nat) : Int) (x.toNat : Int) = ((x.toNat + 256 * r : Nat) : Int) := by
  have hx := x.toNat_lt
  have h7 : (256 : Nat) ^ 7 = 72057594037927936 := rfl
  have hor := Nat.two_pow_add_eq_or_of_lt (i := 8) (b := x.toNat) hx r
  rw [u64_or_nat _ _ (by omega) (by omega), Nat.mul_comm, show 256 * r = 2 ^ 8 * r from rfl, ← hor]
  omega

set_option maxHeartbeats 800000 in
theorem rread_calls (a : Option Addr) (n c : Nat) (l : List UInt8) (w : World) (hb : Bs w a n c l) (at_ width : Nat) (hat : at_ ≤ 1000000) (hw : width ≤ 8) (hw0 : 0 < width) :
    Calls Tryd.prog 67 #[.slice a n c, .int .i64 at_, .int .i64 width] w fun e w' => e = .returned (.tuple #[.int .u64 (if at_ + width ≤ n then (rdAt l at_ width : Int) else 0), .bool (decide (at_ + width ≤ n))]) ∧ w = w' := by
  have hlen := Lib.hid hb.len
  have hle := Sl.le hb
  have hmx := Sl.max hb
  unfold maxLen at hmx
  have hneg : ¬ (at_ : Int) < 0 := by omega
  by_cases hfit : at_ + width ≤ n
  · rw [if_pos hfit, decide_eq_true hfit]
    have hge : ¬ ((n : Int) - (width : Int) < (at_ : Int)) := by omega
    go_enter Tryd.func67, Tryd.ntmps67
    go_wp2
    go_loop [8, 9] (fun v i => ∃ j : Nat, j ≤ width ∧ i = .int .i64 ((j : Int) - 1) ∧ v = .int .u64 ((rdn ((l.drop (at_ + j)).take (width - j)) : Nat) : Int)) (fun _ i => (intOf i + 1).toNat)
    case atStart => exact ⟨width, by omega, rfl, by simp [rdn]⟩
    case round =>
      obtain ⟨j, hj, rfl, rfl⟩ := hrel
      cases j with
      | zero =>
        go_wp2
        go_ret2
        exact ⟨by simp [rdAt], rfl⟩
      | succ j =>
        obtain ⟨b, o, rfl, hc⟩ := hb.at (by omega)
        have hkl : at_ + j < l.length := by rw [hlen.out]; omega
        have hcell := hc (at_ + j) hkl
        have hs : rdn ((l.drop (at_ + j)).take (width - j)) = l[at_ + j].toNat + 256 * rdn ((l.drop (at_ + (j + 1))).take (width - (j + 1))) := by
          rw [show width - j = (width - (j + 1)) + 1 by omega, List.drop_eq_getElem_cons hkl, List.take_succ_cons]; rfl
        have hrl : rdn ((l.drop (at_ + (j + 1))).take (width - (j + 1))) < 256 ^ 7 := by
          have h1 := rdn_lt ((l.drop (at_ + (j + 1))).take (width - (j + 1)))
          have h2 : 256 ^ ((l.drop (at_ + (j + 1))).take (width - (j + 1))).length ≤ 256 ^ 7 := Nat.pow_le_pow_right (by decide) (by rw [List.length_take]; omega)
          omega
        obtain ⟨x, hx⟩ : ∃ x, l[at_ + j] = x := ⟨_, rfl⟩
        rw [hx] at hcell hs
        obtain ⟨r, hr⟩ : ∃ r, rdn ((l.drop (at_ + (j + 1))).take (width - (j + 1))) = r := ⟨_, rfl⟩
        rw [hr] at hs hrl ⊢
        have hob := Lib.hid (or_low r x hrl)
        have hS := Lib.hid hs
        have hji : ((j + 1 : Nat) : Int) - 1 = (j : Int) := by omega
        rw [hji]
        clear hc hx hr hs hji
        have hw1 : IntKind.u64.wrap (x.toNat : Int) = (x.toNat : Int) := by have := x.toNat_lt; show (x.toNat : Int) % 18446744073709551616 = _; omega
        have hob2 : Hid (bits .or .u64 ((r : Int) * 256) (x.toNat : Int) = ((rdn ((l.drop (at_ + j)).take (width - j)) : Nat) : Int)) := by
          show _ = _
          rw [hS.out, ← hob.out]; simp
        clear hob hS
        go_wp2
        go_round
        case rel => exact ⟨j, by omega, rfl, by rw [hob2.out]⟩
        case measure => simp [intOf]
  · rw [if_neg hfit, decide_eq_false hfit]
    have hge : (n : Int) - (width : Int) < (at_ : Int) := by omega
    go_enter Tryd.func67, Tryd.ntmps67
    go_wp2
    go_ret2
    exact ⟨rfl, rfl⟩
/-- The same, the place told. -/
theorem rread_yes (a : Option Addr) (n c : Nat) (l : List UInt8) (w : World) (hb : Bs w a n c l) (p : Int) (at_ width : Nat) (hp : p = (at_ : Int)) (hat : at_ ≤ 1000000) (hw : width ≤ 8) (hw0 : 0 < width) (hfit : at_ + width ≤ n) :
    Calls Tryd.prog 67 #[.slice a n c, .int .i64 p, .int .i64 width] w fun e w' => e = .returned (.tuple #[.int .u64 (rdAt l at_ width : Int), .bool true]) ∧ w = w' := by
  subst hp
  have := rread_calls a n c l w hb at_ width hat hw hw0
  rw [if_pos hfit, decide_eq_true hfit] at this
  exact this
theorem rread_no (a : Option Addr) (n c : Nat) (l : List UInt8) (w : World) (hb : Bs w a n c l) (p : Int) (at_ width : Nat) (hp : p = (at_ : Int)) (hat : at_ ≤ 1000000) (hw : width ≤ 8) (hw0 : 0 < width) (hfit : ¬ at_ + width ≤ n) :
    Calls Tryd.prog 67 #[.slice a n c, .int .i64 p, .int .i64 width] w fun e w' => e = .returned (.tuple #[.int .u64 0, .bool false]) ∧ w = w' := by
  subst hp
  have := rread_calls a n c l w hb at_ width hat hw hw0
  rw [if_neg hfit, decide_eq_false hfit] at this
  exact this
theorem rdAt_lt (l : List UInt8) (at_ w : Nat) : rdAt l at_ w < 256 ^ w := by
  have h1 := rdn_lt ((l.drop at_).take w)
  have h2 : 256 ^ ((l.drop at_).take w).length ≤ 256 ^ w := Nat.pow_le_pow_right (by decide) (by rw [List.length_take]; omega)
  unfold rdAt
  omega
theorem rdAt_one (l : List UInt8) (at_ : Nat) (h : at_ < l.length) : rdAt l at_ 1 = l[at_].toNat := by
  unfold rdAt
  rw [List.drop_eq_getElem_cons h, List.take_succ_cons, List.take_zero]
  show _ + 256 * 0 = _
  omega
theorem rgAt_snoc (l : List UInt8) (p k : Nat) : rgAt l p (k + 1) = rgAt l p k ++ [((rdAt l (p + 6 * k) 4 : Int), (rdAt l (p + 6 * k + 4) 2 : Int))] := by
  induction k generalizing p with
  | zero => rfl
  | succ k ih =>
    have e : rgAt l p (k + 1 + 1) = ((rdAt l p 4 : Int), (rdAt l (p + 4) 2 : Int)) :: rgAt l (p + 6) (k + 1) := rfl
    have e2 : rgAt l p (k + 1) = ((rdAt l p 4 : Int), (rdAt l (p + 4) 2 : Int)) :: rgAt l (p + 6) k := rfl
    rw [e, ih, e2, show p + 6 + 6 * k = p + 6 * (k + 1) by omega]
    rfl
theorem rgAt_length (l : List UInt8) (p k : Nat) : (rgAt l p k).length = k := by
  induction k generalizing p with
  | zero => rfl
  | succ k ih => show (_ :: rgAt l (p + 6) k).length = _; rw [List.length_cons, ih]
end Go.Proofs.YtkflikfcpdekdaaDoor
