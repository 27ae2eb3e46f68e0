/-
  The reader: so many bytes, a number of so many bytes.
-/
import Derived.Test.YtkflikfcpdekdaaDoorSegPut1
namespace Go.Proofs.YtkflikfcpdekdaaDoor
open Go.RowKit

theorem grownBy_set1 (w : World) (b i : Nat) (v : Value) : w.grownBy (w.setCell ⟨b, i, none⟩ v) (some b) :=
  ⟨rfl, rfl, rfl, by simp [World.setCell], fun k _ hk => Below.heap_setCell _ _ _ _ (fun e => hk (by simp [e]))⟩
/-- The reader at R: the bytes that are left; whether it went wrong. -/
def RdS (w0 w : World) (R : Nat) (s : List UInt8 × Bool) : Prop :=
  Ext w0 w ∧ w0.heap.size ≤ R ∧ ∃ a n c, w.heap[R]? = some (.cells #[.slice a n c, .bool s.2] 79 (0, 0)) ∧ Bs w0 a n c s.1
theorem rdTake_no (m : Int) (l : List UInt8) (bad : Bool) (h : bad = true ∨ m > l.length) : rdTake m (l, bad) = ([], (l, true)) := by unfold rdTake; rw [if_pos h]
theorem rdTake_yes (m : Nat) (l : List UInt8) (h : m ≤ l.length) : rdTake (m : Int) (l, false) = (l.take m, (l.drop m, false)) := by
  unfold rdTake
  rw [if_neg (by simp; omega)]
  simp

set_option maxHeartbeats 800000 in
theorem rdtake_calls (w0 w : World) (R : Nat) (s : List UInt8 × Bool) (m : Nat) (q : List UInt8 × (List UInt8 × Bool)) (hq : rdTake (m : Int) s = q) (h : RdS w0 w R s) :
    Calls Tryd.prog 68 #[.pointer (some ⟨R, 0, none⟩), .int .i64 m] w fun e w' => ∃ a n c, e = .returned (.slice a n c) ∧ Bs w0 a n c q.1 ∧ RdS w0 w' R q.2 ∧ w.grownBy w' (some R) := by
  obtain ⟨l, bad⟩ := s
  obtain ⟨hx, hR, a, n, c, hh, hb⟩ := h
  have hxh := Lib.hid hx
  have hlen := Lib.hid hb.len
  have hle := Sl.le hb
  have hmx := Sl.max hb
  unfold maxLen at hmx
  dsimp only at hh hb hlen
  obtain ⟨c0, f0⟩ := cell0 hh 0 (.slice a n c) rfl
  obtain ⟨c1, f1⟩ := cell0 hh 1 (.bool bad) rfl
  have hhh := Lib.hid hh
  clear hh hx
  by_cases hno : bad = true ∨ n < m
  · have hq2 := Lib.hid ((rdTake_no m l bad (by rcases hno with h | h; exact .inl h; exact .inr (by rw [hlen.out]; omega))).symm.trans hq)
    have hset : Hid ((w.setCell ⟨R, 1, none⟩ (.bool true)).heap[R]? = some (.cells #[.slice a n c, .bool true] 79 (0, 0))) := by
      show _ = _
      simpa using heap_set (i := 1) hhh.out (.bool true)
    clear hq
    cases bad with
    | true =>
      go_enter Tryd.func68, Tryd.ntmps68
      go_wp2
      go_ret
      exact ⟨_, _, _, rfl, by rw [← hq2.out]; exact bs_nil _, by rw [← hq2.out]; exact ⟨hxh.out.set R 1 _ hR, hR, a, n, c, hset.out, hb⟩, grownBy_set1 w R 1 _⟩
    | false =>
      have hlt : (n : Int) < (m : Int) := by rcases hno with h | h; cases h; omega
      go_enter Tryd.func68, Tryd.ntmps68
      go_wp2
      go_ret
      exact ⟨_, _, _, rfl, by rw [← hq2.out]; exact bs_nil _, by rw [← hq2.out]; exact ⟨hxh.out.set R 1 _ hR, hR, a, n, c, hset.out, hb⟩, grownBy_set1 w R 1 _⟩
  · have hbf : bad = false := Bool.eq_false_iff.2 fun h => hno (.inl h)
    have hmn : m ≤ n := by omega
    subst hbf
    have hq2 := Lib.hid ((rdTake_yes m l (by rw [hlen.out]; exact hmn)).symm.trans hq)
    have hset : Hid ((w.setCell ⟨R, 0, none⟩ (.slice (subA a c m 1) (n - m) (c - m))).heap[R]? = some (.cells #[.slice (subA a c m 1) (n - m) (c - m), .bool false] 79 (0, 0))) := by
      show _ = _
      simpa using heap_set (i := 0) hhh.out (.slice (subA a c m 1) (n - m) (c - m))
    have hge : ¬ (n : Int) < (m : Int) := by omega
    have hs2 : Bs w0 (subA a c m 1) (n - m) (c - m) (l.drop m) := by
      have := hb.sub m n hmn (Nat.le_refl _)
      rwa [List.take_of_length_le (by rw [List.length_drop, hlen.out]; exact Nat.le_refl _)] at this
    have hs1 := hb.take m hmn
    have hmc : m ≤ c := by omega
    clear hq hno
    go_enter Tryd.func68, Tryd.ntmps68
    go_wp2
    go_ret
    exact ⟨_, _, _, rfl, by rw [← hq2.out]; exact hs1, by rw [← hq2.out]; exact ⟨hxh.out.set R 0 _ hR, hR, _, _, _, hset.out, hs2⟩, grownBy_set1 w R 0 _⟩

theorem rdn_snoc (l : List UInt8) (k : Nat) (h : k < l.length) : rdn (l.take (k + 1)) = rdn (l.take k) + 256 ^ k * l[k].toNat := by
  induction l generalizing k with
  | nil => simp at h
  | cons x l ih =>
    cases k with
    | zero => simp [rdn]
    | succ k =>
      have := ih k (by simpa using h)
      simp only [List.take_succ_cons, rdn, List.getElem_cons_succ, this, Nat.pow_succ]
      rw [Nat.mul_add, Nat.mul_assoc, ← Nat.mul_assoc 256, Nat.mul_comm 256 (256 ^ k), Nat.mul_assoc]
      omega
theorem u64_or_nat (a b : Nat) (ha : a < 18446744073709551616) (hb : b < 18446744073709551616) : bits .or .u64 (a : Int) (b : Int) = ((a ||| b : Nat) : Int) := by
  have hx : a ||| b < 2 ^ 64 := Nat.or_lt_two_pow (by omega) (by omega)
  show IntKind.u64.wrap ((BitVec.ofInt 64 (a : Int) ||| BitVec.ofInt 64 (b : Int)).toNat : Int) = _
  rw [BitVec.toNat_or, ofInt_u64 a ha, ofInt_u64 b hb]
  show ((a ||| b : Nat) : Int) % 18446744073709551616 = _
  omega
/-- A byte more of a number. -/
theorem or_byte8 (k r : Nat) (x : UInt8) (hk : k ≤ 7) (hr : r < 256 ^ k) : bits .or .u64 (r : Int) ((256 ^ k * x.toNat : Nat) : Int) = ((r + 256 ^ k * x.toNat : Nat) : Int) := by
  have hx := x.toNat_lt
  have hp : 256 ^ k = 2 ^ (8 * k) := by rw [Nat.pow_mul]
  have hp7 : 256 ^ k ≤ 256 ^ 7 := Nat.pow_le_pow_right (by decide) hk
  have h7 : (256 : Nat) ^ 7 = 72057594037927936 := rfl
  have hm : 256 ^ k * x.toNat ≤ 72057594037927936 * 255 := Nat.mul_le_mul (by omega) (by omega)
  have hor := Nat.two_pow_add_eq_or_of_lt (i := 8 * k) (b := r) (by rw [← hp]; exact hr) x.toNat
  rw [← hp] at hor
  rw [u64_or_nat _ _ (by omega) (by omega), Nat.or_comm, ← hor, Nat.add_comm]
theorem shl_byte (k : Nat) (x : UInt8) (hk : k ≤ 7) : IntKind.u64.wrap (IntKind.u64.wrap (x.toNat : Int) * 2 ^ (8 * k)) = ((256 ^ k * x.toNat : Nat) : Int) := by
  have hx := x.toNat_lt
  have hp : (256 : Nat) ^ k = 2 ^ (8 * k) := by rw [Nat.pow_mul]
  have hp7 : 256 ^ k ≤ 256 ^ 7 := Nat.pow_le_pow_right (by decide) hk
  have h7 : (256 : Nat) ^ 7 = 72057594037927936 := rfl
  have hm : 256 ^ k * x.toNat ≤ 72057594037927936 * 255 := Nat.mul_le_mul (by omega) (by omega)
  have e1 : IntKind.u64.wrap (x.toNat : Int) = (x.toNat : Int) := by show (x.toNat : Int) % 18446744073709551616 = _; omega
  have e2 : (2 : Int) ^ (8 * k) = ((256 ^ k : Nat) : Int) := by rw [hp]; simp
  rw [e1, e2]
  show ((x.toNat : Int) * ((256 ^ k : Nat) : Int)) % 18446744073709551616 = _
  rw [← Int.natCast_mul, Nat.mul_comm]
  omega
theorem rdn_lt_take (l : List UInt8) (k : Nat) (h : k ≤ l.length) : rdn (l.take k) < 256 ^ k := by
  have := rdn_lt (l.take k)
  rwa [List.length_take, Nat.min_eq_left h] at this

set_option maxHeartbeats 800000 in
theorem rdnumber_calls (w0 w : World) (R : Nat) (s : List UInt8 × Bool) (width : Nat) (hw : width ≤ 8) (q : Int × (List UInt8 × Bool)) (hq : rdNum width s = q) (h : RdS w0 w R s) :
    Calls Tryd.prog 65 #[.pointer (some ⟨R, 0, none⟩), .int .i64 width] w fun e w' => e = .returned (.int .i64 q.1) ∧ RdS w0 w' R q.2 ∧ w.grownBy w' (some R) := by
  obtain ⟨p, hp⟩ : ∃ p, rdTake (width : Int) s = p := ⟨_, rfl⟩
  have hpl : p.1.length ≤ width := by rw [← hp]; exact rdTake_le width s
  have HQ : Hid (q = (num p.1, p.2)) := by show _ = _; rw [← hq, ← hp]; rfl
  clear hq
  go_enter Tryd.func65, Tryd.ntmps65
  go_wp2_with fail
  refine (rdtake_calls w0 w R s width p hp h).mono ?_
  rintro e w1 ⟨a, n, c, rfl, hb, hr, hg⟩
  have hlen := Lib.hid hb.len
  rw [hb.len] at hpl
  have hb1 := hb.ext hr.1
  clear hb
  go_wp2_with fail
  go_loop [5, 12] (fun v i => ∃ k : Nat, k ≤ n ∧ i = .int .i64 k ∧ v = .int .u64 ((rdn (p.1.take k) : Nat) : Int)) (fun _ i => n - (intOf i).toNat)
  case atStart => exact ⟨0, by omega, rfl, by simp [rdn]⟩
  case round =>
    obtain ⟨k, hk, rfl, rfl⟩ := hrel
    by_cases hlt : k < n
    · have hkl : k < p.1.length := by rw [hlen.out]; exact hlt
      obtain ⟨b, o, rfl, hc⟩ := hb1.at (by omega)
      have hcell := hc k hkl
      have hs := rdn_snoc p.1 k hkl
      have hrl := rdn_lt_take p.1 k (by omega)
      obtain ⟨x, hx⟩ : ∃ x, p.1[k] = x := ⟨_, rfl⟩
      rw [hx] at hcell hs
      obtain ⟨r, hrr⟩ : ∃ r, rdn (p.1.take k) = r := ⟨_, rfl⟩
      rw [hrr] at hs hrl ⊢
      have hob := or_byte8 k r x (by omega) hrl
      rw [← hs] at hob
      have hob := Lib.hid hob
      clear hc hx hs hrr
      have hsh := Lib.hid (shl_byte k x (by omega))
      go_wp2
      go_round
      case rel => exact ⟨k + 1, by omega, by go_num, by rw [hsh.out, hob.out]⟩
      case measure => simp [intOf]; omega
    · obtain rfl : k = n := by omega
      rw [List.take_of_length_le (by rw [hlen.out]; omega)]
      go_wp2
      go_ret
      exact ⟨by rw [HQ.out]; rfl, by rw [HQ.out]; exact hr, hg⟩
end Go.Proofs.YtkflikfcpdekdaaDoor
