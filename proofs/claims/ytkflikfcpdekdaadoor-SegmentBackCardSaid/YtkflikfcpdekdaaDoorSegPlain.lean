/-
  A segment's record as plain Lean: what is right, how it is put into bytes, how it is read off them; that the two belong together. No program in sight.
-/
import Derived.RowKit
namespace Go.Proofs.YtkflikfcpdekdaaDoor
open Go.RowKit

/-- A record. -/
structure Rec where
  kind : Int
  path : List UInt8
  method : Int
  factor : Int
  rungs : List (Int × Int)
  rung : Int
  time : Int
  now : Int
  value : Int
deriving DecidableEq
/-- The zero record. -/
def Rec.zero : Rec := ⟨0, [], 0, 0, [], 0, 0, 0, 0⟩
/-- May a number be a time? -/
def timedOk (t : Int) : Bool := decide (0 ≤ t) && decide (t ≤ 1099511627776)
/-- May an archive be? -/
def rungOk (x : Int × Int) : Bool := decide (1 ≤ x.1) && decide (x.1 ≤ 86400) && decide (1 ≤ x.2) && decide (x.2 ≤ 400)
/-- May archives be? -/
def rungsOk (l : List (Int × Int)) : Bool := decide (1 ≤ l.length) && decide (l.length ≤ 4) && l.all rungOk
/-- Has a record none of a head's fields? -/
def blank (r : Rec) : Bool := decide (r.path = []) && decide (r.method = 0) && decide (r.factor = 0) && decide (r.rungs = [])
/-- Is it a record as it must be? -/
def right (r : Rec) : Bool :=
  if r.kind = 1 then decide (r.rung = 0) && decide (r.time = 0) && decide (r.now = 0) && decide (r.value = 0) && decide (r.path ≠ []) && decide (r.path.length ≤ 263) && decide (1 ≤ r.method) && decide (r.method ≤ 5) && decide (0 ≤ r.factor) && decide (r.factor ≤ 1000000) && rungsOk r.rungs
  else if r.kind = 2 then blank r && decide (r.rung = 0) && timedOk r.time && timedOk r.now && decide (r.value ≠ -9223372036854775808)
  else if r.kind = 3 then blank r && decide (r.now = 0) && decide (0 ≤ r.rung) && decide (r.rung < 4) && timedOk r.time && decide (r.value ≠ -9223372036854775808)
  else false

/-- A number in so many bytes, the lowest first. -/
def le : Nat → Int → List UInt8
  | 0, _ => []
  | w + 1, v => UInt8.ofNat (v % 256).toNat :: le w (v / 256)
/-- The number of bytes, the lowest first. -/
def rdn : List UInt8 → Nat
  | [] => 0
  | x :: l => x.toNat + 256 * rdn l
theorem le_length (w : Nat) (v : Int) : (le w v).length = w := by
  induction w generalizing v with
  | zero => rfl
  | succ w ih => simp [le, ih]
theorem rdn_lt (l : List UInt8) : rdn l < 256 ^ l.length := by
  induction l with
  | nil => simp [rdn]
  | cons x l ih => have := x.toNat_lt; simp only [rdn, List.length_cons, Nat.pow_succ]; omega
theorem rdn_le (w : Nat) (v : Int) (h0 : 0 ≤ v) (h1 : v < 256 ^ w) : (rdn (le w v) : Int) = v := by
  induction w generalizing v with
  | zero => simp [le, rdn] at *; omega
  | succ w ih =>
    have h2 : v / 256 < 256 ^ w := by
      rw [Int.pow_succ] at h1
      exact Int.ediv_lt_of_lt_mul (by omega) h1
    have := ih (v / 256) (by omega) h2
    have h3 : (UInt8.ofNat (v % 256).toNat).toNat = (v % 256).toNat := by
      rw [UInt8.toNat_ofNat']; omega
    simp only [le, rdn, h3]
    omega
theorem le_rdn (l : List UInt8) : le l.length (rdn l) = l := by
  induction l with
  | nil => rfl
  | cons x l ih =>
    have hx := x.toNat_lt
    have h1 : ((x.toNat + 256 * rdn l : Nat) : Int) % 256 = x.toNat := by omega
    have h2 : ((x.toNat + 256 * rdn l : Nat) : Int) / 256 = (rdn l : Nat) := by omega
    simp only [rdn, List.length_cons, le]
    rw [h1, h2, ih]
    simp
theorem le_mod (w : Nat) (v m q : Int) (k : Nat) (h : v = m + 256 ^ (w + k) * q) : le w v = le w m := by
  induction w generalizing v m with
  | zero => rfl
  | succ w ih =>
    have e : (256 : Int) ^ (w + 1 + k) * q = 256 * (256 ^ (w + k) * q) := by rw [show w + 1 + k = (w + k) + 1 by omega, Int.pow_succ, Int.mul_comm (256 ^ (w + k)) 256, Int.mul_assoc]
    rw [e] at h
    have h1 : v % 256 = m % 256 := by omega
    have h2 : v / 256 = m / 256 + 256 ^ (w + k) * q := by omega
    simp only [le]
    rw [h1, ih _ _ h2]
theorem le_wrap (w : Nat) (hw : w ≤ 8) (v : Int) : le w (wrap64 v) = le w v := by
  apply le_mod w _ _ (-((v + 9223372036854775808) / 18446744073709551616)) (8 - w)
  rw [show w + (8 - w) = 8 by omega, show (256 : Int) ^ 8 = 18446744073709551616 from rfl]
  unfold wrap64
  omega
theorem le_u64 (w : Nat) (hw : w ≤ 8) (v : Int) : le w (v % 18446744073709551616) = le w v := by
  apply le_mod w _ _ (-(v / 18446744073709551616)) (8 - w)
  rw [show w + (8 - w) = 8 by omega, show (256 : Int) ^ 8 = 18446744073709551616 from rfl]
  omega
theorem rdn_lt8 (l : List UInt8) (h : l.length ≤ 8) : rdn l < 18446744073709551616 := by
  have h1 := rdn_lt l
  have h2 : 256 ^ l.length ≤ 256 ^ 8 := Nat.pow_le_pow_right (by omega) h
  have h3 : (256 : Nat) ^ 8 = 18446744073709551616 := rfl
  omega
/-- What a number's bytes say, as a number with a sign. -/
def num (l : List UInt8) : Int := wrap64 (rdn l)
theorem le_num (l : List UInt8) (h : l.length ≤ 8) : le l.length (num l) = l := by
  rw [num, le_wrap _ h, le_rdn]
/-- Does a number lie in so many bytes? -/
def fits (w : Nat) (v : Int) : Prop := (w < 8 ∧ 0 ≤ v ∧ v < 256 ^ w) ∨ (w = 8 ∧ -9223372036854775808 ≤ v ∧ v ≤ 9223372036854775807)
theorem rdn_le8 (v : Int) : (rdn (le 8 v) : Int) = v % 18446744073709551616 := by
  rw [← le_u64 8 (by omega) v, rdn_le 8 _ (by omega) (by rw [show (256 : Int) ^ 8 = 18446744073709551616 from rfl]; omega)]
theorem num_le (w : Nat) (v : Int) (h : fits w v) : num (le w v) = v := by
  rcases h with ⟨hw, h0, h1⟩ | ⟨rfl, h0, h1⟩
  · rw [num, rdn_le w v h0 h1]
    have h2 : (256 : Int) ^ w ≤ 256 ^ 7 := by
      have hw2 : w = 0 ∨ w = 1 ∨ w = 2 ∨ w = 3 ∨ w = 4 ∨ w = 5 ∨ w = 6 ∨ w = 7 := by omega
      rcases hw2 with rfl | rfl | rfl | rfl | rfl | rfl | rfl | rfl <;> decide
    have h3 : (256 : Int) ^ 7 = 72057594037927936 := rfl
    unfold wrap64
    omega
  · rw [num, rdn_le8]
    unfold wrap64
    omega

/-- An archive's bytes. -/
def rungPut (x : Int × Int) : List UInt8 := le 4 x.1 ++ le 2 x.2
/-- A record's payload. -/
def segPut (r : Rec) : List UInt8 :=
  UInt8.ofNat (r.kind % 256).toNat :: (
    if r.kind = 1 then le 2 r.path.length ++ (r.path ++ (le 1 r.method ++ (le 4 r.factor ++ (le 1 r.rungs.length ++ (r.rungs.map rungPut).flatten))))
    else if r.kind = 2 then le 8 r.time ++ (le 8 r.now ++ le 8 r.value)
    else le 1 r.rung ++ (le 8 r.time ++ le 8 r.value))

theorem byte1 : UInt8.ofNat ((1 : Int) % 256).toNat = 1 := by decide
theorem byte2 : UInt8.ofNat ((2 : Int) % 256).toNat = 2 := by decide
theorem byte3 : UInt8.ofNat ((3 : Int) % 256).toNat = 3 := by decide
theorem segPut1 (r : Rec) (h : r.kind = 1) : segPut r = 1 :: (le 2 r.path.length ++ (r.path ++ (le 1 r.method ++ (le 4 r.factor ++ (le 1 r.rungs.length ++ (r.rungs.map rungPut).flatten))))) := by
  unfold segPut; rw [h, if_pos rfl, byte1]
theorem segPut2 (r : Rec) (h : r.kind = 2) : segPut r = 2 :: (le 8 r.time ++ (le 8 r.now ++ le 8 r.value)) := by
  unfold segPut; rw [h, if_neg (by decide), if_pos rfl, byte2]
theorem segPut3 (r : Rec) (h : r.kind = 3) : segPut r = 3 :: (le 1 r.rung ++ (le 8 r.time ++ le 8 r.value)) := by
  unfold segPut; rw [h, if_neg (by decide), if_neg (by decide), byte3]
theorem le_one (v : Int) : le 1 v = [UInt8.ofNat (v % 256).toNat] := rfl

/-- So many bytes. -/
def rdTake (n : Int) (s : List UInt8 × Bool) : List UInt8 × (List UInt8 × Bool) :=
  if s.2 = true ∨ n > s.1.length then ([], (s.1, true)) else (s.1.take n.toNat, (s.1.drop n.toNat, false))
/-- A number of so many bytes. -/
def rdNum (w : Nat) (s : List UInt8 × Bool) : Int × (List UInt8 × Bool) := (num (rdTake w s).1, (rdTake w s).2)
/-- The archives. -/
def rdRungs : Nat → List (Int × Int) → List UInt8 × Bool → List (Int × Int) × (List UInt8 × Bool)
  | 0, acc, s => (acc, s)
  | k + 1, acc, s => if s.2 = true then (acc, s) else rdRungs k (acc ++ [((rdNum 4 s).1, (rdNum 2 (rdNum 4 s).2).1)]) (rdNum 2 (rdNum 4 s).2).2
/-- A head, behind its kind. -/
def rdHead (s : List UInt8 × Bool) : Rec × (List UInt8 × Bool) :=
  let n := rdNum 2 s
  let p := rdTake n.1 n.2
  let m := rdNum 1 p.2
  let f := rdNum 4 m.2
  let k := rdNum 1 f.2
  let l := rdRungs k.1.toNat [] k.2
  (⟨1, p.1, m.1, f.1, l.1, 0, 0, 0, 0⟩, l.2)
/-- A point, behind its kind. -/
def rdPoint (s : List UInt8 × Bool) : Rec × (List UInt8 × Bool) :=
  let t := rdNum 8 s
  let n := rdNum 8 t.2
  let v := rdNum 8 n.2
  (⟨2, [], 0, 0, [], 0, t.1, n.1, v.1⟩, v.2)
/-- A slot, behind its kind. -/
def rdSlot (s : List UInt8 × Bool) : Rec × (List UInt8 × Bool) :=
  let g := rdNum 1 s
  let t := rdNum 8 g.2
  let v := rdNum 8 t.2
  (⟨3, [], 0, 0, [], g.1, t.1, 0, v.1⟩, v.2)
/-- What a payload says behind its kind. -/
def rdRest (k : Int) (s : List UInt8 × Bool) : Rec × (List UInt8 × Bool) :=
  if k = 1 then rdHead s else if k = 2 then rdPoint s else if k = 3 then rdSlot s else (⟨k, [], 0, 0, [], 0, 0, 0, 0⟩, s)
/-- What a payload says. -/
def rdAll (p : List UInt8) : Rec × (List UInt8 × Bool) := rdRest (rdNum 1 (p, false)).1 (rdNum 1 (p, false)).2
/-- The record of a payload. -/
def segTake (p : List UInt8) : Rec × Int :=
  let x := rdAll p
  if x.2.2 = true ∨ x.2.1 ≠ [] ∨ right x.1 = false then (Rec.zero, 7) else (x.1, 0)

-- What is read is what is put.
theorem rdTake_ok (n : Int) (s : List UInt8 × Bool) (hb : (rdTake n s).2.2 = false) (hn : 0 ≤ n) : s.2 = false ∧ s.1 = (rdTake n s).1 ++ (rdTake n s).2.1 ∧ ((rdTake n s).1.length : Int) = n := by
  unfold rdTake at hb ⊢
  split at hb
  · cases hb
  · rename_i h1
    rw [if_neg h1]
    have h2 : s.2 = false := by simpa using fun hh => h1 (.inl hh)
    have h3 : ¬ n > s.1.length := fun hh => h1 (.inr hh)
    exact ⟨h2, by simp, by rw [List.length_take]; omega⟩
theorem rdTake_le (n : Nat) (s : List UInt8 × Bool) : (rdTake n s).1.length ≤ n := by
  unfold rdTake
  split
  · simp
  · simp only [Int.toNat_natCast, List.length_take]; omega
theorem num_small (l : List UInt8) (h : l.length < 8) : 0 ≤ num l := by
  have h1 := rdn_lt l
  have h2 : 256 ^ l.length ≤ 256 ^ 7 := Nat.pow_le_pow_right (by omega) (by omega)
  have h3 : (256 : Nat) ^ 7 = 72057594037927936 := rfl
  unfold num wrap64
  omega
theorem rdNum_nonneg (w : Nat) (s : List UInt8 × Bool) (hw : w < 8) : 0 ≤ (rdNum w s).1 := num_small _ (Nat.lt_of_le_of_lt (rdTake_le w s) hw)
theorem rdTake_put (q b : List UInt8) : rdTake q.length (q ++ b, false) = (q, (b, false)) := by
  unfold rdTake
  rw [if_neg (by simp; omega)]
  simp
theorem rdNum_ok (w : Nat) (s : List UInt8 × Bool) (hb : (rdNum w s).2.2 = false) (hw : w ≤ 8) : s.2 = false ∧ s.1 = le w (rdNum w s).1 ++ (rdNum w s).2.1 := by
  obtain ⟨h1, h2, h3⟩ := rdTake_ok w s hb (by omega)
  have h4 : (rdTake w s).1.length = w := by omega
  refine ⟨h1, ?_⟩
  have h5 := le_num (rdTake w s).1 (by omega)
  rw [h4] at h5
  unfold rdNum
  rw [h5]
  exact h2
theorem rdNum_put (w : Nat) (v : Int) (b : List UInt8) (h : fits w v) : rdNum w (le w v ++ b, false) = (v, (b, false)) := by
  have := rdTake_put (le w v) b
  rw [le_length] at this
  unfold rdNum
  rw [this]
  simp [num_le w v h]
theorem rdRungs_ok (k : Nat) (acc : List (Int × Int)) (s : List UInt8 × Bool) (hb : (rdRungs k acc s).2.2 = false) : s.2 = false ∧ ∃ l', (rdRungs k acc s).1 = acc ++ l' ∧ l'.length = k ∧ s.1 = (l'.map rungPut).flatten ++ (rdRungs k acc s).2.1 := by
  induction k generalizing acc s with
  | zero => exact ⟨hb, [], by simp [rdRungs], rfl, by simp [rdRungs]⟩
  | succ k ih =>
    rw [rdRungs] at hb ⊢
    split at hb
    · rename_i h1; rw [hb] at h1; cases h1
    · rename_i h1
      rw [if_neg h1]
      obtain ⟨h2, l', h3, h4, h5⟩ := ih _ _ hb
      obtain ⟨h6, h7⟩ := rdNum_ok 2 (rdNum 4 s).2 h2 (by omega)
      obtain ⟨h8, h9⟩ := rdNum_ok 4 s h6 (by omega)
      refine ⟨h8, ((rdNum 4 s).1, (rdNum 2 (rdNum 4 s).2).1) :: l', by rw [h3, List.append_assoc]; rfl, by simp [h4], ?_⟩
      rw [h9, h7, h5]
      simp [rungPut]
def rungFits (x : Int × Int) : Prop := fits 4 x.1 ∧ fits 2 x.2
theorem rdRungs_put (l acc : List (Int × Int)) (b : List UInt8) (h : ∀ x ∈ l, rungFits x) : rdRungs l.length acc ((l.map rungPut).flatten ++ b, false) = (acc ++ l, (b, false)) := by
  induction l generalizing acc with
  | nil => simp [rdRungs]
  | cons x l ih =>
    have hx := h x (by simp)
    have e : ((x :: l).map rungPut).flatten ++ b = le 4 x.1 ++ (le 2 x.2 ++ ((l.map rungPut).flatten ++ b)) := by simp [rungPut]
    rw [e, List.length_cons, rdRungs, if_neg (by simp), rdNum_put 4 _ _ hx.1]
    simp only
    rw [rdNum_put 2 _ _ hx.2]
    simp only
    rw [ih _ (fun y hy => h y (by simp [hy]))]
    simp
theorem head_parts (s : List UInt8 × Bool) (n : Int × (List UInt8 × Bool)) (q : List UInt8 × (List UInt8 × Bool)) (m f k : Int × (List UInt8 × Bool)) (l : List (Int × Int) × (List UInt8 × Bool))
    (e1 : rdNum 2 s = n) (e2 : rdTake n.1 n.2 = q) (e3 : rdNum 1 q.2 = m) (e4 : rdNum 4 m.2 = f) (e5 : rdNum 1 f.2 = k) (e6 : rdRungs k.1.toNat [] k.2 = l) (hb : l.2.2 = false) (hn : l.2.1 = []) :
    s.2 = false ∧ segPut ⟨1, q.1, m.1, f.1, l.1, 0, 0, 0, 0⟩ = 1 :: s.1 := by
  have gn : 0 ≤ n.1 := by rw [← e1]; exact rdNum_nonneg 2 s (by decide)
  have gk : 0 ≤ k.1 := by rw [← e5]; exact rdNum_nonneg 1 f.2 (by decide)
  have a6 := rdRungs_ok k.1.toNat [] k.2
  rw [e6] at a6
  obtain ⟨b6, l', c6, d6, g6⟩ := a6 hb
  have a5 := rdNum_ok 1 f.2
  rw [e5] at a5
  obtain ⟨b5, c5⟩ := a5 b6 (by decide)
  have a4 := rdNum_ok 4 m.2
  rw [e4] at a4
  obtain ⟨b4, c4⟩ := a4 b5 (by decide)
  have a3 := rdNum_ok 1 q.2
  rw [e3] at a3
  obtain ⟨b3, c3⟩ := a3 b4 (by decide)
  have a2 := rdTake_ok n.1 n.2
  rw [e2] at a2
  obtain ⟨b2, c2, d2⟩ := a2 b3 gn
  have a1 := rdNum_ok 2 s
  rw [e1] at a1
  obtain ⟨b1, c1⟩ := a1 b2 (by decide)
  refine ⟨b1, ?_⟩
  rw [segPut1 _ rfl]
  dsimp only
  rw [c1, c2, c3, c4, c5, g6, hn, d2, c6, List.nil_append, d6, Int.toNat_of_nonneg gk, List.append_nil]
theorem rdHead_eq (s : List UInt8 × Bool) : ∃ n q m f k l, rdNum 2 s = n ∧ rdTake n.1 n.2 = q ∧ rdNum 1 q.2 = m ∧ rdNum 4 m.2 = f ∧ rdNum 1 f.2 = k ∧ rdRungs k.1.toNat [] k.2 = l ∧ rdHead s = (⟨1, q.1, m.1, f.1, l.1, 0, 0, 0, 0⟩, l.2) := by
  refine ⟨_, _, _, _, _, _, rfl, rfl, rfl, rfl, rfl, rfl, ?_⟩
  unfold rdHead
  rfl
theorem rdHead_ok (s : List UInt8 × Bool) (hb : (rdHead s).2.2 = false) (hn : (rdHead s).2.1 = []) : s.2 = false ∧ segPut (rdHead s).1 = 1 :: s.1 := by
  obtain ⟨n, q, m, f, k, l, e1, e2, e3, e4, e5, e6, he⟩ := rdHead_eq s
  rw [he] at hb hn ⊢
  exact head_parts s n q m f k l e1 e2 e3 e4 e5 e6 hb hn
theorem rdPoint_ok (s : List UInt8 × Bool) (hb : (rdPoint s).2.2 = false) (hn : (rdPoint s).2.1 = []) : s.2 = false ∧ segPut (rdPoint s).1 = 2 :: s.1 := by
  unfold rdPoint at hb hn ⊢
  dsimp only at hb hn ⊢
  have a1 := rdNum_ok 8 s
  generalize rdNum 8 s = t at *
  have a2 := rdNum_ok 8 t.2
  generalize rdNum 8 t.2 = n at *
  have a3 := rdNum_ok 8 n.2
  generalize rdNum 8 n.2 = v at *
  obtain ⟨b3, c3⟩ := a3 hb (by omega)
  obtain ⟨b2, c2⟩ := a2 b3 (by omega)
  obtain ⟨b1, c1⟩ := a1 b2 (by omega)
  refine ⟨b1, ?_⟩
  rw [segPut2 _ rfl]
  dsimp only
  rw [c1, c2, c3, hn, List.append_nil]
theorem rdSlot_ok (s : List UInt8 × Bool) (hb : (rdSlot s).2.2 = false) (hn : (rdSlot s).2.1 = []) : s.2 = false ∧ segPut (rdSlot s).1 = 3 :: s.1 := by
  unfold rdSlot at hb hn ⊢
  dsimp only at hb hn ⊢
  have a1 := rdNum_ok 1 s
  generalize rdNum 1 s = t at *
  have a2 := rdNum_ok 8 t.2
  generalize rdNum 8 t.2 = n at *
  have a3 := rdNum_ok 8 n.2
  generalize rdNum 8 n.2 = v at *
  obtain ⟨b3, c3⟩ := a3 hb (by omega)
  obtain ⟨b2, c2⟩ := a2 b3 (by omega)
  obtain ⟨b1, c1⟩ := a1 b2 (by omega)
  refine ⟨b1, ?_⟩
  rw [segPut3 _ rfl]
  dsimp only
  rw [c1, c2, c3, hn, List.append_nil]
/-- What is read whole was put so. -/
theorem rdAll_ok (p : List UInt8) (hb : (rdAll p).2.2 = false) (hn : (rdAll p).2.1 = []) (hr : right (rdAll p).1 = true) : segPut (rdAll p).1 = p := by
  unfold rdAll at hb hn hr ⊢
  have a0 := rdNum_ok 1 (p, false)
  generalize rdNum 1 (p, false) = k at *
  have a1 : k.2.2 = false → p = le 1 k.1 ++ k.2.1 := fun h => (a0 h (by omega)).2
  clear a0
  unfold rdRest at hb hn hr ⊢
  by_cases h1 : k.1 = 1
  · rw [if_pos h1] at hb hn hr ⊢
    obtain ⟨h2, h3⟩ := rdHead_ok _ hb hn
    rw [h3, a1 h2, h1, le_one, byte1]; rfl
  · rw [if_neg h1] at hb hn hr ⊢
    by_cases h2 : k.1 = 2
    · rw [if_pos h2] at hb hn hr ⊢
      obtain ⟨h3, h4⟩ := rdPoint_ok _ hb hn
      rw [h4, a1 h3, h2, le_one, byte2]; rfl
    · rw [if_neg h2] at hb hn hr ⊢
      by_cases h3 : k.1 = 3
      · rw [if_pos h3] at hb hn hr ⊢
        obtain ⟨h4, h5⟩ := rdSlot_ok _ hb hn
        rw [h5, a1 h4, h3, le_one, byte3]; rfl
      · rw [if_neg h3] at hb hn hr ⊢
        unfold right at hr
        simp only [if_neg h1, if_neg h2, if_neg h3] at hr
        cases hr
theorem fits1 (v : Int) (h0 : 0 ≤ v) (h1 : v < 256) : fits 1 v := .inl ⟨by decide, h0, h1⟩
theorem fits2 (v : Int) (h0 : 0 ≤ v) (h1 : v < 65536) : fits 2 v := .inl ⟨by decide, h0, h1⟩
theorem fits4 (v : Int) (h0 : 0 ≤ v) (h1 : v < 4294967296) : fits 4 v := .inl ⟨by decide, h0, h1⟩
theorem fits8 (v : Int) (h0 : -9223372036854775808 ≤ v) (h1 : v ≤ 9223372036854775807) : fits 8 v := .inr ⟨rfl, h0, h1⟩
/-- A record's value is a number of 64 bits with a sign. -/
def valued (r : Rec) : Prop := -9223372036854775808 ≤ r.value ∧ r.value ≤ 9223372036854775807
theorem rungOk_fits (x : Int × Int) (h : rungOk x = true) : rungFits x := by
  simp only [rungOk, Bool.and_eq_true, decide_eq_true_eq] at h
  exact ⟨fits4 _ (by omega) (by omega), fits2 _ (by omega) (by omega)⟩
theorem right1 (r : Rec) (hk : r.kind = 1) (h : right r = true) : r.rung = 0 ∧ r.time = 0 ∧ r.now = 0 ∧ r.value = 0 ∧ r.path ≠ [] ∧ r.path.length ≤ 263 ∧ 1 ≤ r.method ∧ r.method ≤ 5 ∧ 0 ≤ r.factor ∧ r.factor ≤ 1000000 ∧ 1 ≤ r.rungs.length ∧ r.rungs.length ≤ 4 ∧ ∀ x ∈ r.rungs, rungOk x = true := by
  unfold right at h
  rw [if_pos hk] at h
  simp only [rungsOk, Bool.and_eq_true, decide_eq_true_eq, List.all_eq_true] at h
  obtain ⟨⟨⟨⟨⟨⟨⟨⟨⟨⟨h1, h2⟩, h3⟩, h4⟩, h5⟩, h6⟩, h7⟩, h8⟩, h9⟩, h10⟩, ⟨h11, h12⟩, h13⟩ := h
  exact ⟨h1, h2, h3, h4, h5, h6, h7, h8, h9, h10, h11, h12, h13⟩
theorem right2 (r : Rec) (hk : r.kind = 2) (h : right r = true) : r.path = [] ∧ r.method = 0 ∧ r.factor = 0 ∧ r.rungs = [] ∧ r.rung = 0 ∧ 0 ≤ r.time ∧ r.time ≤ 1099511627776 ∧ 0 ≤ r.now ∧ r.now ≤ 1099511627776 ∧ r.value ≠ -9223372036854775808 := by
  unfold right at h
  rw [if_neg (by rw [hk]; decide), if_pos hk] at h
  simp only [blank, timedOk, Bool.and_eq_true, decide_eq_true_eq] at h
  obtain ⟨⟨⟨⟨⟨⟨⟨h1, h2⟩, h3⟩, h4⟩, h5⟩, h6, h7⟩, h8, h9⟩, h10⟩ := h
  exact ⟨h1, h2, h3, h4, h5, h6, h7, h8, h9, h10⟩
theorem right3 (r : Rec) (hk : r.kind = 3) (h : right r = true) : r.path = [] ∧ r.method = 0 ∧ r.factor = 0 ∧ r.rungs = [] ∧ r.now = 0 ∧ 0 ≤ r.rung ∧ r.rung < 4 ∧ 0 ≤ r.time ∧ r.time ≤ 1099511627776 ∧ r.value ≠ -9223372036854775808 := by
  unfold right at h
  rw [if_neg (by rw [hk]; decide), if_neg (by rw [hk]; decide), if_pos hk] at h
  simp only [blank, timedOk, Bool.and_eq_true, decide_eq_true_eq] at h
  obtain ⟨⟨⟨⟨⟨⟨⟨⟨h1, h2⟩, h3⟩, h4⟩, h5⟩, h6⟩, h7⟩, h8, h9⟩, h10⟩ := h
  exact ⟨h1, h2, h3, h4, h5, h6, h7, h8, h9, h10⟩
theorem right_kind (r : Rec) (h : right r = true) : r.kind = 1 ∨ r.kind = 2 ∨ r.kind = 3 := by
  by_cases h1 : r.kind = 1
  · exact .inl h1
  · by_cases h2 : r.kind = 2
    · exact .inr (.inl h2)
    · by_cases h3 : r.kind = 3
      · exact .inr (.inr h3)
      · unfold right at h
        rw [if_neg h1, if_neg h2, if_neg h3] at h
        cases h
theorem rdHead_put (r : Rec) (b : List UInt8) (hk : r.kind = 1) (h : right r = true) : rdHead (le 2 r.path.length ++ (r.path ++ (le 1 r.method ++ (le 4 r.factor ++ (le 1 r.rungs.length ++ ((r.rungs.map rungPut).flatten ++ b))))), false) = (r, (b, false)) := by
  obtain ⟨h1, h2, h3, h4, h5, h6, h7, h8, h9, h10, h11, h12, h13⟩ := right1 r hk h
  obtain ⟨n, q, m, f, k, l, e1, e2, e3, e4, e5, e6, he⟩ := rdHead_eq (le 2 r.path.length ++ (r.path ++ (le 1 r.method ++ (le 4 r.factor ++ (le 1 r.rungs.length ++ ((r.rungs.map rungPut).flatten ++ b))))), false)
  rw [he]
  rw [rdNum_put 2 _ _ (fits2 _ (by omega) (by omega))] at e1
  subst e1
  dsimp only at e2
  rw [rdTake_put] at e2
  subst e2
  dsimp only at e3
  rw [rdNum_put 1 _ _ (fits1 _ (by omega) (by omega))] at e3
  subst e3
  dsimp only at e4
  rw [rdNum_put 4 _ _ (fits4 _ (by omega) (by omega))] at e4
  subst e4
  dsimp only at e5
  rw [rdNum_put 1 _ _ (fits1 _ (by omega) (by omega))] at e5
  subst e5
  dsimp only at e6
  rw [Int.toNat_natCast, rdRungs_put _ _ _ (fun x hx => rungOk_fits x (h13 x hx))] at e6
  subst e6
  dsimp only
  cases r
  simp only at hk h1 h2 h3 h4
  subst hk h1 h2 h3 h4
  rfl
theorem rdPoint_put (r : Rec) (b : List UInt8) (hk : r.kind = 2) (h : right r = true) (hv : valued r) : rdPoint (le 8 r.time ++ (le 8 r.now ++ (le 8 r.value ++ b)), false) = (r, (b, false)) := by
  obtain ⟨h1, h2, h3, h4, h5, h6, h7, h8, h9, h10⟩ := right2 r hk h
  unfold rdPoint
  dsimp only
  rw [rdNum_put 8 _ _ (fits8 _ (by omega) (by omega))]
  dsimp only
  rw [rdNum_put 8 _ _ (fits8 _ (by omega) (by omega))]
  dsimp only
  rw [rdNum_put 8 _ _ (fits8 _ hv.1 hv.2)]
  dsimp only
  cases r
  simp only at hk h1 h2 h3 h4 h5
  subst hk h1 h2 h3 h4 h5
  rfl
theorem rdSlot_put (r : Rec) (b : List UInt8) (hk : r.kind = 3) (h : right r = true) (hv : valued r) : rdSlot (le 1 r.rung ++ (le 8 r.time ++ (le 8 r.value ++ b)), false) = (r, (b, false)) := by
  obtain ⟨h1, h2, h3, h4, h5, h6, h7, h8, h9, h10⟩ := right3 r hk h
  unfold rdSlot
  dsimp only
  rw [rdNum_put 1 _ _ (fits1 _ (by omega) (by omega))]
  dsimp only
  rw [rdNum_put 8 _ _ (fits8 _ (by omega) (by omega))]
  dsimp only
  rw [rdNum_put 8 _ _ (fits8 _ hv.1 hv.2)]
  dsimp only
  cases r
  simp only at hk h1 h2 h3 h4 h5
  subst hk h1 h2 h3 h4 h5
  rfl
theorem rdKind (b : List UInt8) (x : UInt8) (v : Int) (h : le 1 v = [x]) (h0 : 0 ≤ v) (h1 : v < 256) : rdNum 1 (x :: b, false) = (v, (b, false)) := by
  have := rdNum_put 1 v b (fits1 v h0 h1)
  rw [h] at this
  exact this
/-- What is put is read as it was. -/
theorem rdAll_put (r : Rec) (h : right r = true) (hv : valued r) : rdAll (segPut r) = (r, ([], false)) := by
  unfold rdAll
  rcases right_kind r h with hk | hk | hk
  · rw [segPut1 r hk, rdKind _ 1 1 (by rw [le_one, byte1]) (by decide) (by decide)]
    unfold rdRest
    rw [if_pos rfl]
    have := rdHead_put r [] hk h
    rw [List.append_nil] at this
    exact this
  · rw [segPut2 r hk, rdKind _ 2 2 (by rw [le_one, byte2]) (by decide) (by decide)]
    unfold rdRest
    dsimp only
    rw [if_neg (by decide), if_pos rfl]
    have := rdPoint_put r [] hk h hv
    rw [List.append_nil] at this
    exact this
  · rw [segPut3 r hk, rdKind _ 3 3 (by rw [le_one, byte3]) (by decide) (by decide)]
    unfold rdRest
    dsimp only
    rw [if_neg (by decide), if_neg (by decide), if_pos rfl]
    have := rdSlot_put r [] hk h hv
    rw [List.append_nil] at this
    exact this
theorem segTake_put (r : Rec) (h : right r = true) (hv : valued r) : segTake (segPut r) = (r, 0) := by
  unfold segTake
  rw [rdAll_put r h hv]
  rw [if_neg (by simp [h])]
theorem not_t {b : Bool} (h : b = true → False) : b = false := by cases b with | false => rfl | true => exact (h rfl).elim
theorem not_f {b : Bool} (h : b = false → False) : b = true := by cases b with | true => rfl | false => exact (h rfl).elim
theorem segTake_def (p : List UInt8) (x : Rec × (List UInt8 × Bool)) (hx : rdAll p = x) : segTake p = if x.2.2 = true ∨ x.2.1 ≠ [] ∨ right x.1 = false then (Rec.zero, 7) else (x.1, 0) := by
  subst hx
  rfl
theorem segTake_cases (p : List UInt8) : segTake p = (Rec.zero, 7) ∨ (segTake p).2 = 0 ∧ right (segTake p).1 = true ∧ segPut (segTake p).1 = p := by
  have h0 := rdAll_ok p
  obtain ⟨x, hx⟩ : ∃ x, rdAll p = x := ⟨_, rfl⟩
  rw [segTake_def p x hx]
  rw [hx] at h0
  by_cases h1 : x.2.2 = true ∨ x.2.1 ≠ [] ∨ right x.1 = false
  · rw [if_pos h1]; exact .inl rfl
  · rw [if_neg h1]
    have h2 : x.2.2 = false := not_t fun hh => h1 (.inl hh)
    have h3 : x.2.1 = [] := Decidable.byContradiction fun hh => h1 (.inr (.inl hh))
    have h4 : right x.1 = true := not_f fun hh => h1 (.inr (.inr hh))
    exact .inr ⟨rfl, h4, h0 h2 h3 h4⟩
theorem segTake_no (p : List UInt8) (h : ∀ r, right r = true → segPut r ≠ p) : segTake p = (Rec.zero, 7) := by
  rcases segTake_cases p with h1 | ⟨h1, h2, h3⟩
  · exact h1
  · exact absurd h3 (h _ h2)
theorem segPut_length (r : Rec) (h : right r = true) : (segPut r).length ≤ 296 := by
  rcases right_kind r h with hk | hk | hk
  · obtain ⟨h1, h2, h3, h4, h5, h6, h7, h8, h9, h10, h11, h12, h13⟩ := right1 r hk h
    have h14 : ∀ l : List (Int × Int), (l.map rungPut).flatten.length = 6 * l.length := by
      intro l
      induction l with
      | nil => rfl
      | cons x l ih => simp only [List.map_cons, List.flatten_cons, List.length_append, ih, List.length_cons, rungPut, le_length]; omega
    rw [segPut1 r hk]
    simp only [List.length_cons, List.length_append, le_length, h14]
    omega
  · rw [segPut2 r hk]
    simp [le_length]
  · rw [segPut3 r hk]
    simp [le_length]
end Go.Proofs.YtkflikfcpdekdaaDoor
