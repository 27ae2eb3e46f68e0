/-
  CRC-32C as plain arithmetic on natural numbers: bit by bit, by fours, and that a burst of at most four bytes is told. No program in sight.
-/
namespace Go.Proofs.YtkflikfcpdekdaaDoor

/-- One bit. -/
def bstep (s : Nat) : Nat := if s % 2 = 1 then s / 2 ^^^ 2197175160 else s / 2
/-- n bits. -/
def bsteps : Nat → Nat → Nat
  | 0, s => s
  | n + 1, s => bsteps n (bstep s)
/-- One byte goes in. -/
def bfeed (s x : Nat) : Nat := bsteps 8 (s ^^^ x)
/-- Bytes go in. -/
def reg (s : Nat) (l : List UInt8) : Nat := l.foldl (fun s x => bfeed s x.toNat) s
/-- The sum, updated. -/
def upd (s : Nat) (l : List UInt8) : Nat := 4294967295 - reg (4294967295 - s) l
/-- The sum. -/
def crc (l : List UInt8) : Nat := 4294967295 - reg 4294967295 l
/-- A sum's four bytes. -/
def le4 (n : Nat) : List UInt8 := [UInt8.ofNat n, UInt8.ofNat (n / 256), UInt8.ofNat (n / 65536), UInt8.ofNat (n / 16777216)]
/-- Bytes with their sum. -/
def crcPut (l : List UInt8) : List UInt8 := l ++ le4 (crc l)

theorem bstep_lt {s : Nat} (h : s < 4294967296) : bstep s < 4294967296 := by
  unfold bstep
  split
  · exact Nat.xor_lt_two_pow (n := 32) (by omega) (by omega)
  · omega
theorem bsteps_lt (n : Nat) : ∀ {s : Nat}, s < 4294967296 → bsteps n s < 4294967296 := by
  induction n with
  | zero => intro s h; exact h
  | succ n ih => intro s h; exact ih (bstep_lt h)
theorem bfeed_lt {s x : Nat} (h : s < 4294967296) (hx : x < 256) : bfeed s x < 4294967296 :=
  bsteps_lt 8 (Nat.xor_lt_two_pow (n := 32) h (by omega))
theorem reg_lt (l : List UInt8) : ∀ {s : Nat}, s < 4294967296 → reg s l < 4294967296 := by
  induction l with
  | nil => intro s h; exact h
  | cons x l ih => intro s h; exact ih (bfeed_lt h x.toNat_lt)
theorem reg_append (s : Nat) (a b : List UInt8) : reg s (a ++ b) = reg (reg s a) b := by simp [reg]
theorem reg_snoc (s : Nat) (a : List UInt8) (x : UInt8) : reg s (a ++ [x]) = bfeed (reg s a) x.toNat := by simp [reg]
theorem reg_cons (s : Nat) (x : UInt8) (a : List UInt8) : reg s (x :: a) = reg (bfeed s x.toNat) a := rfl

/-! ### It is linear -/
theorem xor_div2 (a b : Nat) : (a ^^^ b) / 2 = a / 2 ^^^ b / 2 := by
  apply Nat.eq_of_testBit_eq
  intro i
  simp [Nat.testBit_div_two]
theorem xor_mod2 (a b : Nat) : (a ^^^ b) % 2 = (a % 2 + b % 2) % 2 := by
  have h := Nat.testBit_xor a b 0
  simp only [Nat.testBit_zero] at h
  have ha := Nat.mod_two_eq_zero_or_one a
  have hb := Nat.mod_two_eq_zero_or_one b
  have hc := Nat.mod_two_eq_zero_or_one (a ^^^ b)
  rcases ha with ha | ha <;> rcases hb with hb | hb <;> rcases hc with hc | hc <;> simp_all
theorem bstep_xor (a b : Nat) : bstep (a ^^^ b) = bstep a ^^^ bstep b := by
  unfold bstep
  rw [xor_div2, xor_mod2]
  rcases Nat.mod_two_eq_zero_or_one a with ha | ha <;> rcases Nat.mod_two_eq_zero_or_one b with hb | hb
  · simp [ha, hb]
  · simp [ha, hb, Nat.xor_assoc]
  · simp only [ha, hb]
    simp only [if_true, Nat.zero_ne_one, if_false]
    rw [Nat.xor_assoc, Nat.xor_assoc, Nat.xor_comm 2197175160 (b / 2)]
  · simp only [ha, hb]
    simp only [show (1 + 1) % 2 = 0 from rfl, Nat.zero_ne_one, if_false, if_true]
    rw [Nat.xor_assoc, ← Nat.xor_assoc 2197175160 (b / 2), Nat.xor_comm 2197175160 (b / 2), Nat.xor_assoc (b / 2), Nat.xor_self, Nat.xor_zero]
theorem bsteps_xor (n : Nat) : ∀ a b, bsteps n (a ^^^ b) = bsteps n a ^^^ bsteps n b := by
  induction n with
  | zero => intro a b; rfl
  | succ n ih => intro a b; simp only [bsteps]; rw [bstep_xor, ih]
theorem bstep_zero : bstep 0 = 0 := rfl
theorem bsteps_zero (n : Nat) : bsteps n 0 = 0 := by
  induction n with
  | zero => rfl
  | succ n ih => simp only [bsteps, bstep_zero, ih]
theorem bsteps_add (m n : Nat) : ∀ s, bsteps (m + n) s = bsteps n (bsteps m s) := by
  induction m with
  | zero => intro s; simp [bsteps]
  | succ m ih => intro s; rw [Nat.succ_add]; exact ih _
theorem bfeed_xor (s x y : Nat) : bfeed s (x ^^^ y) = bfeed s x ^^^ bsteps 8 y := by
  unfold bfeed
  rw [← Nat.xor_assoc, bsteps_xor]
theorem bfeed_xor_left (s d x : Nat) : bfeed (s ^^^ d) x = bfeed s x ^^^ bsteps 8 d := by
  unfold bfeed
  rw [Nat.xor_assoc, Nat.xor_comm d x, ← Nat.xor_assoc, bsteps_xor]

/-! ### It loses nothing -/
theorem bstep_eq_zero {s : Nat} (h : s < 4294967296) (h0 : bstep s = 0) : s = 0 := by
  unfold bstep at h0
  split at h0
  · rename_i h1
    have : (s / 2 ^^^ 2197175160).testBit 31 = false := by rw [h0]; simp
    rw [Nat.testBit_xor] at this
    have h2 : (s / 2).testBit 31 = false := Nat.testBit_lt_two_pow (by omega)
    rw [h2] at this
    exact absurd this (by decide)
  · omega
theorem bsteps_eq_zero (n : Nat) : ∀ {s : Nat}, s < 4294967296 → bsteps n s = 0 → s = 0 := by
  induction n with
  | zero => intro s _ h; exact h
  | succ n ih => intro s h h0; exact bstep_eq_zero h (ih (bstep_lt h) h0)
theorem bsteps_inj (n : Nat) {a b : Nat} (ha : a < 4294967296) (hb : b < 4294967296) (h : bsteps n a = bsteps n b) : a = b := by
  have h1 : bsteps n (a ^^^ b) = 0 := by rw [bsteps_xor, h, Nat.xor_self]
  have h2 := bsteps_eq_zero n (Nat.xor_lt_two_pow (n := 32) ha hb) h1
  have h3 : a ^^^ (a ^^^ b) = a := by rw [h2, Nat.xor_zero]
  rw [← Nat.xor_assoc, Nat.xor_self, Nat.zero_xor] at h3
  exact h3.symm

/-! ### What has low bits alone empty is shifted -/
theorem bsteps_even (n : Nat) : ∀ s, bsteps n (s * 2 ^ n) = s := by
  induction n with
  | zero => intro s; simp [bsteps]
  | succ n ih =>
    intro s
    have h1 : bstep (s * 2 ^ (n + 1)) = s * 2 ^ n := by
      have e : s * 2 ^ (n + 1) = 2 * (s * 2 ^ n) := by rw [Nat.pow_succ]; rw [← Nat.mul_assoc, Nat.mul_comm]
      unfold bstep
      rw [e, if_neg (by omega)]
      omega
    simp only [bsteps, h1, ih]

/-! ### By fours -/
theorem split_xor (s n : Nat) : (s / 2 ^ n * 2 ^ n) ^^^ (s % 2 ^ n) = s := by
  have h := Nat.div_add_mod s (2 ^ n)
  have h2 : (s / 2 ^ n * 2 ^ n) ^^^ (s % 2 ^ n) = s / 2 ^ n * 2 ^ n + s % 2 ^ n := by
    apply Nat.eq_of_testBit_eq
    intro i
    rw [Nat.testBit_xor, Nat.mul_comm (s / 2 ^ n), Nat.testBit_two_pow_mul_add _ (Nat.mod_lt _ (Nat.two_pow_pos n)), Nat.testBit_two_pow_mul]
    by_cases hi : i < n
    · simp [hi, show ¬ n ≤ i by omega]
    · have : (s % 2 ^ n).testBit i = false := Nat.testBit_lt_two_pow (Nat.lt_of_lt_of_le (Nat.mod_lt _ (Nat.two_pow_pos n)) (Nat.pow_le_pow_right (by omega) (by omega)))
      simp [hi, this, show n ≤ i by omega]
  rw [h2, Nat.mul_comm]; exact h
theorem bsteps_split (n s : Nat) : bsteps n s = s / 2 ^ n ^^^ bsteps n (s % 2 ^ n) := by
  conv => lhs; rw [← split_xor s n]
  rw [bsteps_xor, bsteps_even]
/-- The table of fours. -/
def tab4 : List Nat := [0, 274646895, 549293790, 820201905, 1098587580, 1361435347, 1640403810, 1905808397, 2197175160, 2460548119, 2722870694, 2987750089, 3280807620, 3553878443, 3811616794, 4084100981]
theorem tab4_spec : ∀ r, r < 16 → bsteps 4 r = tab4.getD r 0 := by decide
theorem bsteps4 (s : Nat) : bsteps 4 s = s / 16 ^^^ tab4.getD (s % 16) 0 := by
  rw [bsteps_split 4 s, show (2 : Nat) ^ 4 = 16 from rfl, tab4_spec _ (Nat.mod_lt _ (by decide))]
theorem bfeed_fours (s x : Nat) : bfeed s x = bsteps 4 (bsteps 4 (s ^^^ x)) := by
  unfold bfeed
  rw [← bsteps_add]

/-! ### A sum behind its bytes -/
/-- Four bytes as a number, the lowest first. -/
def leNum : List UInt8 → Nat
  | [] => 0
  | x :: l => x.toNat + 256 * leNum l
theorem leNum_lt : ∀ l : List UInt8, leNum l < 2 ^ (8 * l.length)
  | [] => by decide
  | x :: l => by
    have h := leNum_lt l
    have hx := x.toNat_lt
    have e : 2 ^ (8 * (x :: l).length) = 256 * 2 ^ (8 * l.length) := by
      rw [List.length_cons, Nat.mul_add, Nat.pow_add, Nat.mul_comm]
    rw [e]; unfold leNum; omega
theorem add_xor (x y : Nat) (hx : x < 256) : x + 256 * y = x ^^^ y * 2 ^ 8 := by
  have h := split_xor (x + 256 * y) 8
  have h1 : (x + 256 * y) / 2 ^ 8 = y := by show (x + 256 * y) / 256 = y; omega
  have h2 : (x + 256 * y) % 2 ^ 8 = x := by show (x + 256 * y) % 256 = x; omega
  rw [h1, h2] at h
  rw [← h, Nat.xor_comm]
theorem reg_le : ∀ (l : List UInt8) (r : Nat), reg r l = bsteps (8 * l.length) (r ^^^ leNum l)
  | [], r => by simp [reg, leNum, bsteps]
  | x :: l, r => by
    rw [reg_cons, reg_le l]
    have e : 8 * (x :: l).length = 8 + 8 * l.length := by simp; omega
    rw [e, bsteps_add]
    congr 1
    rw [show leNum (x :: l) = x.toNat + 256 * leNum l from rfl, add_xor _ _ x.toNat_lt, ← Nat.xor_assoc, bsteps_xor 8 (r ^^^ x.toNat), bsteps_even]
    rfl
theorem leNum_le4 {n : Nat} (h : n < 4294967296) : leNum (le4 n) = n := by
  simp [leNum, le4]
  omega
theorem le4_leNum (a b c d : UInt8) : le4 (leNum [a, b, c, d]) = [a, b, c, d] := by
  have ha := a.toNat_lt; have hb := b.toNat_lt; have hc := c.toNat_lt; have hd := d.toNat_lt
  simp only [le4, leNum]
  congr 1
  · apply UInt8.toNat_inj.1; simp
  congr 1
  · apply UInt8.toNat_inj.1; simp; omega
  congr 1
  · apply UInt8.toNat_inj.1; simp; omega
  congr 1
  · apply UInt8.toNat_inj.1; simp; omega
theorem xor_ones {n : Nat} (h : n < 4294967296) : 4294967295 - n = 4294967295 ^^^ n := by
  apply Nat.eq_of_testBit_eq
  intro i
  have e : 4294967295 - n = 2 ^ 32 - (n + 1) := by omega
  have e2 : (4294967295 : Nat) = 2 ^ 32 - 1 := by decide
  rw [Nat.testBit_xor, e, Nat.testBit_two_pow_sub_succ (by omega), e2, Nat.testBit_two_pow_sub_one]
  by_cases hi : i < 32
  · simp [hi]
  · have hp : 2 ^ 32 ≤ 2 ^ i := Nat.pow_le_pow_right (by decide) (Nat.le_of_not_lt hi)
    have : n.testBit i = false := Nat.testBit_lt_two_pow (Nat.lt_of_lt_of_le h hp)
    simp [hi, this]
theorem upd_crc (l m : List UInt8) : upd (crc l) m = crc (l ++ m) := by
  have h : reg 4294967295 l < 4294967296 := reg_lt l (by decide)
  unfold upd crc
  rw [reg_append, show 4294967295 - (4294967295 - reg 4294967295 l) = reg 4294967295 l by omega]
theorem crc_lt (l : List UInt8) : crc l < 4294967296 := by unfold crc; omega
/-- The sum stands behind its bytes just where all of it together leaves one and the same rest. -/
theorem sum_iff (a t : List UInt8) (ht : t.length = 4) : leNum t = crc a ↔ reg 4294967295 (a ++ t) = bsteps 32 4294967295 := by
  have hr : reg 4294967295 a < 4294967296 := reg_lt a (by decide)
  have hn : leNum t < 4294967296 := by have := leNum_lt t; rw [ht] at this; exact this
  rw [reg_append, reg_le, ht]
  unfold crc
  rw [xor_ones hr]
  constructor
  · intro h
    rw [h, Nat.xor_comm 4294967295, ← Nat.xor_assoc, Nat.xor_self, Nat.zero_xor]
  · intro h
    have h2 := bsteps_inj 32 (Nat.xor_lt_two_pow (n := 32) hr hn) (by decide) h
    generalize reg 4294967295 a = r at h2
    rw [← h2, Nat.xor_comm r, Nat.xor_assoc, Nat.xor_self, Nat.xor_zero]

theorem leNum_snoc : ∀ (m : List UInt8) (x : UInt8), leNum (m ++ [x]) = leNum m + x.toNat * 2 ^ (8 * m.length)
  | [], x => by simp [leNum]
  | y :: m, x => by
    have e : 2 ^ (8 * (y :: m).length) = 256 * 2 ^ (8 * m.length) := by
      rw [List.length_cons, Nat.mul_add, Nat.pow_add, Nat.mul_comm]
    simp only [List.cons_append, leNum, leNum_snoc m x, e]
    rw [Nat.mul_add, Nat.add_assoc]
    congr 2
    rw [Nat.mul_left_comm]
/-- What Check answers: the bytes ahead, and the error. -/
def crcCheck (l : List UInt8) : List UInt8 × Nat :=
  if l.length < 4 then ([], 9) else if leNum (l.drop (l.length - 4)) = crc (l.take (l.length - 4)) then (l.take (l.length - 4), 0) else ([], 8)
theorem crcPut_iff (l : List UInt8) (h : 4 ≤ l.length) : crcPut (l.take (l.length - 4)) = l ↔ leNum (l.drop (l.length - 4)) = crc (l.take (l.length - 4)) := by
  have h4 : (l.drop (l.length - 4)).length = 4 := by rw [List.length_drop]; omega
  constructor
  · intro e
    have e2 : le4 (crc (l.take (l.length - 4))) = l.drop (l.length - 4) := by
      have e3 : l.take (l.length - 4) ++ le4 (crc (l.take (l.length - 4))) = l.take (l.length - 4) ++ l.drop (l.length - 4) := by
        rw [List.take_append_drop]; exact e
      exact List.append_cancel_left e3
    rw [← e2, leNum_le4 (crc_lt _)]
  · intro e
    unfold crcPut
    rw [← e]
    match hd : l.drop (l.length - 4), h4 with
    | [a, b, c, d], _ =>
      rw [le4_leNum, ← hd, List.take_append_drop]
theorem crcCheck_put (l : List UInt8) : crcCheck (crcPut l) = (l, 0) := by
  have hl : (crcPut l).length = l.length + 4 := by simp [crcPut, le4]
  unfold crcCheck
  rw [hl, if_neg (by omega), show l.length + 4 - 4 = l.length by omega]
  have h1 : (crcPut l).drop l.length = le4 (crc l) := by simp [crcPut]
  have h2 : (crcPut l).take l.length = l := by simp [crcPut]
  rw [h1, h2, leNum_le4 (crc_lt l), if_pos rfl]

/-! ### A burst is told -/
def xorl (l m : List UInt8) : List UInt8 := List.zipWith (· ^^^ ·) l m
theorem bfeed_both (s d x y : Nat) : bfeed (s ^^^ d) (x ^^^ y) = bfeed s x ^^^ bfeed d y := by
  unfold bfeed
  rw [← bsteps_xor]
  congr 1
  rw [Nat.xor_assoc, ← Nat.xor_assoc d x y, Nat.xor_comm d x, Nat.xor_assoc x d y, ← Nat.xor_assoc]
theorem reg_xor : ∀ (l m : List UInt8) (s d : Nat), l.length = m.length → reg (s ^^^ d) (xorl l m) = reg s l ^^^ reg d m
  | [], [], _, _, _ => by simp [reg, xorl]
  | x :: l, y :: m, s, d, h => by
    simp only [xorl, List.zipWith_cons_cons, reg_cons, UInt8.toNat_xor, bfeed_both]
    exact reg_xor l m _ _ (by simpa using h)
  | [], _ :: _, _, _, h => by simp at h
  | _ :: _, [], _, _, h => by simp at h
theorem reg_zeros (n : Nat) : ∀ s, reg s (List.replicate n 0) = bsteps (8 * n) s := by
  intro s
  rw [reg_le, List.length_replicate]
  congr 1
  have : leNum (List.replicate n 0) = 0 := by
    induction n with
    | zero => rfl
    | succ n ih => simp [List.replicate_succ, leNum, ih]
  rw [this, Nat.xor_zero]
theorem leNum_zero : ∀ l : List UInt8, leNum l = 0 → ∀ x ∈ l, x = 0
  | [], _, x, hx => by simp at hx
  | y :: l, h, x, hx => by
    simp only [leNum] at h
    have h1 : y.toNat = 0 := by omega
    have h2 : leNum l = 0 := by omega
    rcases List.mem_cons.1 hx with rfl | hx
    · exact UInt8.toNat_inj.1 (by simpa using h1)
    · exact leNum_zero l h2 x hx
/-- At most four bytes, nothing ahead of them and nothing behind: they leave no rest only if they are all zero. -/
theorem burst (n k : Nat) (b : List UInt8) (hb : b.length ≤ 4) (h : reg 0 (List.replicate n 0 ++ b ++ List.replicate k 0) = 0) : ∀ x ∈ b, x = 0 := by
  rw [reg_append, reg_append, reg_zeros, reg_zeros, bsteps_zero, reg_le, Nat.zero_xor] at h
  have hl : leNum b < 4294967296 := Nat.lt_of_lt_of_le (leNum_lt b) (by
    have : 2 ^ (8 * b.length) ≤ 2 ^ 32 := Nat.pow_le_pow_right (by omega) (by omega)
    exact this)
  have h1 := bsteps_eq_zero _ (bsteps_lt _ hl) h
  exact leNum_zero b (bsteps_eq_zero _ hl h1)
/-- Whole bytes whose sum stands behind them, changed by a burst: the sum does not stand there any more. -/
theorem told (a t a' t' : List UInt8) (ht : t.length = 4) (ht' : t'.length = 4) (n k : Nat) (b : List UInt8) (hb : b.length ≤ 4)
    (h : leNum t = crc a) (hx : a' ++ t' = xorl (a ++ t) (List.replicate n 0 ++ b ++ List.replicate k 0)) (hn : (a ++ t).length = n + b.length + k)
    (h' : leNum t' = crc a') : ∀ x ∈ b, x = 0 := by
  rw [sum_iff _ _ ht] at h
  rw [sum_iff _ _ ht', hx] at h'
  have e := reg_xor (a ++ t) (List.replicate n 0 ++ b ++ List.replicate k 0) 4294967295 0 (by simp only [hn, List.length_append, List.length_replicate])
  rw [Nat.xor_zero, h', h] at e
  have h0 : reg 0 (List.replicate n 0 ++ b ++ List.replicate k 0) = 0 := by
    have := congrArg (fun z => bsteps 32 4294967295 ^^^ z) e
    simp only [Nat.xor_self] at this
    rw [← Nat.xor_assoc, Nat.xor_self, Nat.zero_xor] at this
    exact this.symm
  exact burst n k b hb h0

end Go.Proofs.YtkflikfcpdekdaaDoor
