/-
  Layer 19 without the program: a connection is fed byte by byte (as the document says), or part by part (as the code does): the same.
-/
import Derived.KernelRfl
namespace Go.Proofs.Ytbekhbgeghhcaaa

/-- A connection, and a piece: bytes, and whether they were too many. -/
abbrev Cn := List UInt8 × Bool
/-- A connection as it must be. -/
def crt (c : Cn) : Bool := c.1.all (· != 10) && decide (c.1.length ≤ 200) && (!c.2 || c.1.isEmpty)
/-- A byte that is no line feed. -/
def bstep (x : Cn) (b : UInt8) : Cn := if x.2 then x else if x.1.length = 200 then ([], true) else (x.1 ++ [b], false)
/-- Byte by byte. -/
def feedR : Cn → List Cn → List UInt8 → Cn × List Cn
  | x, out, [] => (x, out)
  | x, out, b :: l => if b = 10 then feedR ([], false) (out ++ [x]) l else feedR (bstep x b) out l
/-- More bytes of a line. -/
def grow (c : Cn) (p : List UInt8) : Cn := if c.2 || decide (200 < c.1.length + p.length) then ([], true) else (c.1 ++ p, false)
/-- Between line feeds; whether one ends each. -/
def partsOf : List UInt8 → List Cn
  | [] => [([], false)]
  | b :: l => if b = 10 then ([], true) :: partsOf l else match partsOf l with
    | (p, e) :: r => (b :: p, e) :: r
    | [] => []
/-- A part. -/
def pstep (s : Cn × List Cn) (p : Cn) : Cn × List Cn := if p.2 then (([], false), s.2 ++ [grow s.1 p.1]) else (grow s.1 p.1, s.2)

theorem crt_iff (c : Cn) : crt c = true ↔ (∀ b ∈ c.1, b ≠ 10) ∧ c.1.length ≤ 200 ∧ (c.2 = true → c.1 = []) := by
  obtain ⟨p, o⟩ := c
  unfold crt
  cases o <;> simp [and_assoc]
theorem crt_new : crt ([], false) = true := rfl
theorem bstep_crt (c : Cn) (b : UInt8) (hb : b ≠ 10) (h : crt c = true) : crt (bstep c b) = true := by
  rw [crt_iff] at h ⊢
  obtain ⟨h1, h2, h3⟩ := h
  unfold bstep
  split
  · exact ⟨h1, h2, h3⟩
  · split
    · exact ⟨by simp, by simp, by simp⟩
    · refine ⟨?_, ?_, ?_⟩
      · intro x hx
        rcases List.mem_append.1 hx with hx | hx
        · exact h1 x hx
        · simp at hx; subst hx; exact hb
      · simp; omega
      · simp
theorem bsteps_grow : ∀ (p : List UInt8) (c : Cn), c.1.length ≤ 200 → (c.2 = true → c.1 = []) → p.foldl bstep c = grow c p
  | [], (q, o), h, h2 => by
    cases o with
    | true => have := h2 rfl; dsimp only at this; subst this; rfl
    | false => unfold grow; simp at h ⊢; omega
  | b :: p, (q, o), h, h2 => by
    rw [List.foldl_cons]
    cases o with
    | true =>
      have := h2 rfl
      dsimp only at this; subst this
      rw [show bstep ([], true) b = ([], true) from rfl, bsteps_grow p ([], true) (by simp) (by simp)]
      rfl
    | false =>
      dsimp only at h
      by_cases h3 : q.length = 200
      · rw [show bstep (q, false) b = ([], true) by unfold bstep; simp [h3], bsteps_grow p ([], true) (by simp) (by simp)]
        unfold grow
        simp; omega
      · rw [show bstep (q, false) b = (q ++ [b], false) by unfold bstep; simp [h3], bsteps_grow p (q ++ [b], false) (by simp; omega) (by simp)]
        unfold grow
        simp only [List.length_append, List.length_cons, List.length_nil, List.append_assoc, List.cons_append, List.nil_append, Bool.false_or]
        have : (q.length + (0 + 1) + p.length) = q.length + (p.length + 1) := by omega
        rw [this]
theorem feedR_bytes : ∀ (p : List UInt8) (c : Cn) (out : List Cn) (l : List UInt8), (∀ b ∈ p, b ≠ 10) → feedR c out (p ++ l) = feedR (p.foldl bstep c) out l
  | [], _, _, _, _ => rfl
  | b :: p, c, out, l, h => by
    rw [List.cons_append, List.foldl_cons, feedR, if_neg (h b (by simp)), feedR_bytes p _ out l (fun x hx => h x (by simp [hx]))]
theorem feedR_append : ∀ (l m : List UInt8) (c : Cn) (out : List Cn), feedR c out (l ++ m) = feedR (feedR c out l).1 (feedR c out l).2 m
  | [], _, _, _ => rfl
  | b :: l, m, c, out => by
    rw [List.cons_append, feedR, feedR]
    by_cases h : b = 10
    · rw [if_pos h, if_pos h, feedR_append l m]
    · rw [if_neg h, if_neg h, feedR_append l m]
theorem feedR_out : ∀ (l : List UInt8) (c : Cn) (out : List Cn), feedR c out l = ((feedR c [] l).1, out ++ (feedR c [] l).2)
  | [], _, out => by simp [feedR]
  | b :: l, c, out => by
    rw [feedR, feedR]
    by_cases h : b = 10
    · rw [if_pos h, if_pos h, feedR_out l ([], false) (out ++ [c]), feedR_out l ([], false) ([] ++ [c])]; simp
    · rw [if_neg h, if_neg h, feedR_out l _ out]
theorem partsOf_no : ∀ l : List UInt8, (∀ b ∈ l, b ≠ 10) → partsOf l = [(l, false)]
  | [], _ => rfl
  | b :: l, h => by rw [partsOf, if_neg (h b (by simp)), partsOf_no l (fun x hx => h x (by simp [hx]))]
theorem partsOf_yes : ∀ (p l : List UInt8), (∀ b ∈ p, b ≠ 10) → partsOf (p ++ 10 :: l) = (p, true) :: partsOf l
  | [], l, _ => by rw [List.nil_append, partsOf, if_pos rfl]
  | b :: p, l, h => by rw [List.cons_append, partsOf, if_neg (h b (by simp)), partsOf_yes p l (fun x hx => h x (by simp [hx]))]
/-- Part by part is byte by byte. -/
theorem feed_parts : ∀ (n : Nat) (l : List UInt8) (c : Cn) (out : List Cn), l.length ≤ n → crt c = true → (partsOf l).foldl pstep (c, out) = feedR c out l := by
  intro n
  induction n with
  | zero =>
    intro l c out hl hc
    have : l = [] := List.length_eq_zero_iff.1 (by omega)
    subst this
    obtain ⟨h1, h2, h3⟩ := (crt_iff c).1 hc
    show pstep (c, out) ([], false) = (c, out)
    unfold pstep
    have := bsteps_grow [] c h2 h3
    simp at this
    simp [← this]
  | succ n ih =>
    intro l c out hl hc
    obtain ⟨h1, h2, h3⟩ := (crt_iff c).1 hc
    by_cases h : ∀ b ∈ l, b ≠ 10
    · rw [partsOf_no l h]
      have h4 := feedR_bytes l c out [] h
      rw [List.append_nil] at h4
      rw [h4, bsteps_grow l c h2 h3]
      rfl
    · obtain ⟨p, m, rfl, hp⟩ : ∃ p m, l = p ++ 10 :: m ∧ ∀ b ∈ p, b ≠ 10 := by
        have h5 : (10 : UInt8) ∈ l := by
          by_cases h6 : (10 : UInt8) ∈ l
          · exact h6
          · exact absurd (fun b hb (hb2 : b = 10) => h6 (by rw [← hb2]; exact hb)) h
        obtain ⟨p, m, hpm, hn⟩ := List.eq_append_cons_of_mem h5
        exact ⟨p, m, hpm, fun b hb (hb2 : b = 10) => hn (by rw [← hb2]; exact hb)⟩
      rw [partsOf_yes p m hp, List.foldl_cons, feedR_bytes p c out _ hp, feedR, if_pos rfl, bsteps_grow p c h2 h3]
      exact ih m _ _ (by simp at hl; omega) crt_new
/-- What is fed leaves a connection as it must be. -/
theorem feedR_crt : ∀ (l : List UInt8) (c : Cn) (out : List Cn), crt c = true → crt (feedR c out l).1 = true
  | [], _, _, h => h
  | b :: l, c, out, h => by
    rw [feedR]
    by_cases hb : b = 10
    · rw [if_pos hb]; exact feedR_crt l _ _ crt_new
    · rw [if_neg hb]; exact feedR_crt l _ _ (bstep_crt c b hb h)
/-- As many pieces as line feeds. -/
theorem feedR_count : ∀ (l : List UInt8) (c : Cn) (out : List Cn), (feedR c out l).2.length = out.length + l.count 10
  | [], _, _ => by simp [feedR]
  | b :: l, c, out => by
    rw [feedR, List.count_cons]
    by_cases hb : b = 10
    · rw [if_pos hb, feedR_count l]; simp [hb]; omega
    · rw [if_neg hb, feedR_count l]; simp [hb]
/-- Each piece is a connection's that was as it must be. -/
theorem feedR_pieces : ∀ (l : List UInt8) (c : Cn) (out : List Cn), crt c = true → (∀ x ∈ out, crt x = true) → ∀ x ∈ (feedR c out l).2, crt x = true
  | [], _, _, _, h => h
  | b :: l, c, out, hc, h => by
    rw [feedR]
    by_cases hb : b = 10
    · rw [if_pos hb]
      refine feedR_pieces l _ _ crt_new fun x hx => ?_
      rcases List.mem_append.1 hx with hx | hx
      · exact h x hx
      · simp at hx; subst hx; exact hc
    · rw [if_neg hb]; exact feedR_pieces l _ _ (bstep_crt c b hb hc) h
#print axioms feed_parts
end Go.Proofs.Ytbekhbgeghhcaaa
