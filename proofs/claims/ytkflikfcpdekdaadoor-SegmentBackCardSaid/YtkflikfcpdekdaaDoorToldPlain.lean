/-
  A burst of at most four bytes, laid over bytes with their sum: what Check then answers. No program in sight.
-/
import Derived.Test.YtkflikfcpdekdaaDoorCrcPlain
namespace Go.Proofs.YtkflikfcpdekdaaDoor

/-- The first k bytes of 'd' are put on p's from a place on. -/
def chg (p : List UInt8) (st : Nat) (d : List UInt8) (k : Nat) : List UInt8 := p.mapIdx fun j x => if st ≤ j ∧ j < st + k then x ^^^ d.getD (j - st) 0 else x
theorem chg_length (p : List UInt8) (st : Nat) (d : List UInt8) (k : Nat) : (chg p st d k).length = p.length := by simp [chg]
theorem chg_get (p : List UInt8) (st : Nat) (d : List UInt8) (k j : Nat) (h : j < (chg p st d k).length) :
    (chg p st d k)[j] = if st ≤ j ∧ j < st + k then p[j]'(by rwa [chg_length] at h) ^^^ d.getD (j - st) 0 else p[j]'(by rwa [chg_length] at h) := by simp [chg]
theorem chg_zero (p : List UInt8) (st : Nat) (d : List UInt8) : chg p st d 0 = p := by
  apply List.ext_getElem (chg_length _ _ _ _)
  intro j h1 h2
  rw [chg_get, if_neg (by omega)]
theorem chg_step (p : List UInt8) (st : Nat) (d : List UInt8) (k : Nat) (h : st + k < p.length) :
    chg p st d (k + 1) = (chg p st d k).set (st + k) (p[st + k] ^^^ d.getD k 0) := by
  apply List.ext_getElem (by simp [chg_length])
  intro j h1 h2
  rw [chg_get, List.getElem_set]
  by_cases e : st + k = j
  · subst e
    rw [if_pos (by omega), if_pos rfl]
    simp
  · rw [if_neg e, chg_get]
    by_cases hj : st ≤ j ∧ j < st + k
    · rw [if_pos (by omega), if_pos hj]
    · rw [if_neg (by omega), if_neg hj]
theorem chg_at (p : List UInt8) (st : Nat) (d : List UInt8) (k : Nat) (h : st + k < p.length) : (chg p st d k)[st + k]'(by rw [chg_length]; exact h) = p[st + k] := by
  rw [chg_get, if_neg (by omega)]
theorem chg_xorl (p : List UInt8) (st : Nat) (d : List UInt8) (k : Nat) (hd : k ≤ d.length) (h : st + k ≤ p.length) :
    chg p st d k = xorl p (List.replicate st 0 ++ d.take k ++ List.replicate (p.length - st - k) 0) := by
  apply List.ext_getElem (by simp [chg_length, xorl]; omega)
  intro j h1 h2
  rw [chg_get]
  simp only [xorl, List.getElem_zipWith]
  rw [chg_length] at h1
  by_cases hj : st ≤ j
  · by_cases hk : j < st + k
    · rw [if_pos ⟨hj, hk⟩, List.getElem_append_left (by simp; omega), List.getElem_append_right (by simp; omega)]
      simp only [List.length_replicate, List.getElem_take]
      rw [List.getD_eq_getElem?_getD, List.getElem?_eq_getElem (show j - st < d.length by omega)]
      rfl
    · rw [if_neg (by omega), List.getElem_append_right (by simp; omega)]
      simp
  · rw [if_neg (by omega), List.getElem_append_left (by simp; omega), List.getElem_append_left (by simp; omega)]
    simp
/-- Was anything changed? -/
def any0 (d : List UInt8) : Bool := d.any (· != 0)
theorem any0_false {d : List UInt8} : any0 d = false ↔ ∀ x ∈ d, x = 0 := by simp [any0]
theorem chg_same (p : List UInt8) (st : Nat) (d : List UInt8) (k : Nat) (hd : k ≤ d.length) (h : any0 (d.take k) = false) : chg p st d k = p := by
  rw [any0_false] at h
  apply List.ext_getElem (chg_length _ _ _ _)
  intro j h1 h2
  rw [chg_get]
  split
  · rename_i hj
    have hl : j - st < d.length := by omega
    have := h d[j - st] (by
      have : d[j - st] = (d.take k)[j - st]'(by rw [List.length_take]; omega) := by simp
      rw [this]; exact List.getElem_mem _)
    rw [List.getD_eq_getElem?_getD, List.getElem?_eq_getElem hl, Option.getD_some, this]
    simp
  · rfl
/-- Changed bytes with the elder sum: that is told. -/
theorem chg_told (l : List UInt8) (st : Nat) (d : List UInt8) (k : Nat) (hd : k ≤ d.length) (h4 : k ≤ 4) (h : st + k ≤ (crcPut l).length) (hc : any0 (d.take k) = true) :
    crcCheck (chg (crcPut l) st d k) = ([], 8) := by
  have hl : (crcPut l).length = l.length + 4 := by simp [crcPut, le4]
  unfold crcCheck
  rw [chg_length, hl, if_neg (by omega)]
  rw [if_neg]
  intro he
  have ht := told l (le4 (crc l)) ((chg (crcPut l) st d k).take (l.length + 4 - 4)) ((chg (crcPut l) st d k).drop (l.length + 4 - 4)) rfl (by rw [List.length_drop, chg_length, hl]; omega) st ((crcPut l).length - st - k) (d.take k) (by rw [List.length_take]; omega)
    (leNum_le4 (crc_lt l)) (by rw [List.take_append_drop, chg_xorl _ _ _ _ hd h]; rfl) (by show (crcPut l).length = _; rw [List.length_take]; omega) he
  rw [← any0_false] at ht
  rw [ht] at hc
  cases hc
end Go.Proofs.YtkflikfcpdekdaaDoor
