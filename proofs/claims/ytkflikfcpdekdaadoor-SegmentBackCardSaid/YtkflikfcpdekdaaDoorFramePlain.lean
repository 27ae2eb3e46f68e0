/-
  Frames: what Put, Take, Cut and Join answer, and that what is joined is cut as it was. No program in sight.
-/
import Derived.Test.YtkflikfcpdekdaaDoorToldPlain
namespace Go.Proofs.YtkflikfcpdekdaaDoor

/-- A length's two bytes. -/
def le2 (n : Nat) : List UInt8 := [UInt8.ofNat n, UInt8.ofNat (n / 256)]
def frm (p : List UInt8) : List UInt8 := crcPut (le2 p.length ++ p)
def frPut (p : List UInt8) : List UInt8 × Nat := if p.length = 0 then ([], 1) else if 512 < p.length then ([], 12) else (frm p, 0)
/-- The length that bytes begin with. -/
def len2 (b : List UInt8) : Nat := (b.getD 0 0).toNat + 256 * (b.getD 1 0).toNat
def frTake (b : List UInt8) : List UInt8 × Nat × Nat :=
  if b.length < 2 then ([], 0, 9)
  else if len2 b < 1 ∨ 512 < len2 b then ([], 0, 7)
  else if b.length < len2 b + 6 then ([], 0, 9)
  else if (crcCheck (b.take (len2 b + 6))).2 = 0 then ((crcCheck (b.take (len2 b + 6))).1.drop 2, len2 b + 6, 0)
  else ([], 0, 8)
def cutF : Nat → List UInt8 → List (List UInt8) × Nat
  | 0, _ => ([], 0)
  | f + 1, b => if (frTake b).2.2 = 0 then ((frTake b).1 :: (cutF f (b.drop (frTake b).2.1)).1, (frTake b).2.1 + (cutF f (b.drop (frTake b).2.1)).2) else ([], 0)
def frCut (b : List UInt8) : List (List UInt8) × Nat := cutF b.length b
def frJoin : List (List UInt8) → List UInt8 × Nat
  | [] => ([], 0)
  | p :: l => if (frPut p).2 = 0 then (if (frJoin l).2 = 0 then ((frPut p).1 ++ (frJoin l).1, 0) else ([], (frJoin l).2)) else ([], (frPut p).2)

theorem frm_length (p : List UInt8) : (frm p).length = p.length + 6 := by simp [frm, crcPut, le4, le2]
theorem crcCheck_err (l : List UInt8) (h : 4 ≤ l.length) : (crcCheck l).2 = 0 ∨ crcCheck l = ([], 8) := by
  unfold crcCheck
  rw [if_neg (by omega)]
  split
  · exact .inl rfl
  · exact .inr rfl
theorem crcCheck_len (l : List UInt8) (h : (crcCheck l).2 = 0) : (crcCheck l).1.length + 4 = l.length := by
  unfold crcCheck at h ⊢
  split
  · rename_i h4; rw [if_pos h4] at h; cases h
  · rename_i h4
    rw [if_neg h4] at h
    split
    · rw [List.length_take]; omega
    · rename_i h5; rw [if_neg h5] at h; cases h
theorem frTake_size (b : List UInt8) (h : (frTake b).2.2 = 0) : 7 ≤ (frTake b).2.1 ∧ (frTake b).2.1 ≤ b.length ∧ (frTake b).2.1 = (frTake b).1.length + 6 := by
  unfold frTake at h ⊢
  split
  · rename_i h1; rw [if_pos h1] at h; cases h
  · rename_i h1
    rw [if_neg h1] at h
    split
    · rename_i h2; rw [if_pos h2] at h; cases h
    · rename_i h2
      rw [if_neg h2] at h
      split
      · rename_i h3; rw [if_pos h3] at h; cases h
      · rename_i h3
        rw [if_neg h3] at h
        split
        · rename_i h4
          have := crcCheck_len _ h4
          rw [List.length_take] at this
          simp only [List.length_drop]
          omega
        · rename_i h4; rw [if_neg h4] at h; cases h
theorem cutF_more (f : Nat) : ∀ (b : List UInt8) (g : Nat), b.length ≤ f → f ≤ g → cutF f b = cutF g b := by
  induction f with
  | zero =>
    intro b g hb _
    have : b = [] := List.eq_nil_of_length_eq_zero (by omega)
    subst this
    cases g with
    | zero => rfl
    | succ g => rfl
  | succ f ih =>
    intro b g hb hg
    obtain ⟨g, rfl⟩ : ∃ g', g = g' + 1 := ⟨g - 1, by omega⟩
    simp only [cutF]
    split
    · rename_i h
      have hs := frTake_size b h
      rw [ih (b.drop (frTake b).2.1) g (by rw [List.length_drop]; omega) (by omega)]
    · rfl
/-- One frame more. -/
theorem frCut_step (b : List UInt8) (h : (frTake b).2.2 = 0) : frCut b = ((frTake b).1 :: (frCut (b.drop (frTake b).2.1)).1, (frTake b).2.1 + (frCut (b.drop (frTake b).2.1)).2) := by
  have hs := frTake_size b h
  obtain ⟨f, hf⟩ : ∃ f, b.length = f + 1 := ⟨b.length - 1, by omega⟩
  unfold frCut
  conv => lhs; rw [hf]; unfold cutF
  rw [if_pos h, cutF_more (b.drop (frTake b).2.1).length (b.drop (frTake b).2.1) f (Nat.le_refl _) (by rw [List.length_drop]; omega)]
theorem frCut_stop (b : List UInt8) (h : (frTake b).2.2 ≠ 0) : frCut b = ([], 0) := by
  unfold frCut
  cases hb : b.length with
  | zero => rfl
  | succ f => unfold cutF; rw [if_neg h]

/-! ### There and back -/
theorem len2_frm (p : List UInt8) (h : p.length ≤ 512) (r : List UInt8) : len2 (frm p ++ r) = p.length := by
  simp [len2, frm, crcPut, le2]
  omega
theorem frTake_frm (p r : List UInt8) (h0 : 0 < p.length) (h : p.length ≤ 512) : frTake (frm p ++ r) = (p, p.length + 6, 0) := by
  have hl : (frm p ++ r).length = p.length + 6 + r.length := by rw [List.length_append, frm_length]
  unfold frTake
  rw [len2_frm p h r, hl, if_neg (by omega), if_neg (by omega), if_neg (by omega)]
  have ht : (frm p ++ r).take (p.length + 6) = frm p := by
    rw [← frm_length p]; exact List.take_left
  rw [ht]
  unfold frm
  rw [crcCheck_put, if_pos rfl]
  simp [le2]
/-- Of a beginning of a frame nothing is taken. -/
theorem frTake_torn (p : List UInt8) (h : p.length ≤ 512) (k : Nat) (hk : k < p.length + 6) : (frTake ((frm p).take k)).2.2 ≠ 0 := by
  unfold frTake
  by_cases h2 : k < 2
  · rw [if_pos (by rw [List.length_take]; omega)]; decide
  · rw [if_neg (by rw [List.length_take, frm_length]; omega)]
    have hl : len2 ((frm p).take k) = p.length := by
      have := len2_frm p h []
      rw [List.append_nil] at this
      rw [← this]
      unfold len2
      simp only [List.getD_eq_getElem?_getD, List.getElem?_take]
      rw [if_pos (by omega), if_pos (by omega)]
    rw [hl]
    split
    · decide
    · rw [if_pos (by rw [List.length_take, frm_length]; omega)]; decide
/-- A frame of which a byte behind its length is another one. -/
theorem frm_told (p : List UInt8) (h0 : 0 < p.length) (h : p.length ≤ 512) (j : Nat) (h2 : 2 ≤ j) (hj : j < (frm p).length) (y : UInt8) (hy : y ≠ 0) :
    frTake ((frm p).set j ((frm p)[j] ^^^ y)) = ([], 0, 8) := by
  have hl := frm_length p
  have hc : chg (frm p) j [y] 1 = (frm p).set j ((frm p)[j] ^^^ y) := by
    have := chg_step (frm p) j [y] 0 (by simpa using hj)
    rw [chg_zero] at this
    simpa using this
  have hlen : ((frm p).set j ((frm p)[j] ^^^ y)).length = p.length + 6 := by rw [List.length_set, hl]
  have hl2 : len2 ((frm p).set j ((frm p)[j] ^^^ y)) = p.length := by
    have := len2_frm p h []
    rw [List.append_nil] at this
    rw [← this]
    unfold len2
    simp only [List.getD_eq_getElem?_getD]
    rw [List.getElem?_set_ne (by omega), List.getElem?_set_ne (by omega)]
  unfold frTake
  rw [hl2, hlen, if_neg (by omega), if_neg (by omega), if_neg (by omega), List.take_of_length_le (by rw [hlen]; exact Nat.le_refl _), ← hc]
  have ht : crcCheck (chg (frm p) j [y] 1) = ([], 8) := by
    unfold frm
    exact chg_told _ j [y] 1 (by simp) (by decide) (by rw [← frm]; omega) (by simp [any0, hy])
  rw [ht, if_neg (by decide)]
theorem frJoin_ok : ∀ (L : List (List UInt8)), (frJoin L).2 = 0 → (∀ p ∈ L, 0 < p.length ∧ p.length ≤ 512) ∧ (frJoin L).1 = (L.map frm).flatten
  | [], _ => by simp [frJoin]
  | p :: L, h => by
    unfold frJoin at h ⊢
    by_cases hp : (frPut p).2 = 0
    · rw [if_pos hp] at h ⊢
      by_cases hL : (frJoin L).2 = 0
      · obtain ⟨h1, h2⟩ := frJoin_ok L hL
        have hp2 : 0 < p.length ∧ p.length ≤ 512 ∧ (frPut p).1 = frm p := by
          unfold frPut at hp ⊢
          split
          · rename_i h; rw [if_pos h] at hp; cases hp
          · rename_i h
            rw [if_neg h] at hp
            split
            · rename_i h'; rw [if_pos h'] at hp; cases hp
            · exact ⟨by omega, by omega, rfl⟩
        rw [if_pos hL]
        refine ⟨fun q hq => ?_, by simp [hp2.2.2, h2]⟩
        rcases List.mem_cons.1 hq with rfl | hq
        · exact ⟨hp2.1, hp2.2.1⟩
        · exact h1 q hq
      · rw [if_neg hL] at h; exact absurd h hL
    · rw [if_neg hp] at h; exact absurd h hp
/-- The payloads whose frames are whole among the first 'e' bytes, and how many bytes these have. -/
def whole : List (List UInt8) → Nat → List (List UInt8) × Nat
  | [], _ => ([], 0)
  | p :: L, e => if p.length + 6 ≤ e then (p :: (whole L (e - (p.length + 6))).1, p.length + 6 + (whole L (e - (p.length + 6))).2) else ([], 0)
/-- Of a beginning of joined frames just those that are whole in it are cut. -/
theorem frCut_whole : ∀ (L : List (List UInt8)) (e : Nat), (∀ p ∈ L, 0 < p.length ∧ p.length ≤ 512) → frCut (((L.map frm).flatten).take e) = whole L e
  | [], e, _ => by simp [whole, frCut, cutF]
  | p :: L, e, h => by
    have hp := h p (by simp)
    have ih := fun e => frCut_whole L e (fun q hq => h q (by simp [hq]))
    have hl := frm_length p
    simp only [List.map_cons, List.flatten_cons]
    unfold whole
    split
    · rename_i he
      have e1 : (frm p ++ (L.map frm).flatten).take e = frm p ++ ((L.map frm).flatten).take (e - (p.length + 6)) := by
        rw [List.take_append, List.take_of_length_le (by omega), hl]
      rw [e1]
      have ht := frTake_frm p (((L.map frm).flatten).take (e - (p.length + 6))) hp.1 hp.2
      rw [frCut_step _ (by rw [ht]), ht]
      have hd : (frm p ++ ((L.map frm).flatten).take (e - (p.length + 6))).drop (p.length + 6) = ((L.map frm).flatten).take (e - (p.length + 6)) := by
        rw [← hl]; exact List.drop_left
      simp only [hd, ih]
    · rename_i he
      have e1 : (frm p ++ (L.map frm).flatten).take e = (frm p).take e := by
        rw [List.take_append, show e - (frm p).length = 0 by omega]; simp
      rw [e1, frCut_stop _ (frTake_torn p hp.2 e (by omega))]
theorem whole_all : ∀ (L : List (List UInt8)), whole L ((L.map frm).flatten).length = (L, ((L.map frm).flatten).length)
  | [] => rfl
  | p :: L => by
    have ih := whole_all L
    have hl := frm_length p
    unfold whole
    simp only [List.map_cons, List.flatten_cons, List.length_append, hl]
    rw [if_pos (by omega), show p.length + 6 + ((L.map frm).flatten).length - (p.length + 6) = ((L.map frm).flatten).length by omega, ih]
theorem frCut_join (L : List (List UInt8)) (h : ∀ p ∈ L, 0 < p.length ∧ p.length ≤ 512) : frCut ((L.map frm).flatten) = (L, ((L.map frm).flatten).length) := by
  have := frCut_whole L ((L.map frm).flatten).length h
  rw [List.take_of_length_le (Nat.le_refl _), whole_all] at this
  exact this
/-! ### Joined one by one -/
def jn (pre : List UInt8) (r : List UInt8 × Nat) : List UInt8 × Nat := if r.2 = 0 then (pre ++ r.1, 0) else ([], r.2)
theorem frPut_ok (p : List UInt8) (h : (frPut p).2 = 0) : frPut p = (frm p, 0) := by
  unfold frPut at h ⊢
  split
  · rename_i h1; rw [if_pos h1] at h; cases h
  · rename_i h1
    rw [if_neg h1] at h
    split
    · rename_i h2; rw [if_pos h2] at h; cases h
    · rfl
theorem frPut_bad (p : List UInt8) (h : (frPut p).2 ≠ 0) : frPut p = ([], (frPut p).2) := by
  unfold frPut at h ⊢
  split
  · rfl
  · split
    · rfl
    · rename_i h1 h2; rw [if_neg h1, if_neg h2] at h; exact absurd rfl h
theorem frJoin_cons (p : List UInt8) (L : List (List UInt8)) : frJoin (p :: L) = if (frPut p).2 = 0 then (if (frJoin L).2 = 0 then ((frPut p).1 ++ (frJoin L).1, 0) else ([], (frJoin L).2)) else ([], (frPut p).2) := rfl
theorem jn_step (pre p : List UInt8) (L : List (List UInt8)) (h : (frPut p).2 = 0) : jn pre (frJoin (p :: L)) = jn (pre ++ frm p) (frJoin L) := by
  have hp := frPut_ok p h
  rw [frJoin_cons, if_pos h, hp]
  unfold jn
  by_cases hL : (frJoin L).2 = 0
  · simp [hL]
  · simp [hL]
theorem jn_bad (pre p : List UInt8) (L : List (List UInt8)) (h : (frPut p).2 ≠ 0) : jn pre (frJoin (p :: L)) = ([], (frPut p).2) := by
  rw [frJoin_cons, if_neg h]
  unfold jn
  simp [h]
theorem jn_end (pre : List UInt8) : jn pre (frJoin []) = (pre, 0) := by simp [jn, frJoin]
theorem jn_start (L : List (List UInt8)) : jn [] (frJoin L) = frJoin L := by
  unfold jn
  split
  · rename_i h; rw [List.nil_append, ← h]
  · rename_i h
    cases L with
    | nil => exact absurd rfl h
    | cons p L =>
      by_cases hp : (frPut p).2 = 0
      · rw [frJoin_cons, if_pos hp] at h ⊢
        by_cases hL : (frJoin L).2 = 0
        · rw [if_pos hL] at h; exact absurd rfl h
        · rw [if_neg hL]
      · rw [frJoin_cons, if_neg hp]
theorem whole_cons (p : List UInt8) (L : List (List UInt8)) (e : Nat) : whole (p :: L) e = if p.length + 6 ≤ e then (p :: (whole L (e - (p.length + 6))).1, p.length + 6 + (whole L (e - (p.length + 6))).2) else ([], 0) := rfl
theorem whole_step (L : List (List UInt8)) (i e : Nat) (hi : i < L.length) (h : L[i].length + 6 ≤ e) :
    whole (L.drop i) e = (L[i] :: (whole (L.drop (i + 1)) (e - (L[i].length + 6))).1, L[i].length + 6 + (whole (L.drop (i + 1)) (e - (L[i].length + 6))).2) := by
  rw [List.drop_eq_getElem_cons hi, whole_cons, if_pos h]
theorem whole_stop (L : List (List UInt8)) (i e : Nat) (h : ∀ hi : i < L.length, e < L[i].length + 6) : whole (L.drop i) e = ([], 0) := by
  by_cases hi : i < L.length
  · rw [List.drop_eq_getElem_cons hi, whole_cons, if_neg (by have := h hi; omega)]
  · rw [List.drop_of_length_le (by omega)]; rfl
theorem joined_length (L : List (List UInt8)) : ((L.map frm).flatten).length = L.flatten.length + 6 * L.length := by
  induction L with
  | nil => rfl
  | cons p L ih => simp only [List.map_cons, List.flatten_cons, List.length_append, List.length_cons, ih, frm_length]; omega
end Go.Proofs.YtkflikfcpdekdaaDoor
