/-
  Layer 20 without the program: a play of a cache: what waits for each path is what came for it, in its order.
-/
import Derived.Test.YtcbjadmngkednaaCacheChoose
namespace Go.Proofs.Ytcbjadmngkednaa

theorem minW_mem (lt : Wt → Wt → Bool) : ∀ (w : Wt) (r : List Wt), minW lt w r ∈ w :: r
  | w, [] => by simp [minW]
  | w, x :: r => by
    have h := minW_mem lt (if lt x w then x else w) r
    unfold minW
    rcases List.mem_cons.1 h with h | h
    · rw [h]; split <;> simp
    · simp [h]
theorem pickW_mem (policy n : Int) (w : Wt) (r : List Wt) : ∃ x ∈ w :: r, pickW policy n w r = x.1 := by
  unfold pickW
  split
  · exact ⟨_, minW_mem _ w r, rfl⟩
  · split
    · exact ⟨_, minW_mem _ w r, rfl⟩
    · split
      · have hl : 0 < ((w :: r).length : Int) := by rw [List.length_cons]; omega
        have h1 := Int.emod_nonneg n (show ((w :: r).length : Int) ≠ 0 by omega)
        have h2 := Int.emod_lt_of_pos n hl
        have h3 : (n % ((w :: r).length : Int)).toNat < (w :: r).length := by omega
        refine ⟨(w :: r)[(n % ((w :: r).length : Int)).toNat], List.getElem_mem h3, ?_⟩
        rw [List.getD_eq_getElem?_getD, List.getElem?_eq_getElem h3]
        rfl
      · exact ⟨w, by simp, rfl⟩
/-- The values that wait for a path. -/
def vals (s : List UInt8) (L : List Wt) : List Int := match findW s L with
  | none => []
  | some w => w.2.map (·.value)
theorem findW_cons (s : List UInt8) (w : Wt) (r : List Wt) : findW s (w :: r) = if w.1 = s then some w else findW s r := by
  unfold findW
  rw [List.find?_cons]
  by_cases h : w.1 = s
  · rw [if_pos h, show (w.1 == s) = true by simp [h]]
  · rw [if_neg h, show (w.1 == s) = false by simp [h]]
theorem vals_cons (s : List UInt8) (w : Wt) (r : List Wt) : vals s (w :: r) = if w.1 = s then w.2.map (·.value) else vals s r := by
  unfold vals
  rw [findW_cons]
  by_cases h : w.1 = s
  · rw [if_pos h, if_pos h]
  · rw [if_neg h, if_neg h]
theorem vals_above {s : List UInt8} {r : List Wt} (h : ∀ w ∈ r, bl s w.1 = true) : vals s r = [] := by unfold vals; rw [find_above h]
theorem vals_add (s t : List UInt8) (p : Ar) : ∀ L : List Wt, ((L.map (·.1)).Pairwise fun a b => bl a b = true) → vals t (addW s p L) = if t = s then vals s L ++ [p.value] else vals t L
  | [], _ => by
    rw [addW, vals_cons]
    by_cases h : t = s
    · subst h; simp [vals, findW]
    · rw [if_neg (fun e => h e.symm), if_neg h]
  | w :: r, hr => by
    rw [List.map_cons, List.pairwise_cons] at hr
    have ih := vals_add s t p r hr.2
    rw [addW]
    by_cases hw : w.1 = s
    · rw [if_pos hw, vals_cons, vals_cons, vals_cons, if_pos hw]
      dsimp only
      by_cases h : t = s
      · subst h; rw [if_pos hw, if_pos rfl]; simp
      · rw [if_neg (fun e => h (e.symm.trans hw)), if_neg h, if_neg (fun e => h (e.symm.trans hw))]
    · rw [if_neg hw]
      by_cases hb : bl s w.1 = true
      · rw [if_pos hb, vals_cons]
        have h0 : vals s (w :: r) = [] := vals_above (fun x hx => by
          rcases List.mem_cons.1 hx with rfl | hx
          · exact hb
          · exact bl_trans _ _ _ hb (hr.1 x.1 (List.mem_map_of_mem hx)))
        by_cases h : t = s
        · subst h; rw [if_pos rfl, if_pos rfl, h0]; rfl
        · rw [if_neg (fun e => h e.symm), if_neg h]
      · rw [if_neg hb, vals_cons, vals_cons, vals_cons, ih, if_neg hw]
        by_cases h : t = s
        · subst h; rw [if_neg hw, if_pos rfl, if_pos rfl]
        · rw [if_neg h, if_neg h]
theorem vals_filter (s t : List UInt8) (L : List Wt) : vals t (L.filter fun x => x.1 != s) = if t = s then [] else vals t L := by
  unfold vals
  rw [findW_filter]
  by_cases h : t = s
  · rw [if_pos h, if_pos h]
  · rw [if_neg h, if_neg h]
theorem findW_mem {s : List UInt8} {L : List Wt} {w : Wt} (hr : (L.map (·.1)).Pairwise fun a b => bl a b = true) (hm : w ∈ L) (hs : w.1 = s) : findW s L = some w := by
  induction L with
  | nil => cases hm
  | cons x r ih =>
    rw [List.map_cons, List.pairwise_cons] at hr
    rw [findW_cons]
    rcases List.mem_cons.1 hm with rfl | hm
    · rw [if_pos hs]
    · have h1 := bl_ne _ _ (hr.1 w.1 (List.mem_map_of_mem hm))
      rw [if_neg (fun e => h1 (e.trans hs.symm)), ih hr.2 hm]
/-- The path of a number. -/
abbrev pth (p : Nat) : List UInt8 := [UInt8.ofNat (97 + p)]
theorem pth_inj {p q : Nat} (hp : p < 5) (hq : q < 5) (h : pth p = pth q) : p = q := by
  match p, hp, q, hq with
  | 0, _, 0, _ | 1, _, 1, _ | 2, _, 2, _ | 3, _, 3, _ | 4, _, 4, _ => rfl
  | 0, _, 1, _ | 0, _, 2, _ | 0, _, 3, _ | 0, _, 4, _ | 1, _, 0, _ | 1, _, 2, _ | 1, _, 3, _ | 1, _, 4, _ | 2, _, 0, _ | 2, _, 1, _ | 2, _, 3, _ | 2, _, 4, _
  | 3, _, 0, _ | 3, _, 1, _ | 3, _, 2, _ | 3, _, 4, _ | 4, _, 0, _ | 4, _, 1, _ | 4, _, 2, _ | 4, _, 3, _ => exact absurd h (by decide)
theorem pth_named {p : Nat} : nmd (pth p) = true := rfl
/-- A cache amid a play, after k acts. -/
structure Pl (m : Int) (k : Nat) (C : Ca) (taken : Int) : Prop where
  right : crtC C = true
  max : C.max = m
  five : ∀ w ∈ C.waits, ∃ p, p < 5 ∧ w.1 = pth p
  came : C.came ≤ k
  sum : C.came = (cnt C.waits : Int) + taken + C.dropped
  tk : 0 ≤ taken
theorem Pl.more {m : Int} {k : Nat} {C : Ca} {taken : Int} (h : Pl m k C taken) : Pl m (k + 1) C taken := ⟨h.right, h.max, h.five, by have := h.came; omega, h.sum, h.tk⟩
/-- A point comes. -/
theorem Pl.add {m : Int} {k : Nat} {C : Ca} {taken : Int} (h : Pl m k C taken) (hk : k ≤ 300) {p : Nat} (hp : p < 5) (value now : Int) :
    ∃ C2 kept, addC C (pth p) 0 value now = ((C2, kept), 0) ∧ kept = !decide ((cnt C.waits : Int) = C.max) ∧ Pl m (k + 1) C2 taken ∧ C2.came = C.came + 1 ∧ C2.dropped = (if kept then C.dropped else C.dropped + 1) ∧
      (kept = true → C2.waits ≠ []) ∧ ∀ q, q < 5 → vals (pth q) C2.waits = if q = p ∧ kept = true then vals (pth q) C.waits ++ [value] else vals (pth q) C.waits := by
  have hr := addC_right C (pth p) 0 value now
  have hc := h.right
  have hcame := h.came
  have hsum := h.sum
  have hri := ((crtC_iff C).1 hc).2.rising
  have e1 : ¬ (nmd (pth p) = false ∨ crtC C = false) := by rw [hc, pth_named]; simp
  have e2 : ¬ C.came = 1099511627776 := by omega
  unfold addC at hr ⊢
  rw [if_neg e1, if_neg e2] at hr ⊢
  by_cases h3 : (cnt C.waits : Int) = C.max
  · rw [if_pos h3] at hr ⊢
    refine ⟨_, _, rfl, by rw [decide_eq_true h3]; rfl, ⟨hr rfl, h.max, h.five, by dsimp only; omega, by dsimp only; omega, h.tk⟩, rfl, by simp, by simp, fun q hq => by simp⟩
  · rw [if_neg h3] at hr ⊢
    refine ⟨_, _, rfl, by rw [decide_eq_false h3]; rfl, ⟨hr rfl, h.max, ?_, by dsimp only; omega, by dsimp only; rw [cnt_addW]; omega, h.tk⟩, rfl, by simp, fun _ => ?_, fun q hq => ?_⟩
    · intro w hw
      rcases addW_paths _ _ _ w.1 (List.mem_map_of_mem hw) with he | he
      · exact ⟨p, hp, he⟩
      · obtain ⟨y, hy, e⟩ := List.mem_map.1 he
        obtain ⟨q, hq, e3⟩ := h.five y hy
        exact ⟨q, hq, by rw [← e, e3]⟩
    · intro he
      have h4 := congrArg cnt he
      rw [cnt_addW] at h4
      have h5 : cnt [] = 0 := rfl
      omega
    · dsimp only
      rw [vals_add _ _ _ _ hri]
      by_cases hqp : q = p
      · subst hqp; simp
      · rw [if_neg (fun e => hqp (pth_inj hq hp e)), if_neg (fun e => hqp e.1)]
/-- Nothing waits, or some path is chosen. -/
theorem Pl.choose {m : Int} {k : Nat} {C : Ca} {taken : Int} (h : Pl m k C taken) (policy n : Int) (h1 : 1 ≤ policy) (h2 : policy ≤ 4) (hn : 0 ≤ n) :
    (chooseC C policy n = ([], 15) ∧ cnt C.waits = 0) ∨
    ∃ p x, p < 5 ∧ chooseC C policy n = (pth p, 0) ∧ findW (pth p) C.waits = some x ∧ takeC C (pth p) = (({ C with waits := C.waits.filter fun x => x.1 != pth p }, x.2), 0) ∧
      x.2.map (·.value) = vals (pth p) C.waits ∧ Pl m (k + 1) { C with waits := C.waits.filter fun x => x.1 != pth p } (taken + x.2.length) ∧ (x.2.length : Int) ≤ k ∧
      ∀ q, q < 5 → vals (pth q) (C.waits.filter fun x => x.1 != pth p) = if q = p then [] else vals (pth q) C.waits := by
  have hc := h.right
  have hri := ((crtC_iff C).1 hc).2.rising
  unfold chooseC
  rw [if_neg (by rw [hc]; simp; omega)]
  cases hw : C.waits with
  | nil => exact .inl ⟨rfl, rfl⟩
  | cons w r =>
    right
    obtain ⟨x, hx, he⟩ := pickW_mem policy n w r
    rw [← hw] at hx
    obtain ⟨p, hp, he2⟩ := h.five x hx
    have hf := findW_mem hri hx he2
    have hcf := cnt_filter (pth p) C.waits x hri hf
    have hsum := h.sum
    have hcame := h.came
    have htk := h.tk
    have hd := ((crtC_iff C).1 hc).1.2.2.2.2.2.1
    have hv : x.2.map (·.value) = vals (pth p) C.waits := by unfold vals; rw [hf]
    refine ⟨p, x, hp, ?_, by rw [← hw]; exact hf, ?_, by rw [← hw]; exact hv, ?_, by omega, fun q hq => ?_⟩
    · dsimp only; rw [he, he2]
    · unfold takeC; rw [if_neg (by rw [hc]; simp), hf, hw]
    · rw [← hw]
      refine ⟨take_right C _ hc, h.max, fun y hy => h.five y (List.mem_filter.1 hy).1, by dsimp only; omega, by dsimp only; omega, by omega⟩
    · rw [← hw, vals_filter]
      by_cases hqp : q = p
      · subst hqp; simp
      · rw [if_neg (fun e => hqp (pth_inj hq hp e)), if_neg hqp]
#print axioms Pl.choose
end Go.Proofs.Ytcbjadmngkednaa
