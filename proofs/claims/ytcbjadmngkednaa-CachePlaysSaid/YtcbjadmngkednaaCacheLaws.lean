/-
  Layer 20 without the program: what an added point and taken points do to what is right.
-/
import Derived.Test.YtcbjadmngkednaaCachePlain
namespace Go.Proofs.Ytcbjadmngkednaa

theorem cnt_cons (w : Wt) (L : List Wt) : cnt (w :: L) = w.2.length + cnt L := by simp [cnt]
theorem allO_cons (w : Wt) (L : List Wt) : allO (w :: L) = ords w.2 ++ allO L := rfl
theorem cnt_addW (s : List UInt8) (p : Ar) : ∀ L : List Wt, cnt (addW s p L) = cnt L + 1
  | [] => rfl
  | w :: r => by
    rw [addW]
    split
    · rw [cnt_cons, cnt_cons]; simp; omega
    · split
      · rw [cnt_cons]; simp; omega
      · rw [cnt_cons, cnt_cons, cnt_addW s p r]; omega
theorem allO_addW (s : List UInt8) (p : Ar) : ∀ L : List Wt, (allO (addW s p L)).Perm (p.order :: allO L)
  | [] => .refl _
  | w :: r => by
    rw [addW]
    split
    · rw [allO_cons, allO_cons]
      have e : ords (w.2 ++ [p]) = ords w.2 ++ [p.order] := by simp [ords]
      rw [e, List.append_assoc]
      exact List.perm_middle
    · split
      · exact .refl _
      · rw [allO_cons, allO_cons]
        exact ((allO_addW s p r).append_left _).trans List.perm_middle
theorem addW_paths (s : List UInt8) (p : Ar) : ∀ (L : List Wt) (a : List UInt8), a ∈ (addW s p L).map (·.1) → a = s ∨ a ∈ L.map (·.1)
  | [], a, h => by simp [addW] at h; exact .inl h
  | w :: r, a, h => by
    rw [addW] at h
    split at h
    · simp at h ⊢; exact .inr h
    · split at h
      · simp at h ⊢; exact h
      · rw [List.map_cons, List.mem_cons] at h ⊢
        rcases h with h | h
        · exact .inr (.inl h)
        · rcases addW_paths s p r a h with h | h
          · exact .inl h
          · exact .inr (.inr h)
theorem addW_rising (s : List UInt8) (p : Ar) : ∀ L : List Wt, ((L.map (·.1)).Pairwise fun a b => bl a b = true) → ((addW s p L).map (·.1)).Pairwise fun a b => bl a b = true
  | [], _ => by simp [addW]
  | w :: r, h => by
    rw [List.map_cons, List.pairwise_cons] at h
    rw [addW]
    split
    · rw [List.map_cons, List.pairwise_cons]; exact h
    · rename_i hne
      split
      · rename_i hs
        rw [List.map_cons, List.pairwise_cons, List.map_cons, List.pairwise_cons]
        refine ⟨fun a ha => ?_, h⟩
        rcases List.mem_cons.1 ha with rfl | ha
        · exact hs
        · exact bl_trans _ _ _ hs (h.1 a ha)
      · rename_i hs
        rw [List.map_cons, List.pairwise_cons]
        refine ⟨fun a ha => ?_, addW_rising s p r h.2⟩
        rcases addW_paths s p r a ha with rfl | ha
        · rcases bl_total w.1 a with h1 | h1 | h1
          · exact h1
          · exact absurd h1 hne
          · exact absurd h1 hs
        · exact h.1 a ha
theorem addW_named (s : List UInt8) (p : Ar) (hs : nmd s = true) : ∀ L : List Wt, (∀ w ∈ L, nmd w.1 = true ∧ w.2 ≠ []) → ∀ w ∈ addW s p L, nmd w.1 = true ∧ w.2 ≠ []
  | [], _, w, h => by simp [addW] at h; subst h; exact ⟨hs, by simp⟩
  | x :: r, hL, w, h => by
    rw [addW] at h
    split at h
    · rcases List.mem_cons.1 h with rfl | h
      · exact ⟨(hL x (by simp)).1, by simp⟩
      · exact hL w (by simp [h])
    · split at h
      · rcases List.mem_cons.1 h with rfl | h
        · exact ⟨hs, by simp⟩
        · exact hL w h
      · rcases List.mem_cons.1 h with rfl | h
        · exact hL w (by simp)
        · exact addW_named s p hs r (fun y hy => hL y (by simp [hy])) w h
theorem goodP_mono {came came' : Int} {l : List Ar} (h : GoodP came l) (hc : came ≤ came') : GoodP came' l := ⟨h.1, fun o ho => by have := h.2 o ho; omega⟩
theorem goodP_snoc {came : Int} {l : List Ar} (h : GoodP came l) (p : Ar) (hp : p.order = came) (h0 : 0 ≤ came) : GoodP (came + 1) (l ++ [p]) := by
  have e : ords (l ++ [p]) = ords l ++ [p.order] := by simp [ords]
  refine ⟨?_, fun o ho => ?_⟩
  · rw [e, List.pairwise_append]
    refine ⟨h.1, by simp, fun a ha b hb => ?_⟩
    have := h.2 a ha
    simp at hb
    omega
  · rw [e] at ho
    rcases List.mem_append.1 ho with ho | ho
    · have := h.2 o ho; omega
    · simp at ho; omega
theorem addW_pts (s : List UInt8) (p : Ar) (came : Int) (hp : p.order = came) (h0 : 0 ≤ came) : ∀ L : List Wt, (∀ w ∈ L, GoodP came w.2) → ∀ w ∈ addW s p L, GoodP (came + 1) w.2
  | [], _, w, h => by
    simp [addW] at h; subst h
    exact goodP_snoc (l := []) ⟨by simp [ords], by simp [ords]⟩ p hp h0
  | x :: r, hL, w, h => by
    rw [addW] at h
    have hx := goodP_mono (hL x (by simp)) (show came ≤ came + 1 by omega)
    split at h
    · rcases List.mem_cons.1 h with rfl | h
      · exact goodP_snoc (hL x (by simp)) p hp h0
      · exact goodP_mono (hL w (by simp [h])) (by omega)
    · split at h
      · rcases List.mem_cons.1 h with rfl | h
        · exact goodP_snoc (l := []) ⟨by simp [ords], by simp [ords]⟩ p hp h0
        · exact goodP_mono (hL w h) (by omega)
      · rcases List.mem_cons.1 h with rfl | h
        · exact hx
        · exact addW_pts s p came hp h0 r (fun y hy => hL y (by simp [hy])) w h
theorem mem_allO {L : List Wt} {o : Int} : o ∈ allO L ↔ ∃ w ∈ L, o ∈ ords w.2 := List.mem_flatMap
theorem goodW_add {came : Int} {L : List Wt} (h : GoodW came L) (s : List UInt8) (hs : nmd s = true) (p : Ar) (hp : p.order = came) (h0 : 0 ≤ came) : GoodW (came + 1) (addW s p L) :=
  ⟨addW_named s p hs L h.named, addW_rising s p L h.rising, addW_pts s p came hp h0 L h.pts, by
    rw [(allO_addW s p L).nodup_iff, List.nodup_cons]
    refine ⟨fun hm => ?_, h.once⟩
    obtain ⟨w, hw, ho⟩ := mem_allO.1 hm
    have := (h.pts w hw).2 _ ho
    omega⟩
theorem goodW_mono {came came' : Int} {L : List Wt} (h : GoodW came L) (hc : came ≤ came') : GoodW came' L := ⟨h.named, h.rising, fun w hw => goodP_mono (h.pts w hw) hc, h.once⟩
theorem len_le_cnt : ∀ (L : List Wt), (∀ w ∈ L, w.2 ≠ []) → L.length ≤ cnt L
  | [], _ => Nat.zero_le _
  | w :: r, h => by
    have h1 := h w (by simp)
    have h2 := len_le_cnt r (fun x hx => h x (by simp [hx]))
    have h3 := List.length_pos_iff.2 h1
    rw [cnt_cons, List.length_cons]
    omega
/-- What is right stays right. -/
theorem addC_right (c : Ca) (s : List UInt8) (time value now : Int) (h : (addC c s time value now).2 = 0) : crtC (addC c s time value now).1.1 = true := by
  unfold addC at h ⊢
  split at h
  · cases h
  · rename_i h1
    rw [if_neg h1]
    split at h
    · cases h
    · rename_i h2
      rw [if_neg h2]
      simp only [not_or, Bool.not_eq_false] at h1
      obtain ⟨⟨a1, a2, a3, a4, a5, a6, a7, a8⟩, hg⟩ := (crtC_iff c).1 h1.2
      split
      · rename_i h3
        rw [crtC_iff]
        exact ⟨⟨a1, a2, a3, by dsimp only; omega, by dsimp only; omega, by dsimp only; omega, a7, by dsimp only; omega⟩, goodW_mono hg (by dsimp only; omega)⟩
      · rename_i h3
        rw [crtC_iff]
        have hg2 := goodW_add hg s h1.1 ⟨time, value, now, c.came⟩ rfl a4
        have hl := len_le_cnt _ (fun w hw => (hg2.named w hw).2)
        rw [cnt_addW] at hl
        dsimp only
        rw [cnt_addW]
        exact ⟨⟨a1, a2, by omega, by omega, by omega, a6, by omega, by omega⟩, hg2⟩

/-! ### Taking -/
theorem findW_some {s : List UInt8} {L : List Wt} {w : Wt} (h : findW s L = some w) : w ∈ L ∧ w.1 = s := by
  unfold findW at h
  have h1 := List.mem_of_find?_eq_some h
  have h2 := List.find?_some h
  exact ⟨h1, by simpa using h2⟩
theorem filter_sub (s : List UInt8) (L : List Wt) : List.Sublist (L.filter fun x => x.1 != s) L := List.filter_sublist
theorem allO_sub : ∀ {L M : List Wt}, List.Sublist L M → List.Sublist (allO L) (allO M)
  | _, _, .slnil => .slnil
  | _, _, .cons a h => (allO_sub h).trans (List.sublist_append_right _ _)
  | _, _, .cons_cons a h => (List.Sublist.refl _).append (allO_sub h)
theorem goodW_sub {came : Int} {L M : List Wt} (h : List.Sublist L M) (hg : GoodW came M) : GoodW came L :=
  ⟨fun w hw => hg.named w (h.subset hw), hg.rising.sublist (h.map _), fun w hw => hg.pts w (h.subset hw), hg.once.sublist (allO_sub h)⟩
theorem filter_none (s : List UInt8) : ∀ L : List Wt, (∀ w ∈ L, bl s w.1 = true) → (L.filter fun x => x.1 != s) = L
  | [], _ => rfl
  | w :: r, h => by
    have h1 : (w.1 != s) = true := by
      have := bl_ne _ _ (h w (by simp))
      simp [Ne.symm this]
    rw [List.filter_cons, if_pos h1, filter_none s r (fun x hx => h x (by simp [hx]))]
theorem cnt_filter (s : List UInt8) : ∀ (L : List Wt) (w : Wt), ((L.map (·.1)).Pairwise fun a b => bl a b = true) → findW s L = some w → cnt (L.filter fun x => x.1 != s) + w.2.length = cnt L
  | [], w, _, h => by cases h
  | x :: r, w, hr, h => by
    rw [List.map_cons, List.pairwise_cons] at hr
    unfold findW at h
    rw [List.find?_cons] at h
    by_cases hx : x.1 = s
    · have h1 : (x.1 == s) = true := by simp [hx]
      rw [h1] at h
      cases h
      have h2 : (x.1 != s) = false := by simp [hx]
      rw [List.filter_cons, h2]
      have h3 := filter_none s r (fun y hy => by rw [← hx]; exact hr.1 y.1 (List.mem_map.2 ⟨y, hy, rfl⟩))
      simp only [Bool.false_eq_true, if_false]
      rw [h3, cnt_cons]
      omega
    · have h1 : (x.1 == s) = false := by simp [hx]
      rw [h1] at h
      have h2 : (x.1 != s) = true := by simp [hx]
      have ih := cnt_filter s r w hr.2 h
      rw [List.filter_cons, h2]
      simp only [if_true]
      rw [cnt_cons, cnt_cons]
      omega
theorem cnt_filter_le (s : List UInt8) : ∀ L : List Wt, cnt (L.filter fun x => x.1 != s) ≤ cnt L
  | [] => Nat.le_refl _
  | x :: r => by
    have ih := cnt_filter_le s r
    rw [List.filter_cons]
    split
    · rw [cnt_cons, cnt_cons]; omega
    · rw [cnt_cons]; omega
theorem findW_filter (s t : List UInt8) : ∀ L : List Wt, findW t (L.filter fun x => x.1 != s) = if t = s then none else findW t L
  | [] => by simp [findW]
  | x :: r => by
    have ih := findW_filter s t r
    unfold findW at ih ⊢
    rw [List.filter_cons]
    by_cases hx : x.1 = s
    · have h2 : (x.1 != s) = false := by simp [hx]
      rw [h2]
      simp only [Bool.false_eq_true, if_false]
      rw [ih]
      split
      · rfl
      · rename_i hts
        have h3 : (x.1 == t) = false := by simp [hx]; exact fun e => hts e.symm
        rw [List.find?_cons, h3]
    · have h2 : (x.1 != s) = true := by simp [hx]
      rw [h2]
      simp only [if_true]
      rw [List.find?_cons, List.find?_cons, ih]
      by_cases ht : x.1 = t
      · have h3 : (x.1 == t) = true := by simp [ht]
        have hts : ¬ t = s := fun e => hx (ht.trans e)
        rw [h3]
        simp [hts]
      · have h3 : (x.1 == t) = false := by simp [ht]
        rw [h3]
/-- What is left of what was right is right. -/
theorem take_right (c : Ca) (s : List UInt8) (h : crtC c = true) : crtC { c with waits := c.waits.filter fun x => x.1 != s } = true := by
  obtain ⟨⟨a1, a2, a3, a4, a5, a6, a7, a8⟩, hg⟩ := (crtC_iff c).1 h
  rw [crtC_iff]
  have h1 := cnt_filter_le s c.waits
  have h2 : (c.waits.filter fun x => x.1 != s).length ≤ c.waits.length := List.length_filter_le _ _
  dsimp only
  exact ⟨⟨a1, a2, by omega, a4, a5, a6, by omega, by omega⟩, goodW_sub (filter_sub s _) hg⟩
#print axioms take_right
end Go.Proofs.Ytcbjadmngkednaa
