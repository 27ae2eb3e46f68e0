/-
  Layer 6 without the program: names in their order, and what is done to them.
-/
import Derived.Test.YtponbponacdhkaaDkDelete
namespace Go.Proofs.Ytponbponacdhkaa

abbrev Rising (M : List Nm) : Prop := (M.map (·.1)).Pairwise fun a b => bl a b = true
def vld (s : List UInt8) : Bool := !s.isEmpty && decide (s.length ≤ 96)
def insN (s : List UInt8) (id : Int) : List Nm → List Nm
  | [] => [(s, id)]
  | x :: r => if bl x.1 s then x :: insN s id r else (s, id) :: x :: r
def dropN (s : List UInt8) (M : List Nm) : List Nm := M.filter fun x => x.1 != s
def findN (s : List UInt8) (M : List Nm) : Option Nm := M.find? fun x => x.1 == s
/-- A move: its kind, its two names, its number. -/
structure Mv where
  kind : Int
  name : List UInt8
  dst : List UInt8
  id : Int
deriving DecidableEq
def doneN (M : List Nm) (m : Mv) : Option (List Nm) :=
  if vld m.name = false then none
  else if m.kind = 1 then (if (findN m.name M).isSome ∨ m.dst ≠ [] ∨ m.id < 1 then none else some (insN m.name m.id M))
  else if m.kind = 2 then (if (findN m.name M).isNone ∨ m.dst ≠ [] ∨ m.id ≠ 0 then none else some (dropN m.name M))
  else if m.kind = 3 then match findN m.name M with
    | none => none
    | some x => if vld m.dst = false ∨ m.dst = m.name ∨ m.id ≠ 0 then none else some (insN m.dst x.2 (dropN m.dst (dropN m.name M)))
  else none

theorem stands_nil {s : List UInt8} {i : Nat} (h : Stands s [] i) : i = 0 := by have := h.1; simpa using this
theorem stands_tail {s : List UInt8} {x : Nm} {r : List Nm} {i : Nat} (h : Stands s (x :: r) (i + 1)) : bl x.1 s = true ∧ Stands s r i := by
  obtain ⟨h1, h2, h3⟩ := h
  refine ⟨h2 0 (by simp) (by omega), by simpa using h1, fun k hk hki => ?_, fun k hk hki => ?_⟩
  · exact h2 (k + 1) (by simpa using hk) (by omega)
  · exact h3 (k + 1) (by simpa using hk) (by omega)
theorem insN_stands (s : List UInt8) (id : Int) : ∀ (M : List Nm) (i : Nat), Stands s M i → insN s id M = M.take i ++ (s, id) :: M.drop i
  | [], i, h => by rw [stands_nil h]; rfl
  | x :: r, 0, h => by
    have h0 : bl x.1 s = false := h.2.2 0 (by simp) (Nat.le_refl _)
    rw [insN, h0]
    rfl
  | x :: r, i + 1, h => by
    obtain ⟨h0, h1⟩ := stands_tail h
    rw [insN, h0, if_pos rfl, insN_stands s id r i h1]
    rfl
theorem drop_above {s : List UInt8} : ∀ {r : List Nm}, (∀ w ∈ r, w.1 ≠ s) → dropN s r = r ∧ findN s r = none
  | [], _ => ⟨rfl, rfl⟩
  | w :: r, h => by
    obtain ⟨h1, h2⟩ := drop_above (r := r) (fun x hx => h x (by simp [hx]))
    have h0 : w.1 ≠ s := h w (by simp)
    refine ⟨?_, ?_⟩
    · unfold dropN at h1 ⊢
      rw [List.filter_cons, show (w.1 != s) = true by simp [h0], if_pos rfl, h1]
    · unfold findN at h2 ⊢
      rw [List.find?_cons, show (w.1 == s) = false by simp [h0]]
      exact h2
theorem stands_found {s : List UInt8} : ∀ (M : List Nm) (i : Nat), Rising M → Stands s M i → ∀ h : i < M.length, M[i].1 = s → findN s M = some M[i] ∧ dropN s M = M.eraseIdx i
  | [], _, _, _, h, _ => absurd h (by simp)
  | w :: r, 0, hr, hs, _, he => by
    unfold Rising at hr
    rw [List.map_cons, List.pairwise_cons] at hr
    have hw : w.1 = s := he
    refine ⟨by unfold findN; rw [List.find?_cons, show (w.1 == s) = true by simp [hw]]; rfl, ?_⟩
    unfold dropN
    rw [List.filter_cons, show (w.1 != s) = false by simp [hw]]
    simp only [Bool.false_eq_true, if_false, List.eraseIdx_cons_zero]
    exact (drop_above (fun y hy e => by
      have h1 := hr.1 y.1 (List.mem_map_of_mem hy)
      rw [e, hw, bl_irrefl] at h1
      cases h1)).1
  | w :: r, i + 1, hr, hs, h, he => by
    unfold Rising at hr
    rw [List.map_cons, List.pairwise_cons] at hr
    obtain ⟨h0, h1⟩ := stands_tail hs
    have hne : w.1 ≠ s := bl_ne _ _ h0
    obtain ⟨f1, f2⟩ := stands_found r i hr.2 h1 (by simpa using h) he
    refine ⟨?_, ?_⟩
    · unfold findN at f1 ⊢; rw [List.find?_cons, show (w.1 == s) = false by simp [hne]]; exact f1
    · unfold dropN at f2 ⊢; rw [List.filter_cons, show (w.1 != s) = true by simp [hne]]
      simp only [if_true, List.eraseIdx_cons_succ]
      rw [f2]
theorem stands_not {s : List UInt8} : ∀ (M : List Nm) (i : Nat), Rising M → Stands s M i → (¬ ∃ h : i < M.length, M[i].1 = s) → ∀ w ∈ M, w.1 ≠ s
  | [], _, _, _, _, w, hw => by cases hw
  | x :: r, 0, hr, hs, hno, w, hw => by
    unfold Rising at hr
    rw [List.map_cons, List.pairwise_cons] at hr
    have hne : x.1 ≠ s := fun e => hno ⟨by simp, e⟩
    have hb : bl x.1 s = false := hs.2.2 0 (by simp) (Nat.le_refl _)
    have hb2 : bl s x.1 = true := by
      rcases bl_total s x.1 with h | h | h
      · exact h
      · exact absurd h.symm hne
      · rw [hb] at h; cases h
    rcases List.mem_cons.1 hw with rfl | hw
    · exact hne
    · exact Ne.symm (bl_ne _ _ (bl_trans _ _ _ hb2 (hr.1 w.1 (List.mem_map_of_mem hw))))
  | x :: r, i + 1, hr, hs, hno, w, hw => by
    unfold Rising at hr
    rw [List.map_cons, List.pairwise_cons] at hr
    obtain ⟨h0, h1⟩ := stands_tail hs
    rcases List.mem_cons.1 hw with rfl | hw
    · exact bl_ne _ _ h0
    · exact stands_not r i hr.2 h1 (fun ⟨h, e⟩ => hno ⟨by simpa using h, e⟩) w hw
theorem findN_iff {s : List UInt8} {M : List Nm} {i : Nat} (hr : Rising M) (hs : Stands s M i) : (findN s M).isSome = true ↔ ∃ h : i < M.length, M[i].1 = s := by
  by_cases h : ∃ h : i < M.length, M[i].1 = s
  · obtain ⟨h1, h2⟩ := h
    rw [(stands_found M i hr hs h1 h2).1]
    simp
    exact ⟨h1, h2⟩
  · rw [(drop_above (stands_not M i hr hs h)).2]
    simp only [Option.isSome_none, Bool.false_eq_true, false_iff]
    exact h
theorem rising_drop {s : List UInt8} {M : List Nm} (h : Rising M) : Rising (dropN s M) := h.sublist (List.filter_sublist.map _)
theorem mem_insN {s : List UInt8} {id : Int} : ∀ {M : List Nm} {x : Nm}, x ∈ insN s id M ↔ x = (s, id) ∨ x ∈ M
  | [], x => by simp [insN]
  | y :: r, x => by
    have ih := mem_insN (s := s) (id := id) (M := r) (x := x)
    rw [insN]
    split
    · rw [List.mem_cons, ih, List.mem_cons]
      constructor
      · rintro (h | h | h)
        · exact .inr (.inl h)
        · exact .inl h
        · exact .inr (.inr h)
      · rintro (h | h | h)
        · exact .inr (.inl h)
        · exact .inl h
        · exact .inr (.inr h)
    · rw [List.mem_cons, List.mem_cons]
theorem rising_ins {s : List UInt8} {id : Int} : ∀ {M : List Nm}, Rising M → (∀ w ∈ M, w.1 ≠ s) → Rising (insN s id M)
  | [], _, _ => by simp [insN, Rising]
  | y :: r, h, hne => by
    have h' := h
    unfold Rising at h'
    rw [List.map_cons, List.pairwise_cons] at h'
    rw [insN]
    split
    · rename_i hb
      unfold Rising
      rw [List.map_cons, List.pairwise_cons]
      refine ⟨fun a ha => ?_, rising_ins (M := r) h'.2 (fun w hw => hne w (by simp [hw]))⟩
      obtain ⟨x, hx, rfl⟩ := List.mem_map.1 ha
      rcases mem_insN.1 hx with rfl | hx
      · exact hb
      · exact h'.1 x.1 (List.mem_map_of_mem hx)
    · rename_i hb
      have hb2 : bl s y.1 = true := by
        rcases bl_total s y.1 with h2 | h2 | h2
        · exact h2
        · exact absurd h2.symm (hne y (by simp))
        · exact absurd h2 hb
      unfold Rising
      rw [List.map_cons, List.pairwise_cons]
      refine ⟨fun a ha => ?_, h⟩
      rw [List.map_cons] at ha
      rcases List.mem_cons.1 ha with rfl | ha
      · exact hb2
      · exact bl_trans _ _ _ hb2 (h'.1 a ha)
theorem drop_ne {s : List UInt8} {M : List Nm} : ∀ w ∈ dropN s M, w.1 ≠ s := fun w hw => by
  have := (List.mem_filter.1 hw).2
  simpa using this
theorem mem_dropN {s : List UInt8} {M : List Nm} {x : Nm} : x ∈ dropN s M ↔ x ∈ M ∧ x.1 ≠ s := by
  unfold dropN
  rw [List.mem_filter]
  simp
theorem findN_none {s : List UInt8} {M : List Nm} (h : findN s M = none) : ∀ w ∈ M, w.1 ≠ s := fun w hw e => by
  unfold findN at h
  rw [List.find?_eq_none] at h
  exact h w hw (by simp [e])
theorem findN_some {s : List UInt8} {M : List Nm} {x : Nm} (h : findN s M = some x) : x ∈ M ∧ x.1 = s := by
  unfold findN at h
  exact ⟨List.mem_of_find?_eq_some h, by simpa using List.find?_some h⟩
theorem rising_done {M M' : List Nm} {m : Mv} (h : Rising M) (hd : doneN M m = some M') : Rising M' := by
  unfold doneN at hd
  split at hd
  · cases hd
  · split at hd
    · split at hd
      · cases hd
      · rename_i h3
        cases hd
        simp only [not_or, Bool.not_eq_true, Option.isSome_eq_false_iff, Option.isNone_iff_eq_none] at h3
        exact rising_ins h (findN_none h3.1)
    · split at hd
      · split at hd
        · cases hd
        · cases hd; exact rising_drop h
      · split at hd
        · split at hd
          · cases hd
          · split at hd
            · cases hd
            · cases hd; exact rising_ins (rising_drop (rising_drop h)) drop_ne
        · cases hd
#print axioms rising_done
end Go.Proofs.Ytponbponacdhkaa
