/-
  A segment as plain Lean: how it is written, how it is scanned; that of a beginning just what is whole in it is scanned. No program in sight.
-/
import Derived.Test.YtkflikfcpdekdaaDoorSegPos
import Derived.Test.YtkflikfcpdekdaaDoorFramePlain
namespace Go.Proofs.YtkflikfcpdekdaaDoor
open Go.RowKit

/-- The record whose frame bytes begin with, and the frame's size. -/
@[irreducible] def nxt (l : List UInt8) : Option (Rec × Nat) :=
  if (frTake l).2.2 = 0 ∧ (segTake (frTake l).1).2 = 0 then some ((segTake (frTake l).1).1, (frTake l).2.1) else none
def recsF : Nat → List UInt8 → List Rec × Nat
  | 0, _ => ([], 0)
  | f + 1, l => match nxt l with
    | none => ([], 0)
    | some (r, m) => if r.kind = 1 then ([], 0) else (r :: (recsF f (l.drop m)).1, m + (recsF f (l.drop m)).2)
/-- The records behind the first, and how many bytes they have. -/
@[irreducible] def recs (l : List UInt8) : List Rec × Nat := recsF l.length l
/-- A segment's scan. -/
@[irreducible] def segScan (l : List UInt8) : Rec × List Rec × Nat × Int :=
  match nxt l with
  | none => (Rec.zero, [], 0, 7)
  | some (r, m) => if r.kind = 1 then (r, (recs (l.drop m)).1, m + (recs (l.drop m)).2, 0) else (Rec.zero, [], 0, 7)
theorem nxt_no1 (l : List UInt8) (h : (frTake l).2.2 ≠ 0) : nxt l = none := by unfold nxt; rw [if_neg (fun hh => h hh.1)]
theorem nxt_no2 (l : List UInt8) (h : (segTake (frTake l).1).2 ≠ 0) : nxt l = none := by unfold nxt; rw [if_neg (fun hh => h hh.2)]
theorem nxt_yes (l : List UInt8) (h1 : (frTake l).2.2 = 0) (h2 : (segTake (frTake l).1).2 = 0) : nxt l = some ((segTake (frTake l).1).1, (frTake l).2.1) := by unfold nxt; rw [if_pos ⟨h1, h2⟩]
theorem nxt_some (l : List UInt8) (r : Rec) (m : Nat) (h : nxt l = some (r, m)) : 7 ≤ m ∧ m ≤ l.length ∧ right r = true ∧ valued r := by
  unfold nxt at h
  have hc := segTake_cases (frTake l).1
  have hv := segTake_valued (frTake l).1
  obtain ⟨y, hy⟩ : ∃ y, segTake (frTake l).1 = y := ⟨_, rfl⟩
  rw [hy] at h hc hv
  split at h
  · rename_i hh
    obtain ⟨h1, h2⟩ := hh
    obtain ⟨q1, q2, -⟩ := frTake_size l h1
    have he := Option.some.inj h
    have e1 : y.1 = r := congrArg Prod.fst he
    have e2 : (frTake l).2.1 = m := congrArg Prod.snd he
    subst e2
    refine ⟨q1, q2, ?_, by rw [← e1]; exact hv⟩
    rcases hc with hc | ⟨-, hc, -⟩
    · rw [hc] at h2; exact absurd h2 (by show ¬ (7 : Int) = 0; decide)
    · rw [← e1]; exact hc
  · cases h
theorem recsF_more (f : Nat) : ∀ (l : List UInt8) (g : Nat), l.length ≤ f → f ≤ g → recsF f l = recsF g l := by
  induction f with
  | zero =>
    intro l g h0 _
    have hl : l = [] := List.eq_nil_of_length_eq_zero (by omega)
    subst hl
    cases g with
    | zero => rfl
    | succ g =>
      have hn : nxt [] = none := by
        cases hq : nxt [] with
        | none => rfl
        | some x => obtain ⟨h1, h2, -⟩ := nxt_some [] x.1 x.2 hq; simp at h2; omega
      show _ = (match nxt [] with | none => _ | some (r, m) => _)
      rw [hn]
      rfl
  | succ f ih =>
    intro l g h1 h2
    cases g with
    | zero => omega
    | succ g =>
      show (match nxt l with | none => _ | some (r, m) => _) = (match nxt l with | none => _ | some (r, m) => _)
      cases hq : nxt l with
      | none => rfl
      | some x =>
        obtain ⟨r, m⟩ := x
        obtain ⟨q1, q2, -⟩ := nxt_some l r m hq
        dsimp only
        rw [ih (l.drop m) g (by rw [List.length_drop]; omega) (by omega)]
theorem recs_step (l : List UInt8) (r : Rec) (m : Nat) (h : nxt l = some (r, m)) (hk : r.kind ≠ 1) : recs l = (r :: (recs (l.drop m)).1, m + (recs (l.drop m)).2) := by
  obtain ⟨q1, q2, -⟩ := nxt_some l r m h
  have hn : recs (l.drop m) = recsF (l.length - 1) (l.drop m) := by
    unfold recs
    exact recsF_more _ _ _ (Nat.le_refl _) (by rw [List.length_drop]; omega)
  rw [hn]
  have hl : l.length = (l.length - 1) + 1 := by omega
  unfold recs
  rw [hl]
  show (match nxt l with | none => _ | some (r, m) => _) = _
  rw [h]
  dsimp only
  rw [if_neg hk]
  rfl
theorem recs_none (l : List UInt8) (h : nxt l = none) : recs l = ([], 0) := by
  unfold recs
  cases hl : l.length with
  | zero => rfl
  | succ f =>
    show (match nxt l with | none => _ | some (r, m) => _) = _
    rw [h]
theorem recs_head (l : List UInt8) (r : Rec) (m : Nat) (h : nxt l = some (r, m)) (hk : r.kind = 1) : recs l = ([], 0) := by
  obtain ⟨q1, q2, -⟩ := nxt_some l r m h
  unfold recs
  cases hl : l.length with
  | zero => omega
  | succ f =>
    show (match nxt l with | none => _ | some (r, m) => _) = _
    rw [h]
    dsimp only
    rw [if_pos hk]
theorem segScan_none (l : List UInt8) (h : nxt l = none) : segScan l = (Rec.zero, [], 0, 7) := by unfold segScan; rw [h]
theorem segScan_other (l : List UInt8) (r : Rec) (m : Nat) (h : nxt l = some (r, m)) (hk : r.kind ≠ 1) : segScan l = (Rec.zero, [], 0, 7) := by unfold segScan; rw [h]; dsimp only; rw [if_neg hk]
theorem segScan_head (l : List UInt8) (r : Rec) (m : Nat) (h : nxt l = some (r, m)) (hk : r.kind = 1) : segScan l = (r, (recs (l.drop m)).1, m + (recs (l.drop m)).2, 0) := by unfold segScan; rw [h]; dsimp only; rw [if_pos hk]

/-! ### What is written -/
theorem segPut_pos (r : Rec) : 0 < (segPut r).length := by unfold segPut; simp
theorem sput_fits (r : Rec) (h : right r = true) : 0 < (segPut r).length ∧ (segPut r).length ≤ 512 := ⟨segPut_pos r, by have := segPut_length r h; omega⟩
theorem frPut_seg (r : Rec) (h : right r = true) : frPut (segPut r) = (frm (segPut r), 0) := by
  obtain ⟨h1, h2⟩ := sput_fits r h
  unfold frPut
  rw [if_neg (by omega), if_neg (by omega)]
theorem nxt_put (r : Rec) (b : List UInt8) (h : right r = true) (hv : valued r) : nxt (frm (segPut r) ++ b) = some (r, (segPut r).length + 6) := by
  obtain ⟨h1, h2⟩ := sput_fits r h
  have ht := frTake_frm (segPut r) b h1 h2
  have hs := segTake_put r h hv
  rw [nxt_yes _ (by rw [ht]) (by rw [ht]; dsimp only; rw [hs]), ht]
  dsimp only
  rw [hs]
theorem nxt_torn (r : Rec) (h : right r = true) (k : Nat) (hk : k < (segPut r).length + 6) : nxt ((frm (segPut r)).take k) = none :=
  nxt_no1 _ (frTake_torn (segPut r) (sput_fits r h).2 k hk)
/-- A record's frame. -/
def sfr (r : Rec) : List UInt8 := frm (segPut r)
theorem sfr_length (r : Rec) : (sfr r).length = (segPut r).length + 6 := frm_length _
/-- May a record stand behind the first? -/
def tailOk (r : Rec) : Prop := right r = true ∧ r.kind ≠ 1 ∧ valued r
/-- The records that are whole among the first 'e' bytes, and how many bytes these have. -/
def wholeR : List Rec → Nat → List Rec × Nat
  | [], _ => ([], 0)
  | r :: L, e => if (sfr r).length ≤ e then (r :: (wholeR L (e - (sfr r).length)).1, (sfr r).length + (wholeR L (e - (sfr r).length)).2) else ([], 0)
theorem wholeR_cons (r : Rec) (L : List Rec) (e : Nat) : wholeR (r :: L) e = if (sfr r).length ≤ e then (r :: (wholeR L (e - (sfr r).length)).1, (sfr r).length + (wholeR L (e - (sfr r).length)).2) else ([], 0) := rfl
theorem recs_whole : ∀ (L : List Rec) (e : Nat), (∀ r ∈ L, tailOk r) → recs (((L.map sfr).flatten).take e) = wholeR L e
  | [], e, _ => by
    rw [recs_none]
    · rfl
    · cases hq : nxt _ with
      | none => rfl
      | some x => obtain ⟨h1, h2, -⟩ := nxt_some _ x.1 x.2 hq; simp at h2; omega
  | r :: L, e, h => by
    have ih := fun e => recs_whole L e (fun q hq => h q (by simp [hq]))
    obtain ⟨h1, h2, h3⟩ := h r (by simp)
    have hl := sfr_length r
    rw [wholeR_cons, List.map_cons, List.flatten_cons]
    by_cases he : (sfr r).length ≤ e
    · rw [if_pos he, List.take_append, List.take_of_length_le he]
      have hn : nxt (sfr r ++ ((L.map sfr).flatten).take (e - (sfr r).length)) = some (r, (sfr r).length) := by rw [hl]; exact nxt_put r _ h1 h3
      rw [recs_step _ r _ hn h2]
      have hd : (sfr r ++ ((L.map sfr).flatten).take (e - (sfr r).length)).drop (sfr r).length = ((L.map sfr).flatten).take (e - (sfr r).length) := List.drop_left
      rw [hd, ih]
    · rw [if_neg he, List.take_append, show e - (sfr r).length = 0 by omega, List.take_zero, List.append_nil]
      exact recs_none _ (nxt_torn r h1 e (by omega))
theorem wholeR_all : ∀ (L : List Rec), wholeR L ((L.map sfr).flatten).length = (L, ((L.map sfr).flatten).length)
  | [] => rfl
  | r :: L => by
    have ih := wholeR_all L
    rw [wholeR_cons, List.map_cons, List.flatten_cons, List.length_append, if_pos (by omega), show (sfr r).length + ((L.map sfr).flatten).length - (sfr r).length = ((L.map sfr).flatten).length by omega, ih]
/-- A segment. -/
def segAll (h : Rec) (L : List Rec) : List UInt8 := sfr h ++ (L.map sfr).flatten
theorem segScan_beginning (h : Rec) (L : List Rec) (e : Nat) (hh : right h = true) (hk : h.kind = 1) (hv : valued h) (hL : ∀ r ∈ L, tailOk r) :
    segScan ((segAll h L).take e) = if (sfr h).length ≤ e then (h, (wholeR L (e - (sfr h).length)).1, (sfr h).length + (wholeR L (e - (sfr h).length)).2, 0) else (Rec.zero, [], 0, 7) := by
  unfold segAll
  by_cases he : (sfr h).length ≤ e
  · rw [if_pos he, List.take_append, List.take_of_length_le he]
    have hn : nxt (sfr h ++ ((L.map sfr).flatten).take (e - (sfr h).length)) = some (h, (sfr h).length) := by rw [sfr_length]; exact nxt_put h _ hh hv
    rw [segScan_head _ h _ hn hk]
    have hd : (sfr h ++ ((L.map sfr).flatten).take (e - (sfr h).length)).drop (sfr h).length = ((L.map sfr).flatten).take (e - (sfr h).length) := List.drop_left
    rw [hd, recs_whole L _ hL]
  · rw [if_neg he, List.take_append, show e - (sfr h).length = 0 by omega, List.take_zero, List.append_nil]
    exact segScan_none _ (nxt_torn h hh e (by have := sfr_length h; omega))
theorem segScan_all (h : Rec) (L : List Rec) (hh : right h = true) (hk : h.kind = 1) (hv : valued h) (hL : ∀ r ∈ L, tailOk r) :
    segScan (segAll h L) = (h, L, (segAll h L).length, 0) := by
  have h1 := segScan_beginning h L (segAll h L).length hh hk hv hL
  rw [List.take_of_length_le (Nat.le_refl _)] at h1
  have hl : (segAll h L).length = (sfr h).length + ((L.map sfr).flatten).length := by unfold segAll; rw [List.length_append]
  rw [h1, if_pos (by omega), show (segAll h L).length - (sfr h).length = ((L.map sfr).flatten).length by omega, wholeR_all, hl]
end Go.Proofs.YtkflikfcpdekdaaDoor
