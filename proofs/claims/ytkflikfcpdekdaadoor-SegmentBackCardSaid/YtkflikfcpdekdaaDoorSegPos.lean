/-
  A record read off a payload by places: of what was put it reads what was put. No program in sight.
-/
import Derived.Test.YtkflikfcpdekdaaDoorSegPlain
namespace Go.Proofs.YtkflikfcpdekdaaDoor
open Go.RowKit

/-- The number of so many bytes at a place. -/
def rdAt (p : List UInt8) (at_ w : Nat) : Nat := rdn ((p.drop at_).take w)
/-- The archives at a place, as many as there are bytes for. -/
def rgAt (p : List UInt8) : Nat → Nat → List (Int × Int)
  | _, 0 => []
  | at_, k + 1 => ((rdAt p at_ 4 : Int), (rdAt p (at_ + 4) 2 : Int)) :: rgAt p (at_ + 6) k
/-- A head's places. -/
def posHead (p : List UInt8) : Option Rec :=
  if p.length < 3 then none
  else if p.length < 3 + rdAt p 1 2 + 6 then none
  else if p.length < 3 + rdAt p 1 2 + 6 + 6 * (rdAt p (3 + rdAt p 1 2 + 5) 1) then none
  else some ⟨1, (p.drop 3).take (rdAt p 1 2), rdAt p (3 + rdAt p 1 2) 1, rdAt p (3 + rdAt p 1 2 + 1) 4, rgAt p (3 + rdAt p 1 2 + 6) (rdAt p (3 + rdAt p 1 2 + 5) 1), 0, 0, 0, 0⟩
/-- A payload's places: a record, which may not be right. -/
def posTake (p : List UInt8) : Option Rec :=
  match p with
  | [] => none
  | x :: _ =>
    if x = 1 then posHead p
    else if x = 2 then (if p.length = 25 then some ⟨2, [], 0, 0, [], 0, wrap64 (rdAt p 1 8), wrap64 (rdAt p 9 8), wrap64 (rdAt p 17 8)⟩ else none)
    else if x = 3 then (if p.length = 18 then some ⟨3, [], 0, 0, [], rdAt p 1 1, wrap64 (rdAt p 2 8), 0, wrap64 (rdAt p 10 8)⟩ else none)
    else some ⟨x.toNat, [], 0, 0, [], 0, 0, 0, 0⟩

theorem rdAt_mid (a b c : List UInt8) (n : Nat) (hn : a.length = n) : rdAt (a ++ (b ++ c)) n b.length = rdn b := by
  subst hn
  unfold rdAt
  rw [List.drop_left, List.take_left]
theorem rdAt_le (a c p : List UInt8) (w n : Nat) (v : Int) (hp : p = a ++ (le w v ++ c)) (hn : a.length = n) (h0 : 0 ≤ v) (h1 : v < 256 ^ w) : (rdAt p n w : Int) = v := by
  subst hp
  have := rdAt_mid a (le w v) c n hn
  rw [le_length] at this
  rw [this, rdn_le w v h0 h1]
theorem rdAt_le8 (a c p : List UInt8) (n : Nat) (v : Int) (hp : p = a ++ (le 8 v ++ c)) (hn : a.length = n) (h : fits 8 v) : wrap64 (rdAt p n 8) = v := by
  subst hp
  have := rdAt_mid a (le 8 v) c n hn
  rw [le_length] at this
  rw [this]
  have h2 := num_le 8 v h
  exact h2
theorem rgAt_put (l : List (Int × Int)) (a c p : List UInt8) (n : Nat) (hp : p = a ++ ((l.map rungPut).flatten ++ c)) (hn : a.length = n) (h : ∀ x ∈ l, rungOk x = true) : rgAt p n l.length = l := by
  induction l generalizing a n with
  | nil => rfl
  | cons x l ih =>
    have hx := h x (by simp)
    simp only [rungOk, Bool.and_eq_true, decide_eq_true_eq] at hx
    have e : p = a ++ (le 4 x.1 ++ (le 2 x.2 ++ ((l.map rungPut).flatten ++ c))) := by rw [hp]; simp [rungPut]
    have e2 : p = (a ++ le 4 x.1) ++ (le 2 x.2 ++ ((l.map rungPut).flatten ++ c)) := by rw [e]; simp
    have e3 : p = (a ++ (le 4 x.1 ++ le 2 x.2)) ++ ((l.map rungPut).flatten ++ c) := by rw [e]; simp
    show ((rdAt p n 4 : Int), (rdAt p (n + 4) 2 : Int)) :: rgAt p (n + 6) l.length = x :: l
    rw [rdAt_le a _ p 4 n x.1 e hn (by omega) (by show x.1 < 4294967296; omega), rdAt_le _ _ p 2 (n + 4) x.2 e2 (by rw [List.length_append, le_length]; omega) (by omega) (by show x.2 < 65536; omega),
      ih _ (n + 6) e3 (by rw [List.length_append, List.length_append, le_length, le_length]; omega) (fun y hy => h y (by simp [hy]))]
theorem rungs_put_length (l : List (Int × Int)) : (l.map rungPut).flatten.length = 6 * l.length := by
  induction l with
  | nil => rfl
  | cons x l ih => simp only [List.map_cons, List.flatten_cons, List.length_append, ih, List.length_cons, rungPut, le_length]; omega
theorem posHead_put (r : Rec) (hk : r.kind = 1) (h : right r = true) : posHead (segPut r) = some r := by
  obtain ⟨h1, h2, h3, h4, h5, h6, h7, h8, h9, h10, h11, h12, h13⟩ := right1 r hk h
  have e0 := segPut1 r hk
  obtain ⟨p, hp⟩ : ∃ p, segPut r = p := ⟨_, rfl⟩
  rw [hp] at e0 ⊢
  have e1 : p = [1] ++ (le 2 r.path.length ++ (r.path ++ (le 1 r.method ++ (le 4 r.factor ++ (le 1 r.rungs.length ++ (r.rungs.map rungPut).flatten))))) := e0
  have e2 : p = ([1] ++ le 2 r.path.length) ++ (r.path ++ (le 1 r.method ++ (le 4 r.factor ++ (le 1 r.rungs.length ++ (r.rungs.map rungPut).flatten)))) := by rw [e1]; simp
  have e3 : p = ([1] ++ le 2 r.path.length ++ r.path) ++ (le 1 r.method ++ (le 4 r.factor ++ (le 1 r.rungs.length ++ (r.rungs.map rungPut).flatten))) := by rw [e1]; simp
  have e4 : p = ([1] ++ le 2 r.path.length ++ r.path ++ le 1 r.method) ++ (le 4 r.factor ++ (le 1 r.rungs.length ++ (r.rungs.map rungPut).flatten)) := by rw [e1]; simp
  have e5 : p = ([1] ++ le 2 r.path.length ++ r.path ++ le 1 r.method ++ le 4 r.factor) ++ (le 1 r.rungs.length ++ (r.rungs.map rungPut).flatten) := by rw [e1]; simp
  have e6 : p = ([1] ++ le 2 r.path.length ++ r.path ++ le 1 r.method ++ le 4 r.factor ++ le 1 r.rungs.length) ++ ((r.rungs.map rungPut).flatten ++ []) := by rw [e1]; simp
  have q1 := rdAt_le _ _ p 2 1 r.path.length e1 rfl (by omega) (by show _ < (65536 : Int); omega)
  have q1' : rdAt p 1 2 = r.path.length := by omega
  have q2 := rdAt_le _ _ p 1 (3 + r.path.length) r.method e3 (by simp [le_length]; omega) (by omega) (by show _ < (256 : Int); omega)
  have q3 := rdAt_le _ _ p 4 (3 + r.path.length + 1) r.factor e4 (by simp [le_length]; omega) (by omega) (by show _ < (4294967296 : Int); omega)
  have q4 := rdAt_le _ _ p 1 (3 + r.path.length + 5) r.rungs.length e5 (by simp [le_length]; omega) (by omega) (by show _ < (256 : Int); omega)
  have q4' : rdAt p (3 + r.path.length + 5) 1 = r.rungs.length := by omega
  have q5 := rgAt_put r.rungs _ _ p (3 + r.path.length + 6) e6 (by simp [le_length]; omega) h13
  have q6 : (p.drop 3).take r.path.length = r.path := by
    rw [e2, show 3 = ([1] ++ le 2 (r.path.length : Int)).length by simp [le_length], List.drop_left, List.take_left]
  have hl : p.length = 3 + r.path.length + 6 + 6 * r.rungs.length := by
    rw [e1]
    simp only [List.length_append, le_length, rungs_put_length, List.length_cons, List.length_nil]
    omega
  unfold posHead
  rw [q1', q4', hl, if_neg (by omega), if_neg (by omega), if_neg (by omega), q2, q3, q5, q6]
  cases r
  simp only at hk h1 h2 h3 h4
  subst hk h1 h2 h3 h4
  rfl
theorem posTake_put (r : Rec) (h : right r = true) (hv : valued r) : posTake (segPut r) = some r := by
  rcases right_kind r h with hk | hk | hk
  · have h0 := posHead_put r hk h
    rw [segPut1 r hk] at h0 ⊢
    unfold posTake
    dsimp only
    rw [if_pos rfl]
    exact h0
  · obtain ⟨h1, h2, h3, h4, h5, h6, h7, h8, h9, h10⟩ := right2 r hk h
    have e0 := segPut2 r hk
    have hl : (segPut r).length = 25 := by rw [e0]; simp [le_length]
    have e1 : segPut r = [2] ++ (le 8 r.time ++ (le 8 r.now ++ le 8 r.value)) := e0
    have e2 : segPut r = ([2] ++ le 8 r.time) ++ (le 8 r.now ++ le 8 r.value) := by rw [e1]; simp
    have e3 : segPut r = ([2] ++ le 8 r.time ++ le 8 r.now) ++ (le 8 r.value ++ []) := by rw [e1]; simp
    have q1 := rdAt_le8 _ _ _ 1 r.time e1 rfl (fits8 _ (by omega) (by omega))
    have q2 := rdAt_le8 _ _ _ 9 r.now e2 (by simp [le_length]) (fits8 _ (by omega) (by omega))
    have q3 := rdAt_le8 _ _ _ 17 r.value e3 (by simp [le_length]) (fits8 _ hv.1 hv.2)
    obtain ⟨p, hp⟩ : ∃ p, segPut r = p := ⟨_, rfl⟩
    rw [hp] at e0 q1 q2 q3 hl ⊢
    have hpt : posTake p = if p.length = 25 then some ⟨2, [], 0, 0, [], 0, wrap64 (rdAt p 1 8), wrap64 (rdAt p 9 8), wrap64 (rdAt p 17 8)⟩ else none := by
      rw [e0]; unfold posTake; dsimp only; rw [if_neg (by decide), if_pos rfl]
    rw [hpt, if_pos hl, q1, q2, q3]
    cases r
    simp only at hk h1 h2 h3 h4 h5
    subst hk h1 h2 h3 h4 h5
    rfl
  · obtain ⟨h1, h2, h3, h4, h5, h6, h7, h8, h9, h10⟩ := right3 r hk h
    have e0 := segPut3 r hk
    have hl : (segPut r).length = 18 := by rw [e0]; simp [le_length]
    have e1 : segPut r = [3] ++ (le 1 r.rung ++ (le 8 r.time ++ le 8 r.value)) := e0
    have e2 : segPut r = ([3] ++ le 1 r.rung) ++ (le 8 r.time ++ le 8 r.value) := by rw [e1]; simp
    have e3 : segPut r = ([3] ++ le 1 r.rung ++ le 8 r.time) ++ (le 8 r.value ++ []) := by rw [e1]; simp
    have q1 := rdAt_le _ _ _ 1 1 r.rung e1 rfl (by omega) (by show _ < (256 : Int); omega)
    have q2 := rdAt_le8 _ _ _ 2 r.time e2 (by simp [le_length]) (fits8 _ (by omega) (by omega))
    have q3 := rdAt_le8 _ _ _ 10 r.value e3 (by simp [le_length]) (fits8 _ hv.1 hv.2)
    obtain ⟨p, hp⟩ : ∃ p, segPut r = p := ⟨_, rfl⟩
    rw [hp] at e0 q1 q2 q3 hl ⊢
    have hpt : posTake p = if p.length = 18 then some ⟨3, [], 0, 0, [], rdAt p 1 1, wrap64 (rdAt p 2 8), 0, wrap64 (rdAt p 10 8)⟩ else none := by
      rw [e0]; unfold posTake; dsimp only; rw [if_neg (by decide), if_neg (by decide), if_pos rfl]
    rw [hpt, if_pos hl, q1, q2, q3]
    cases r
    simp only at hk h1 h2 h3 h4 h5
    subst hk h1 h2 h3 h4 h5
    rfl
/-- Read by places, and put again. -/
def refOf (p : List UInt8) : Option Rec → Rec × Int
  | none => (Rec.zero, 7)
  | some r => if right r = true ∧ segPut r = p then (r, 0) else (Rec.zero, 7)
def refTake (p : List UInt8) : Rec × Int := refOf p (posTake p)
/-- Such a record's value is a number of 64 bits with a sign. -/
theorem posTake_valued (p : List UInt8) (r : Rec) (h : posTake p = some r) : valued r := by
  have hw : ∀ v : Int, -9223372036854775808 ≤ wrap64 v ∧ wrap64 v ≤ 9223372036854775807 := fun v => by unfold wrap64; omega
  unfold posTake at h
  split at h
  · cases h
  · split at h
    · unfold posHead at h
      split at h
      · cases h
      · split at h
        · cases h
        · split at h
          · cases h
          · cases h; exact ⟨by show _ ≤ (0 : Int); omega, by show (0 : Int) ≤ _; omega⟩
    · split at h
      · split at h
        · cases h; exact hw _
        · cases h
      · split at h
        · split at h
          · cases h; exact hw _
          · cases h
        · cases h; exact ⟨by show _ ≤ (0 : Int); omega, by show (0 : Int) ≤ _; omega⟩
theorem segTake_valued (p : List UInt8) : valued (segTake p).1 := by
  have hw : ∀ v : Int, -9223372036854775808 ≤ wrap64 v ∧ wrap64 v ≤ 9223372036854775807 := fun v => by unfold wrap64; omega
  have hn : ∀ w s, -9223372036854775808 ≤ (rdNum w s).1 ∧ (rdNum w s).1 ≤ 9223372036854775807 := fun w s => hw _
  have h0 : valued Rec.zero := ⟨by show _ ≤ (0 : Int); omega, by show (0 : Int) ≤ _; omega⟩
  have hr : ∀ k s, valued (rdRest k s).1 := by
    intro k s
    unfold rdRest
    split
    · obtain ⟨n, q, m, f, k, l, e1, e2, e3, e4, e5, e6, he⟩ := rdHead_eq s
      rw [he]
      exact ⟨by show _ ≤ (0 : Int); omega, by show (0 : Int) ≤ _; omega⟩
    · split
      · unfold rdPoint
        exact hn 8 _
      · split
        · unfold rdSlot
          exact hn 8 _
        · exact ⟨by show _ ≤ (0 : Int); omega, by show (0 : Int) ≤ _; omega⟩
  obtain ⟨x, hx⟩ : ∃ x, rdAll p = x := ⟨_, rfl⟩
  rw [segTake_def p x hx]
  split
  · exact h0
  · have h3 := hr (rdNum 1 (p, false)).1 (rdNum 1 (p, false)).2
    have h4 : rdRest (rdNum 1 (p, false)).1 (rdNum 1 (p, false)).2 = x := by rw [← hx]; rfl
    rw [h4] at h3
    exact h3
/-- The two readers answer alike. -/
theorem refTake_eq (p : List UInt8) : refTake p = segTake p := by
  have h0 := segTake_cases p
  have hv := segTake_valued p
  have hp := fun r h h2 => posTake_put r h h2
  have ht := fun r h h2 => segTake_put r h h2
  obtain ⟨q, hq⟩ : ∃ q, posTake p = q := ⟨_, rfl⟩
  have hqv := fun r (h : q = some r) => posTake_valued p r (hq.trans h)
  unfold refTake
  rw [hq]
  obtain ⟨x, hx⟩ : ∃ x, segTake p = x := ⟨_, rfl⟩
  rw [hx] at h0 hv ⊢
  obtain ⟨x1, x2⟩ := x
  dsimp only at h0 hv
  rcases h0 with h | ⟨h1, h2, h3⟩
  · rw [h]
    cases q with
    | none => rfl
    | some r =>
      show (if right r = true ∧ segPut r = p then (r, (0 : Int)) else (Rec.zero, 7)) = _
      by_cases hc : right r = true ∧ segPut r = p
      · have h4 := ht r hc.1 (hqv r rfl)
        rw [hc.2, hx, h] at h4
        have h5 : (7 : Int) = 0 := congrArg Prod.snd h4
        exact absurd h5 (by decide)
      · rw [if_neg hc]
  · have h4 := hp x1 h2 hv
    rw [h3, hq] at h4
    subst h4
    show (if right x1 = true ∧ segPut x1 = p then (x1, (0 : Int)) else (Rec.zero, 7)) = _
    rw [if_pos ⟨h2, h3⟩, h1]
end Go.Proofs.YtkflikfcpdekdaaDoor
