/-
  Layer 20: what the document's Add does to the waits, in plain Lean and in memory.
-/
import Derived.Test.YtcbjadmngkednaaCacheRof
import Derived.Test.YtcbjadmngkednaaCacheCopy
import Derived.Test.YtcbjadmngkednaaCacheAdd
import Derived.Maps.AppendAt
namespace Go.Proofs.Ytcbjadmngkednaa
open Go.RowKit

theorem wpList_append_sl_at {P : Program} {w : World} {ops : Array Oper} {rest : List Oper} {o : Oper} {a : Act} {Q : Exit → Act → World → Prop} (hgd : o.guard = none) (s x : Operand) (t : TypeId)
    (ho : o.op = .call { callee := .builtin .append, args := #[s, x], argTypes := #[t, t] })
    (base : Nat) (e : TypeId) {z : Value} {size bytes : Nat} (ht : P.underlying t = some (.slice e)) (hi : (P.info? e).map (fun i => (i.zero, i.size, i.bytes)) = some (some z, size, bytes))
    (hzs : z.cells.size = size) (hsz : 0 < size)
    (v : Value) (n : Nat) (xs : List Value) (hs : a.eval s = v) (hown : w.ownsRow base e size v n xs)
    (ad : Addr) (m c : Nat) (news : List Value) (hx : a.eval x = .slice (some ad) m c) (hsrc : Sl w (some ad) m c size news) (h1 : ∀ u ∈ news, u.oneCell' = true)
    (hbytes : (n + m) * bytes ≤ 140737488355328) (h63 : n + m ≤ maxLen) (hbase : base ≤ w.heap.size)
    (h : ∀ v' w', w'.ownsRow base e size v' (n + m) (xs ++ news) → w.grownBy w' v.ownBlock → (v'.ownBlock = v.ownBlock ∨ v'.ownBlock = some w.heap.size) → wpList P ops Q rest (a.put o.dst v') w') : wpList P ops Q (o :: rest) a w := by
  obtain ⟨i, hi0, hz0, hz1, hz2⟩ := info_parts hi
  refine wpList_append_own_at w hgd s x t ho base e i z size bytes ht hi0 hz0 hz1 hz2 hzs hsz v n xs hs hown ad m c news hx hsrc.len ?_ h1 h63 hbytes hbase (fun v' w' h1 h2 _ h4 => h v' w' h1 h2 h4)
  intro j u hj
  have hlt : j < news.length := (List.getElem?_eq_some_iff.1 hj).1
  have hm : 0 < m := by
    have := hsrc.len
    rcases Nat.eq_zero_or_pos m with h0 | h0
    · subst h0; simp at this; subst this; simp at hlt
    · exact h0
  obtain ⟨b, of, hab, hc⟩ := hsrc.at_ hm
  cases hab
  rw [show (⟨b, of, none⟩ : Addr).add j = ⟨b, of + j, none⟩ by unfold Addr.add; split <;> simp_all]
  rw [hc j hlt, ← hj, List.getElem?_eq_getElem hlt]

/-- What is left to do of the waits: nothing once the point is in. -/
def restW (s : List UInt8) (p : Ar) (put : Bool) (L : List Wt) : List Wt := if put then L else addW s p L
theorem restW_found {s : List UInt8} {p : Ar} {x : Wt} {r : List Wt} {put : Bool} (hs : x.1 = s) (hp : put = true → ∀ y ∈ x :: r, bl s y.1 = true) (hr : ((x :: r).map (·.1)).Pairwise fun a b => bl a b = true) :
    put = false ∧ restW s p put (x :: r) = (s, x.2 ++ [p]) :: restW s p true r ∧ ∀ y ∈ r, bl s y.1 = true := by
  have hput : put = false := by
    cases put with
    | false => rfl
    | true => have := hp rfl x (by simp); rw [hs, bl_irrefl] at this; cases this
  subst hput
  refine ⟨rfl, by simp [restW, addW, hs], fun y hy => ?_⟩
  rw [List.map_cons, List.pairwise_cons] at hr
  rw [← hs]
  exact hr.1 y.1 (List.mem_map_of_mem hy)
theorem restW_put {s : List UInt8} {p : Ar} {x : Wt} {r : List Wt} : restW s p true (x :: r) = x :: restW s p true r := by simp [restW]
theorem restW_before {s : List UInt8} {p : Ar} {x : Wt} {r : List Wt} (hs : x.1 ≠ s) (hb : bl s x.1 = true) (hr : ((x :: r).map (·.1)).Pairwise fun a b => bl a b = true) :
    restW s p false (x :: r) = (s, [p]) :: x :: restW s p true r ∧ ∀ y ∈ r, bl s y.1 = true := by
  refine ⟨by simp [restW, addW, hs, hb], fun y hy => ?_⟩
  rw [List.map_cons, List.pairwise_cons] at hr
  exact bl_trans _ _ _ hb (hr.1 y.1 (List.mem_map_of_mem hy))
theorem restW_past {s : List UInt8} {p : Ar} {x : Wt} {r : List Wt} (hs : x.1 ≠ s) (hb : bl s x.1 = false) : restW s p false (x :: r) = x :: restW s p false r := by simp [restW, addW, hs, hb]

/-- One wait's points change, in their row or in a new block. -/
theorem Wo.replace {w w' : World} {base : Nat} {l1 l2 : List Wh} {x x' : Wh} (h : Wo w base (l1 ++ x :: l2)) (hx : ORow ac 4 w' base 50 (wsl x') x'.1.2) (hg : w.grownBy w' (wsl x).ownBlock)
    (hat : (wsl x').ownBlock = (wsl x).ownBlock ∨ (wsl x').ownBlock = some w.heap.size) : Wo w' base (l1 ++ x' :: l2) := by
  have hap := h.apart
  rw [List.pairwise_append, List.pairwise_cons] at hap
  obtain ⟨p1, ⟨p2, p3⟩, p4⟩ := hap
  have hlt : ∀ y ∈ l1 ++ x :: l2, (wsl y).ownBlock ≠ some w.heap.size := fun y hy he => by
    have := (World.ownsRow.lt (h.own y hy) _ he).2
    omega
  have hy1 : ∀ y ∈ l1, (wsl y).ownBlock = none ∨ (wsl y).ownBlock ≠ (wsl x).ownBlock := fun y hy => by
    rcases p4 y hy x (by simp) with h1 | h1
    · rw [h1]
      cases (wsl y).ownBlock with
      | none => exact .inl rfl
      | some k => exact .inr (by simp)
    · exact .inr (Ne.symm h1)
  have hy2 : ∀ y ∈ l2, (wsl y).ownBlock = none ∨ (wsl y).ownBlock ≠ (wsl x).ownBlock := fun y hy => p2 y hy
  refine ⟨fun y hy => ?_, ?_⟩
  · rcases List.mem_append.1 hy with hy | hy
    · exact World.ownsRow.kept (h.own y (by simp [hy])) hg (hy1 y hy)
    · rcases List.mem_cons.1 hy with rfl | hy
      · exact hx
      · exact World.ownsRow.kept (h.own y (by simp [hy])) hg (hy2 y hy)
  · rw [List.pairwise_append, List.pairwise_cons]
    refine ⟨p1, ⟨fun y hy => ?_, p3⟩, fun y hy z hz => ?_⟩
    · rcases hat with h1 | h1
      · rw [h1]; exact hy2 y hy
      · rw [h1]; exact .inr (hlt y (by simp [hy]))
    · rcases List.mem_cons.1 hz with rfl | hz
      · rcases hat with h1 | h1
        · rw [h1]; exact p4 y hy x (by simp)
        · rw [h1]; exact .inr (Ne.symm (hlt y (by simp [hy])))
      · exact p4 y hy z (by simp [hz])
/-- One more amid the others, in a block that is new. -/
theorem Wo.insert {w w0 : World} {base : Nat} {l1 l2 : List Wh} (h0 : Wo w0 base (l1 ++ l2)) (h : Wo w base (l1 ++ l2)) {x : Wh} (hx : ORow ac 4 w w0.heap.size 50 (wsl x) x.1.2) (hb : base ≤ w0.heap.size) : Wo w base (l1 ++ x :: l2) := by
  have hap := h.apart
  rw [List.pairwise_append] at hap
  obtain ⟨p1, p2, p3⟩ := hap
  have hne : ∀ y ∈ l1 ++ l2, ∀ k, (wsl x).ownBlock = some k → (wsl y).ownBlock ≠ some k := fun y hy k hk he => by
    have h1 := (World.ownsRow.lt hx k hk).1
    have h2 := (World.ownsRow.lt (h0.own y hy) k he).2
    omega
  refine ⟨fun y hy => ?_, ?_⟩
  · rcases List.mem_append.1 hy with hy | hy
    · exact h.own y (by simp [hy])
    · rcases List.mem_cons.1 hy with rfl | hy
      · exact owns_mono hx hb
      · exact h.own y (by simp [hy])
  · rw [List.pairwise_append, List.pairwise_cons]
    refine ⟨p1, ⟨fun y hy => ?_, p2⟩, fun y hy z hz => ?_⟩
    · cases hk : (wsl x).ownBlock with
      | none =>
        cases (wsl y).ownBlock with
        | none => exact .inl rfl
        | some k => exact .inr (by simp)
      | some k => exact .inr (hne y (by simp [hy]) k hk)
    · rcases List.mem_cons.1 hz with rfl | hz
      · cases hk : (wsl z).ownBlock with
        | none => exact .inl rfl
        | some k => exact .inr (Ne.symm (hne y (by simp [hy]) k hk))
      · exact p3 y hy z hz
theorem owns_below {W : World} {b2 : Nat} {e2 : TypeId} {s2 : Nat} {v1 v2 : Value} {n2 : Nat} {x2 : List Value} (h2 : W.ownsRow b2 e2 s2 v2 n2 x2) (hlt : ∀ k, v1.ownBlock = some k → k < b2) : v1.ownBlock = none ∨ v1.ownBlock ≠ v2.ownBlock := by
  cases hk : v1.ownBlock with
  | none => exact .inl rfl
  | some k => exact .inr fun he => by have h3 := hlt k hk; have h4 := (h2.lt k he.symm).1; omega
end Go.Proofs.Ytcbjadmngkednaa
