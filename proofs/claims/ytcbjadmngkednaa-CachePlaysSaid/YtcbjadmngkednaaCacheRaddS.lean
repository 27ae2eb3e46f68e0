/-
  Layer 20: the state of the document's Add between two waits.
-/
import Derived.Test.YtcbjadmngkednaaCacheRadd
namespace Go.Proofs.Ytcbjadmngkednaa
open Go.RowKit

/-- out is done, rest is to do; p lies in P, x in B, x's waits in xv. -/
structure RS (w wr : World) (sv rv xc pc : Array Value) (xs : Value) (base B P : Nat) (M3 out rest : List Wh) (ov : Value) : Prop where
  sb : wr.heap[w.heap.size + 1]? = some (.cells sv 26 (0, 0))
  res : wr.heap[w.heap.size + 1 + 1]? = some (.cells rv 24 (0, 0))
  xb : wr.heap[B]? = some (.cells xc 24 (0, 0))
  pb : wr.heap[P]? = some (.cells pc 50 (0, 0))
  row : ORow wc 2 wr base 59 xs M3
  lt : ∀ k, xs.ownBlock = some k → k < P + 1
  own : ORow wc 2 wr (P + 1) 59 ov out
  wo : Wo wr base (out ++ rest)
  ne : ∀ x ∈ out ++ rest, (wsl x).ownBlock ≠ some P
  ext : Ext w wr
  sz : P < wr.heap.size
  hb : w.heap.size ≤ base
  hp : base ≤ P

variable {w wr w' : World} {sv rv xc pc : Array Value} {xs ov : Value} {base B P : Nat} {M3 out rest : List Wh}
theorem RS.more (h : RS w wr sv rv xc pc xs base B P M3 out rest ov) (hx : Ext wr w') : RS w w' sv rv xc pc xs base B P M3 out rest ov :=
  ⟨(hx.block _ (lt_of_block h.sb)).trans h.sb, (hx.block _ (lt_of_block h.res)).trans h.res, (hx.block _ (lt_of_block h.xb)).trans h.xb, (hx.block _ (lt_of_block h.pb)).trans h.pb,
    h.row.ext hx, h.lt, h.own.ext hx, h.wo.ext hx, h.ne, h.ext.trans hx, Nat.lt_of_lt_of_le h.sz hx.size, h.hb, h.hp⟩
theorem RS.snoc {x : Wh} {ov' : Value} (h : RS w wr sv rv xc pc xs base B P M3 out (x :: rest) ov) (ho : w'.ownsRow (P + 1) 59 2 ov' (out.length + 1) (rcells wc out ++ wc x)) (hg : wr.grownBy w' ov.ownBlock) :
    RS w w' sv rv xc pc xs base B P M3 (out ++ [x]) rest ov' := by
  have hoo : ORow wc 2 w' (P + 1) 59 ov' (out ++ [x]) := by
    unfold ORow
    rw [rcells_append, rcells_one, List.length_append]
    exact ho
  refine ⟨block_beside h.own hg h.sb (by decide), block_beside h.own hg h.res (by decide), block_beside h.own hg h.xb (by decide), block_beside h.own hg h.pb (by decide),
    World.ownsRow.kept h.row hg (owns_below h.own h.lt), h.lt, hoo, ?_, ?_, h.ext.grown hg (fun k e => by have := owns_row h.own k e; have := h.hb; have := h.hp; omega), Nat.lt_of_lt_of_le h.sz hg.size, h.hb, h.hp⟩
  · have := Wo.grown h.wo h.own (by decide) hg
    simpa using this
  · have := h.ne
    simpa using this
theorem RS.replace {x x' : Wh} (h : RS w wr sv rv xc pc xs base B P M3 out (x :: rest) ov) (hx : ORow ac 4 w' base 50 (wsl x') x'.1.2) (hg : wr.grownBy w' (wsl x).ownBlock)
    (hat : (wsl x').ownBlock = (wsl x).ownBlock ∨ (wsl x').ownBlock = some wr.heap.size) : RS w w' sv rv xc pc xs base B P M3 out (x' :: rest) ov := by
  have hm : x ∈ out ++ x :: rest := by simp
  have ho := h.wo.own x hm
  refine ⟨block_beside ho hg h.sb (by decide), block_beside ho hg h.res (by decide), block_beside ho hg h.xb (by decide), (hg.block P h.sz (Ne.symm (h.ne x hm))).trans h.pb,
    World.ownsRow.kept h.row hg (owns_apart h.row ho (by decide)), h.lt, World.ownsRow.kept h.own hg (owns_apart h.own ho (by decide)), h.wo.replace hx hg hat, ?_, h.ext.grown hg (fun k e => by have := owns_row ho k e; have := h.hb; omega), Nat.lt_of_lt_of_le h.sz hg.size, h.hb, h.hp⟩
  intro y hy
  rcases List.mem_append.1 hy with hy | hy
  · exact h.ne y (by simp [hy])
  · rcases List.mem_cons.1 hy with rfl | hy
    · rcases hat with h1 | h1
      · rw [h1]; exact h.ne x hm
      · rw [h1]; have := h.sz; intro he; cases he; omega
    · exact h.ne y (by simp [hy])
theorem RS.insert {x : Wh} (h : RS w wr sv rv xc pc xs base B P M3 out rest ov) (hx : Ext wr w') (ho : ORow ac 4 w' wr.heap.size 50 (wsl x) x.1.2) : RS w w' sv rv xc pc xs base B P M3 out (x :: rest) ov := by
  have h2 := h.more hx
  refine ⟨h2.sb, h2.res, h2.xb, h2.pb, h2.row, h2.lt, h2.own, Wo.insert h.wo h2.wo ho (by have := h.sz; have := h.hp; omega), ?_, h2.ext, h2.sz, h2.hb, h2.hp⟩
  intro y hy
  rcases List.mem_append.1 hy with hy | hy
  · exact h.ne y (by simp [hy])
  · rcases List.mem_cons.1 hy with rfl | hy
    · intro he
      have := (World.ownsRow.lt ho _ he).1
      have := h.sz
      omega
    · exact h.ne y (by simp [hy])
/-- The wait in hand, in a block of the round's own, is written. -/
theorem RS.boxed {b : Nat} {cs : Array Value} (h : RS w wr sv rv xc pc xs base B P M3 out rest ov) (hb : wr.heap[b]? = some (.cells cs 59 (0, 0))) (hP : P < b) (ho : ov.ownBlock ≠ some b) (k : Nat) (u : Value) :
    RS w (wr.setCell ⟨b, k, none⟩ u) sv rv xc pc xs base B P M3 out rest ov := by
  have hg := put_grownBy wr b k u
  have hne : ∀ {j : Nat} {cs2 : Array Value} {e : TypeId}, e ≠ 59 → wr.heap[j]? = some (.cells cs2 e (0, 0)) → (wr.setCell ⟨b, k, none⟩ u).heap[j]? = some (.cells cs2 e (0, 0)) := fun {j cs2 e} he hj => by
    refine (hg.block j (lt_of_block hj) (fun e2 => ?_)).trans hj
    cases e2
    rw [hb] at hj
    cases hj
    exact he rfl
  refine ⟨hne (by decide) h.sb, hne (by decide) h.res, hne (by decide) h.xb, hne (by decide) h.pb, owns_beside h.row (fun he => by have := h.lt _ he; omega) hg, h.lt, owns_beside h.own ho hg, Wo.beside h.wo hb (by decide) hg, h.ne, h.ext.grown hg (fun k e => by cases e; have := h.hb; have := h.hp; omega), Nat.lt_of_lt_of_le h.sz hg.size, h.hb, h.hp⟩
end Go.Proofs.Ytcbjadmngkednaa
