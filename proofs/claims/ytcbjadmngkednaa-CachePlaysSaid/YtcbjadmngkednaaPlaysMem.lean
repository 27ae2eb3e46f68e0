/-
  Layer 20: how a play lies in memory: the cache's box, and the five rows of values that wait.
-/
import Derived.Test.YtcbjadmngkednaaPlaysPlain
import Derived.Test.YtcbjadmngkednaaCacheRaddS
import Derived.Test.YtcbjadmngkednaaLaw20e
namespace Go.Proofs.Ytcbjadmngkednaa
open Go.RowKit

def qc (v : Int) : List Value := [.int .i64 v]
theorem qc_len (v : Int) : (qc v).length = 1 := rfl
theorem rc_qc (l : List Int) : rcells qc l = l.map (Value.int .i64) := by
  induction l with
  | nil => rfl
  | cons x l ih => rw [rcells_cons, ih]; rfl
abbrev IRow (w : World) (base : Nat) (v : Value) (l : List Int) : Prop := ORow qc 1 w base 2 v l
/-- The box of the cache holds cs, that of the waits the rows r; the cache in hand lies at a. -/
structure PlS (w wr : World) (Bc Bv : Nat) (cs : Array Value) (a : Option Addr) (n c : Nat) (M : List Wh) (r : Nat → Value) (V : Nat → List Int) : Prop where
  cb : wr.heap[Bc]? = some (.cells cs 24 (0, 0))
  vb : wr.heap[Bv]? = some (.cells #[r 0, r 1, r 2, r 3, r 4] 40 (0, 0))
  cw : Cw wr a n c M
  avc : Av Bc a M
  avv : Av Bv a M
  own : ∀ p, p < 5 → IRow wr w.heap.size (r p) (V p)
  apart : ∀ p q, p < 5 → q < 5 → p ≠ q → (r p).ownBlock = none ∨ (r p).ownBlock ≠ (r q).ownBlock
  avr : ∀ p, p < 5 → ∀ k, (r p).ownBlock = some k → Av k a M
  ext : Ext w wr
  bc : w.heap.size ≤ Bc
  bv : w.heap.size ≤ Bv

variable {w wr w' : World} {Bc Bv : Nat} {cs : Array Value} {a : Option Addr} {n c : Nat} {M : List Wh} {r : Nat → Value} {V : Nat → List Int}
theorem PlS.more (h : PlS w wr Bc Bv cs a n c M r V) (hx : Ext wr w') : PlS w w' Bc Bv cs a n c M r V :=
  ⟨(hx.block _ (lt_of_block h.cb)).trans h.cb, (hx.block _ (lt_of_block h.vb)).trans h.vb, h.cw.ext hx, h.avc, h.avv, fun p hp => (h.own p hp).ext hx, h.apart, h.avr, h.ext.trans hx, h.bc, h.bv⟩
theorem PlS.hand (h : PlS w wr Bc Bv cs a n c M r V) (hx : Ext wr w') {a2 : Option Addr} {n2 c2 : Nat} {M2 : List Wh} (hc : Cw w' a2 n2 c2 M2) (hav : ∀ B, B < wr.heap.size → Av B a M → Av B a2 M2) : PlS w w' Bc Bv cs a2 n2 c2 M2 r V :=
  ⟨(hx.block _ (lt_of_block h.cb)).trans h.cb, (hx.block _ (lt_of_block h.vb)).trans h.vb, hc, hav _ (lt_of_block h.cb) h.avc, hav _ (lt_of_block h.vb) h.avv, fun p hp => (h.own p hp).ext hx, h.apart,
    fun p hp k hk => hav k (World.ownsRow.lt (h.own p hp) k hk).2 (h.avr p hp k hk), h.ext.trans hx, h.bc, h.bv⟩
theorem PlS.put {v0 v1 v2 v3 : Value} (h : PlS w wr Bc Bv #[v0, v1, v2, v3] a n c M r V) (u0 u1 u2 u3 : Value) : PlS w (put4 wr Bc u0 u1 u2 u3) Bc Bv #[u0, u1, u2, u3] a n c M r V := by
  have hg := put4_grownBy wr Bc u0 u1 u2 u3
  refine ⟨put4_block h.cb u0 u1 u2 u3, (hg.block _ (lt_of_block h.vb) (fun e => ?_)).trans h.vb, ⟨h.cw.rd.past h.avc hg, h.cw.len, h.cw.tot, h.cw.paths⟩, h.avc, h.avv,
    fun p hp => owns_beside (h.own p hp) (owns_other (h.own p hp) h.cb (by decide)) hg, h.apart, h.avr, h.ext.grown hg (fun k e => by cases e; exact h.bc), h.bc, h.bv⟩
  have h1 := h.vb
  have h2 := h.cb
  cases e
  rw [h2] at h1
  cases h1
theorem PlS.recast {V' : Nat → List Int} (h : PlS w wr Bc Bv cs a n c M r V) (he : ∀ q, q < 5 → V' q = V q) : PlS w wr Bc Bv cs a n c M r V' :=
  ⟨h.cb, h.vb, h.cw, h.avc, h.avv, fun p hp => by rw [he p hp]; exact h.own p hp, h.apart, h.avr, h.ext, h.bc, h.bv⟩
/-- A row of the waits is another one. -/
def rput (r : Nat → Value) (p : Nat) (v : Value) : Nat → Value := fun q => if q = p then v else r q
def vput (V : Nat → List Int) (p : Nat) (l : List Int) : Nat → List Int := fun q => if q = p then l else V q
theorem rput_box (r : Nat → Value) {p : Nat} (hp : p < 5) (v : Value) : (#[r 0, r 1, r 2, r 3, r 4] : Array Value).setIfInBounds p v = #[rput r p v 0, rput r p v 1, rput r p v 2, rput r p v 3, rput r p v 4] := by
  match p, hp with
  | 0, _ | 1, _ | 2, _ | 3, _ | 4, _ => rfl
theorem PlS.row {h : PlS w wr Bc Bv cs a n c M r V} {p : Nat} (hp : p < 5) : wr.cell? ⟨Bv, p, none⟩ = some (r p) := by
  have h1 := h.vb
  match p, hp with
  | 0, _ | 1, _ | 2, _ | 3, _ | 4, _ => simp [World.cell?, h1]
theorem PlS.thaw (h : PlS w wr Bc Bv cs a n c M r V) (p : Nat) : wr.frozen? ⟨Bv, p, none⟩ = false := by
  have h1 := h.vb
  simp [World.frozen?, h1]
theorem box_ne (h : PlS w wr Bc Bv cs a n c M r V) : Bc ≠ Bv := fun e => by
  have h1 := h.cb
  have h2 := h.vb
  rw [e, h2] at h1
  cases h1
/-- A row that is the call's own comes to stand in the box of the waits. -/
theorem PlS.set (h : PlS w wr Bc Bv cs a n c M r V) {p : Nat} (hp : p < 5) {v : Value} {l : List Int} (hx : wr.grownBy w' (r p).ownBlock) (hv : IRow w' w.heap.size v l)
    (hat : v.ownBlock = none ∨ v.ownBlock = (r p).ownBlock ∨ (v.ownBlock = some wr.heap.size ∧ Av wr.heap.size a M)) : PlS w (w'.setCell ⟨Bv, p, none⟩ v) Bc Bv cs a n c M (rput r p v) (vput V p l) := by
  have hop := h.own p hp
  have hcb : w'.heap[Bc]? = some (.cells cs 24 (0, 0)) := block_beside hop hx h.cb (by decide)
  have hvb : w'.heap[Bv]? = some (.cells #[r 0, r 1, r 2, r 3, r 4] 40 (0, 0)) := block_beside hop hx h.vb (by decide)
  have hws : Ws w' a n c M := by
    cases hk : (r p).ownBlock with
    | none =>
      rw [hk] at hx
      exact h.cw.rd.ext ⟨hx.os, hx.tape, hx.output, hx.size, fun k hk => hx.block k hk (by simp)⟩
    | some k =>
      rw [hk] at hx
      exact h.cw.rd.past (h.avr p hp k hk) hx
  have hg := put_grownBy w' Bv p v
  have hq : ∀ q, q < 5 → IRow w' w.heap.size (rput r p v q) (vput V p l q) := fun q hq => by
    unfold rput vput
    by_cases e : q = p
    · rw [if_pos e, if_pos e]; exact hv
    · rw [if_neg e, if_neg e]; exact World.ownsRow.kept (h.own q hq) hx (h.apart q p hq hp e)
  have hlt : ∀ q, q < 5 → (r q).ownBlock ≠ some wr.heap.size := fun q hq he => by
    have := (World.ownsRow.lt (h.own q hq) _ he).2
    omega
  have hap : ∀ q, q < 5 → q ≠ p → (r q).ownBlock = none ∨ (r q).ownBlock ≠ v.ownBlock := fun q hq e => by
    rcases hat with h1 | h1 | ⟨h1, _⟩
    · rw [h1]
      cases (r q).ownBlock with
      | none => exact .inl rfl
      | some k => exact .inr (by simp)
    · rw [h1]; exact h.apart q p hq hp e
    · rw [h1]; exact .inr (hlt q hq)
  refine ⟨(hg.block _ (lt_of_block hcb) (fun e => by cases e; exact box_ne h rfl)).trans hcb, ?_, ⟨hws.past h.avv hg, h.cw.len, h.cw.tot, h.cw.paths⟩, h.avc, h.avv,
    fun q hq' => owns_beside (hq q hq') (owns_other (hq q hq') hvb (by decide)) hg, fun q q' h1 h2 e => ?_, fun q hq' k hk => ?_, (h.ext.grown hx (fun k e => owns_row hop k e)).grown hg (fun k e => by cases e; exact h.bv), h.bc, h.bv⟩
  · have h1 := at_setCell hvb p v
    rw [rput_box r hp v] at h1
    exact h1
  · unfold rput
    by_cases e1 : q = p
    · have e2 : q' ≠ p := fun e2 => e (e1.trans e2.symm)
      rw [if_pos e1, if_neg e2]
      rcases hap q' h2 e2 with h3 | h3
      · rw [h3]
        cases v.ownBlock with
        | none => exact .inl rfl
        | some k => exact .inr (by simp)
      · exact .inr (Ne.symm h3)
    · rw [if_neg e1]
      by_cases e2 : q' = p
      · rw [if_pos e2]; exact hap q h1 e1
      · rw [if_neg e2]; exact h.apart q q' h1 h2 e
  · unfold rput at hk
    by_cases e1 : q = p
    · rw [if_pos e1] at hk
      rcases hat with h1 | h1 | ⟨h1, h2⟩
      · rw [h1] at hk; cases hk
      · rw [h1] at hk; exact h.avr p hp k hk
      · rw [h1] at hk; cases hk; exact h2
    · rw [if_neg e1] at hk; exact h.avr q hq' k hk
theorem PlS.setnil (h : PlS w wr Bc Bv cs a n c M r V) {p : Nat} (hp : p < 5) : PlS w (wr.setCell ⟨Bv, p, none⟩ (.slice none 0 0)) Bc Bv cs a n c M (rput r p (.slice none 0 0)) (vput V p []) :=
  h.set hp ⟨rfl, rfl, rfl, Nat.le_refl _, fun _ _ _ => rfl⟩ (World.ownsRow_nil _ _ _ _) (.inl rfl)
/-- Where a cache has points, and each of its waits, all of it lies in blocks that are. -/
theorem av_fresh {w : World} {a : Option Addr} {n c : Nat} {M : List Wh} (h : Ws w a n c M) (hM : M ≠ []) (hp : ∀ x ∈ M, x.1.2 ≠ []) {B : Nat} (hB : w.heap.size ≤ B) : Av B a M := by
  have hl := h.len
  have hlen : 0 < M.length := List.length_pos_iff.2 hM
  refine ⟨fun x hx e => ?_, fun y hy x hx e => ?_⟩
  · obtain ⟨b, o, ha, hc⟩ := h.at (by omega)
    rw [hx] at ha
    cases ha
    have := World.block_lt_of_cell? w _ (hc 0 hlen).1
    dsimp only at this e
    omega
  · have hr := h.2 y hy
    have hl2 := hr.len
    have h0 := List.length_pos_iff.2 (hp y hy)
    obtain ⟨b, o, ha, hc⟩ := hr.at (by omega)
    rw [hx] at ha
    cases ha
    have := World.block_lt_of_cell? w _ (hc 0 h0).1
    dsimp only at this e
    omega
theorem crt_full {m : Int} {came dropped : Int} {M : List Wh} (h : crtC ⟨m, ws M, came, dropped⟩ = true) : ∀ x ∈ M, x.1.2 ≠ [] := fun x hx => (((crtC_iff _).1 h).2.named x.1 (List.mem_map_of_mem hx)).2
/-- What is right is a cache as it can be read. -/
theorem cw_right {w : World} {a : Option Addr} {n c : Nat} {m came dropped : Int} {M : List Wh} (h : Ws w a n c M) (hc : crtC ⟨m, ws M, came, dropped⟩ = true) : Cw w a n c M := by
  obtain ⟨⟨a1, a2, a3, a4, a5, a6, a7, a8⟩, hg⟩ := (crtC_iff _).1 hc
  have hl := h.len
  have h2 : (ws M).length = M.length := List.length_map _
  have h3 : (ws M).length ≤ 500 := a3
  have h4 : (cnt (ws M) : Int) ≤ m := a7
  have h5 : m ≤ 500 := a2
  refine ⟨h, by omega, by omega, (crt_waits (R := ⟨m, ws M, came, dropped⟩) rfl rfl hc).2.2⟩
theorem Row.past_if {α : Type} {enc : α → List Value} {s : Nat} {w w' : World} {a : Option Addr} {n c : Nat} {l : List α} {B : Nat} (h : Row enc s w a n c l) (hav : 0 < n → ∀ x, a = some x → x.block ≠ B) (hg : w.grownBy w' (some B)) : Row enc s w' a n c l :=
  ⟨Sl.len h, Sl.le h, Sl.max h, Sl.nil h, fun hn => by
    obtain ⟨b, o, ha, hc⟩ := Sl.at_ h hn
    refine ⟨b, o, ha, fun i hi => ?_⟩
    have hlt := World.block_lt_of_cell? w _ (hc i hi)
    exact (World.cell?_of_block (a := ⟨b, o + i, none⟩) (hg.block b hlt (fun e => hav hn _ ha (by cases e; rfl)))).trans (hc i hi)⟩
theorem vals_len (s : List UInt8) : ∀ L : List Wt, (vals s L).length ≤ cnt L
  | [] => by simp [vals, findW]
  | w :: r => by
    have ih := vals_len s r
    rw [vals_cons, cnt_cons]
    split
    · rw [List.length_map]; omega
    · omega
theorem infoI64 : (Try.prog.info? 2).map (fun i => (i.zero, i.size, i.bytes)) = some (some (.int .i64 0), 1, 8) := by kernel_rfl
theorem PlS.slice (h : PlS w wr Bc Bv cs a n c M r V) {p : Nat} (hp : p < 5) {l : List Int} (hl : V p = l) : ∃ ra rc, r p = .slice ra l.length rc ∧ wr.cell? ⟨Bv, p, none⟩ = some (.slice ra l.length rc) ∧ IRow wr w.heap.size (.slice ra l.length rc) l := by
  have h0 := h.own p hp
  have h2 := PlS.row (h := h) hp
  obtain ⟨ra, rc, h1, _⟩ := Sl.of_owns h0
  rw [hl] at h0 h1
  rw [h1] at h0 h2
  exact ⟨ra, rc, h1, h2, h0⟩
/-- A value is appended to a row of the waits. -/
theorem PlS.app (h : PlS w wr Bc Bv cs a n c M r V) {p : Nat} (hp : p < 5) {l : List Int} (hM : M ≠ []) (hf : ∀ x ∈ M, x.1.2 ≠ []) {v v0 : Value} {x : Int} (hr : r p = v0)
    (hown : w'.ownsRow w.heap.size 2 1 v (l.length + 1) (rcells qc l ++ qc x)) (hg : wr.grownBy w' v0.ownBlock) (hat : v.ownBlock = v0.ownBlock ∨ v.ownBlock = some wr.heap.size) :
    PlS w (w'.setCell ⟨Bv, p, none⟩ v) Bc Bv cs a n c M (rput r p v) (vput V p (l ++ [x])) := by
  subst hr
  refine h.set hp hg ?_ ?_
  · show w'.ownsRow _ _ _ _ (l ++ [x]).length (rcells qc (l ++ [x]))
    rw [rcells_append, List.length_append]
    exact hown
  · rcases hat with h1 | h1
    · exact .inr (.inl h1)
    · exact .inr (.inr ⟨h1, av_fresh h.cw.rd hM hf (Nat.le_refl _)⟩)
/-- What lies in a box of a cache is no row of waits, nor of points. -/
theorem Ws.past_cache {w w' : World} {a : Option Addr} {n c : Nat} {M : List Wh} (h : Ws w a n c M) {B : Nat} {x z u : Int} {sa : Option Addr} {sn sc : Nat} {t : TypeId} {fr : Nat × Nat}
    (hB : w.heap[B]? = some (.cells #[.int .i64 x, .slice sa sn sc, .int .i64 z, .int .i64 u] t fr)) (hg : w.grownBy w' (some B)) : Ws w' a n c M := by
  have hcell : ∀ o, w.cell? ⟨B, o, none⟩ = (#[.int .i64 x, .slice sa sn sc, .int .i64 z, .int .i64 u] : Array Value)[o]? := fun o => by simp [World.cell?, hB]
  refine ⟨Row.past_if h.1 (fun hn y hy e => ?_) hg, fun y hy => Row.past_if (h.2 y hy) (fun hn q hq e => ?_) hg⟩
  · have hl := h.len
    obtain ⟨b, o, ha, hc⟩ := h.at hn
    rw [hy] at ha
    cases ha
    dsimp only at e
    subst e
    have h1 := (hc 0 (by omega)).1
    rw [hcell] at h1
    match o, h1 with
    | 0, h1 | 1, h1 | 2, h1 | 3, h1 => simp at h1
    | o + 4, h1 => simp at h1
  · have hl := (h.2 y hy).len
    obtain ⟨b, o, ha, hc⟩ := (h.2 y hy).at hn
    rw [hq] at ha
    cases ha
    dsimp only at e
    subst e
    obtain ⟨_, h1, _, h3⟩ := hc 0 (by omega)
    rw [hcell] at h1 h3
    match o, h1, h3 with
    | 0, h1, _ => simp at h1
    | o + 1, _, h3 => simp at h3
end Go.Proofs.Ytcbjadmngkednaa
