/-
  Layer 20 without the program: what the place of a path among risen ones says of finding, taking and adding.
-/
import Derived.Test.YtcbjadmngkednaaCacheDelete
namespace Go.Proofs.Ytcbjadmngkednaa

theorem stands_succ {s : List UInt8} {w : Wt} {r : List Wt} {i : Nat} (h : Stands s (w :: r) (i + 1)) : bl w.1 s = true ∧ Stands s r i := by
  obtain ⟨h1, h2, h3⟩ := h
  refine ⟨h2 0 (by simp) (by omega), by simpa using h1, fun k hk hki => ?_, fun k hk hki => ?_⟩
  · exact h2 (k + 1) (by simpa using hk) (by omega)
  · exact h3 (k + 1) (by simpa using hk) (by omega)
theorem find_above {s : List UInt8} : ∀ {r : List Wt}, (∀ w ∈ r, bl s w.1 = true) → findW s r = none
  | [], _ => rfl
  | w :: r, h => by
    have h1 : (w.1 == s) = false := by
      have := bl_ne _ _ (h w (by simp))
      simp [Ne.symm this]
    unfold findW
    rw [List.find?_cons, h1]
    exact find_above (r := r) (fun x hx => h x (by simp [hx]))
theorem stands_found (s : List UInt8) (p : Ar) : ∀ (L : List Wt) (i : Nat), ((L.map (·.1)).Pairwise fun a b => bl a b = true) → Stands s L i → ∀ h : i < L.length, L[i].1 = s →
    findW s L = some L[i] ∧ (L.filter fun x => x.1 != s) = L.eraseIdx i ∧ addW s p L = L.set i (s, L[i].2 ++ [p])
  | [], _, _, _, h, _ => absurd h (by simp)
  | w :: r, 0, hr, hs, _, he => by
    rw [List.map_cons, List.pairwise_cons] at hr
    have hw : w.1 = s := he
    have h1 : (w.1 == s) = true := by simp [hw]
    have h2 : (w.1 != s) = false := by simp [hw]
    refine ⟨?_, ?_, ?_⟩
    · unfold findW; rw [List.find?_cons, h1]; rfl
    · rw [List.filter_cons, h2]
      simp only [Bool.false_eq_true, if_false, List.eraseIdx_cons_zero]
      exact filter_none s r (fun y hy => by rw [← hw]; exact hr.1 y.1 (List.mem_map.2 ⟨y, hy, rfl⟩))
    · rw [addW, if_pos hw, hw]; rfl
  | w :: r, i + 1, hr, hs, h, he => by
    rw [List.map_cons, List.pairwise_cons] at hr
    obtain ⟨hb, hs2⟩ := stands_succ hs
    have hne : w.1 ≠ s := bl_ne _ _ hb
    obtain ⟨f1, f2, f3⟩ := stands_found s p r i hr.2 hs2 (by simpa using h) he
    have h1 : (w.1 == s) = false := by simp [hne]
    have h2 : (w.1 != s) = true := by simp [hne]
    refine ⟨?_, ?_, ?_⟩
    · unfold findW at f1 ⊢; rw [List.find?_cons, h1]; exact f1
    · rw [List.filter_cons, h2]
      simp only [if_true, List.eraseIdx_cons_succ]
      rw [f2]
    · rw [addW, if_neg hne, if_neg (by rw [bl_asymm _ _ hb]; simp), f3]; rfl
theorem stands_not (s : List UInt8) (p : Ar) : ∀ (L : List Wt) (i : Nat), ((L.map (·.1)).Pairwise fun a b => bl a b = true) → Stands s L i → (¬ ∃ h : i < L.length, L[i].1 = s) →
    findW s L = none ∧ (L.filter fun x => x.1 != s) = L ∧ addW s p L = L.take i ++ (s, [p]) :: L.drop i
  | [], i, _, hs, _ => by
    have : i = 0 := by have := hs.1; simpa using this
    subst this
    exact ⟨rfl, rfl, rfl⟩
  | w :: r, 0, hr, hs, hno => by
    rw [List.map_cons, List.pairwise_cons] at hr
    have hne : w.1 ≠ s := fun e => hno ⟨by simp, e⟩
    have hb : bl s w.1 = true := by
      have h0 := hs.2.2 0 (by simp) (Nat.le_refl _)
      rcases bl_total s w.1 with h | h | h
      · exact h
      · exact absurd h.symm hne
      · have h0' : bl w.1 s = false := h0
        rw [h0'] at h; cases h
    have hall : ∀ x ∈ w :: r, bl s x.1 = true := fun x hx => by
      rcases List.mem_cons.1 hx with rfl | hx
      · exact hb
      · exact bl_trans _ _ _ hb (hr.1 x.1 (List.mem_map.2 ⟨x, hx, rfl⟩))
    exact ⟨find_above hall, filter_none s _ hall, by rw [addW, if_neg hne, if_pos hb]; rfl⟩
  | w :: r, i + 1, hr, hs, hno => by
    rw [List.map_cons, List.pairwise_cons] at hr
    obtain ⟨hb, hs2⟩ := stands_succ hs
    have hne : w.1 ≠ s := bl_ne _ _ hb
    obtain ⟨f1, f2, f3⟩ := stands_not s p r i hr.2 hs2 (fun ⟨h, e⟩ => hno ⟨by simpa using h, e⟩)
    have h1 : (w.1 == s) = false := by simp [hne]
    have h2 : (w.1 != s) = true := by simp [hne]
    refine ⟨?_, ?_, ?_⟩
    · unfold findW at f1 ⊢; rw [List.find?_cons, h1]; exact f1
    · rw [List.filter_cons, h2]
      simp only [if_true]
      rw [f2]
    · rw [addW, if_neg hne, if_neg (by rw [bl_asymm _ _ hb]; simp), f3]; rfl

/-- A cache as it can be read, of so many points. -/
structure Cw (w : World) (a : Option Addr) (n c : Nat) (M : List Wh) : Prop where
  rd : Ws w a n c M
  len : n ≤ 5000
  tot : Go.Proofs.Ytcbjadmngkednaa.cnt (ws M) ≤ 5000
  paths : ∀ x ∈ M, x.1.1.length ≤ 140737488355328
theorem Cw.ext {w w' : World} {a : Option Addr} {n c : Nat} {M : List Wh} (h : Cw w a n c M) (hx : Ext w w') : Cw w' a n c M := ⟨h.rd.ext hx, h.len, h.tot, h.paths⟩
theorem crt_good {c : Ca} (h : crtC c = true) : GoodW c.came c.waits := ((crtC_iff c).1 h).2
/-- None of these lies in that block. -/
def Av (B : Nat) (a : Option Addr) (M : List Wh) : Prop := (∀ x, a = some x → x.block ≠ B) ∧ ∀ y ∈ M, ∀ x, y.2.1 = some x → x.block ≠ B
theorem Row.past {α : Type} {enc : α → List Value} {s : Nat} {w w' : World} {a : Option Addr} {n c : Nat} {l : List α} {B : Nat} (h : Row enc s w a n c l) (hav : ∀ x, a = some x → x.block ≠ B) (hg : w.grownBy w' (some B)) : Row enc s w' a n c l :=
  ⟨Sl.len h, Sl.le h, Sl.max h, Sl.nil h, fun hn => by
    obtain ⟨b, o, ha, hc⟩ := Sl.at_ h hn
    refine ⟨b, o, ha, fun i hi => ?_⟩
    have hlt := World.block_lt_of_cell? w _ (hc i hi)
    exact (World.cell?_of_block (a := ⟨b, o + i, none⟩) (hg.block b hlt (fun e => hav _ ha (by cases e; rfl)))).trans (hc i hi)⟩
theorem Ws.past {w w' : World} {a : Option Addr} {n c : Nat} {M : List Wh} {B : Nat} (h : Ws w a n c M) (hav : Av B a M) (hg : w.grownBy w' (some B)) : Ws w' a n c M :=
  ⟨Row.past h.1 hav.1 hg, fun x hx => Row.past (h.2 x hx) (hav.2 x hx) hg⟩
theorem Av.nil (B : Nat) : Av B none [] := ⟨(fun _ h => by cases h), (fun _ h => by cases h)⟩
theorem av_own {w : World} {base : Nat} {e : TypeId} {s : Nat} {a : Option Addr} {n c n2 : Nat} {xs : List Value} {B : Nat} (h : w.ownsRow base e s (.slice a n c) n2 xs) (hB : B < base) : ∀ x, a = some x → x.block ≠ B := fun x hx e2 => by
  subst hx
  have := (World.ownsRow.lt h x.block rfl).1
  omega
end Go.Proofs.Ytcbjadmngkednaa
