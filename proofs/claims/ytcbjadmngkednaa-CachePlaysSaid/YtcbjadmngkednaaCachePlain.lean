/-
  Layer 20 without the program: caches, what they answer, what stays right.
-/
import Derived.KernelRfl
import GoSem.Op.String
namespace Go.Proofs.Ytcbjadmngkednaa

/-- One string ahead of another one. -/
abbrev bl : List UInt8 → List UInt8 → Bool := Op.bytesLess
theorem bl_irrefl : ∀ a : List UInt8, bl a a = false
  | [] => rfl
  | x :: a => by simp [bl, Op.bytesLess, UInt8.lt_irrefl]; exact bl_irrefl a
theorem bl_trans : ∀ a b c : List UInt8, bl a b = true → bl b c = true → bl a c = true
  | [], [], _, h, _ => by simp [bl, Op.bytesLess] at h
  | [], _ :: _, [], _, h => by simp [bl, Op.bytesLess] at h
  | [], _ :: _, _ :: _, _, _ => rfl
  | _ :: _, [], _, h, _ => by simp [bl, Op.bytesLess] at h
  | _ :: _, _ :: _, [], _, h => by simp [bl, Op.bytesLess] at h
  | x :: a, y :: b, z :: c, h1, h2 => by
    have ih := bl_trans a b c
    simp only [bl, Op.bytesLess, Bool.or_eq_true, Bool.and_eq_true, decide_eq_true_eq, beq_iff_eq] at h1 h2 ih ⊢
    rcases h1 with h1 | ⟨rfl, h1⟩
    · rcases h2 with h2 | ⟨rfl, h2⟩
      · exact .inl (UInt8.lt_trans h1 h2)
      · exact .inl h1
    · rcases h2 with h2 | ⟨rfl, h2⟩
      · exact .inl h2
      · exact .inr ⟨rfl, ih h1 h2⟩
theorem bl_total : ∀ a b : List UInt8, bl a b = true ∨ a = b ∨ bl b a = true
  | [], [] => .inr (.inl rfl)
  | [], _ :: _ => .inl rfl
  | _ :: _, [] => .inr (.inr rfl)
  | x :: a, y :: b => by
    have ih := bl_total a b
    simp only [bl, Op.bytesLess, Bool.or_eq_true, Bool.and_eq_true, decide_eq_true_eq, beq_iff_eq] at ih ⊢
    by_cases hxy : x = y
    · subst hxy
      rcases ih with h | rfl | h
      · exact .inl (.inr ⟨rfl, h⟩)
      · exact .inr (.inl rfl)
      · exact .inr (.inr (.inr ⟨rfl, h⟩))
    · by_cases h : x < y
      · exact .inl (.inl h)
      · exact .inr (.inr (.inl (UInt8.lt_of_le_of_ne (UInt8.not_lt.1 h) (Ne.symm hxy))))
theorem bl_asymm (a b : List UInt8) (h : bl a b = true) : bl b a = false := by
  cases h2 : bl b a with
  | false => rfl
  | true => have := bl_trans a b a h h2; rw [bl_irrefl] at this; cases this
theorem bl_ne (a b : List UInt8) (h : bl a b = true) : a ≠ b := fun e => by subst e; rw [bl_irrefl] at h; cases h

/-- A point that waits. -/
structure Ar where
  time : Int
  value : Int
  now : Int
  order : Int
deriving DecidableEq
/-- A path's points. -/
abbrev Wt := List UInt8 × List Ar
structure Ca where
  max : Int
  waits : List Wt
  came : Int
  dropped : Int
deriving DecidableEq
def nmd (s : List UInt8) : Bool := !s.isEmpty && decide (s.length ≤ 263)
def cnt (L : List Wt) : Nat := (L.map fun x => x.2.length).sum
def okPts (came : Int) : Option Int → List Int → List Ar → Option (List Int)
  | _, met, [] => some met
  | prev, met, p :: r => if p.order < 0 ∨ came ≤ p.order ∨ p.order ∈ met ∨ (∃ q ∈ prev, p.order ≤ q) then none else okPts came (some p.order) (met ++ [p.order]) r
def okWts (came : Int) : Option (List UInt8) → List Int → List Wt → Bool
  | _, _, [] => true
  | prev, met, w :: r => if nmd w.1 = false ∨ w.2 = [] ∨ (∃ q ∈ prev, bl q w.1 = false) then false else match okPts came none met w.2 with
    | none => false
    | some m => okWts came (some w.1) m r
def crtC (c : Ca) : Bool := decide (1 ≤ c.max ∧ c.max ≤ 500 ∧ c.waits.length ≤ 500 ∧ 0 ≤ c.came ∧ c.came ≤ 1099511627776 ∧ 0 ≤ c.dropped ∧ (cnt c.waits : Int) ≤ c.max ∧ c.dropped ≤ c.came - cnt c.waits) && okWts c.came none [] c.waits

def addW (s : List UInt8) (p : Ar) : List Wt → List Wt
  | [] => [(s, [p])]
  | w :: r => if w.1 = s then (w.1, w.2 ++ [p]) :: r else if bl s w.1 then (s, [p]) :: w :: r else w :: addW s p r
def addC (c : Ca) (s : List UInt8) (time value now : Int) : (Ca × Bool) × Int :=
  if nmd s = false ∨ crtC c = false then ((c, false), 1)
  else if c.came = 1099511627776 then ((c, false), 3)
  else if (cnt c.waits : Int) = c.max then (({ c with came := c.came + 1, dropped := c.dropped + 1 }, false), 0)
  else (({ c with came := c.came + 1, waits := addW s ⟨time, value, now, c.came⟩ c.waits }, true), 0)
def findW (s : List UInt8) (L : List Wt) : Option Wt := L.find? fun w => w.1 == s
def takeC (c : Ca) (s : List UInt8) : (Ca × List Ar) × Int :=
  if crtC c = false then ((c, []), 1) else match findW s c.waits with
  | none => ((c, []), 15)
  | some w => (({ c with waits := c.waits.filter fun x => x.1 != s }, w.2), 0)
def ofC (c : Ca) (s : List UInt8) : List Ar := if crtC c = false then [] else match findW s c.waits with
  | none => []
  | some w => w.2

/-! ### What is right, told plainly -/
def ords (l : List Ar) : List Int := l.map (·.order)
def allO (L : List Wt) : List Int := L.flatMap fun w => ords w.2
def GoodP (came : Int) (l : List Ar) : Prop := (ords l).Pairwise (· < ·) ∧ ∀ o ∈ ords l, 0 ≤ o ∧ o < came
theorem okPts_eq (came : Int) : ∀ (l : List Ar) (prev : Option Int) (met m : List Int), okPts came prev met l = some m ↔
    m = met ++ ords l ∧ GoodP came l ∧ (∀ o ∈ ords l, o ∉ met) ∧ (∀ q ∈ prev, ∀ o ∈ ords l, q < o)
  | [], prev, met, m => by
    simp [okPts, ords, GoodP]
    exact eq_comm
  | p :: r, prev, met, m => by
    rw [okPts]
    split
    · rename_i h
      constructor
      · intro h2; cases h2
      · rintro ⟨_, ⟨hp, hr⟩, hm, hq⟩
        exfalso
        have h1 := hr p.order (by simp [ords])
        rcases h with h | h | h | ⟨q, hqp, h⟩
        · omega
        · omega
        · exact hm p.order (by simp [ords]) h
        · have := hq q hqp p.order (by simp [ords]); omega
    · rename_i h
      rw [okPts_eq came r]
      simp only [not_or, not_exists, not_and, Int.not_lt, Int.not_le] at h
      obtain ⟨g1, g2, g3, g4⟩ := h
      have e : ords (p :: r) = p.order :: ords r := rfl
      simp only [GoodP, e, List.pairwise_cons, List.mem_cons, List.mem_append, List.not_mem_nil, or_false, not_or, List.append_assoc, List.cons_append, List.nil_append, Option.mem_def, Option.some.injEq]
      constructor
      · rintro ⟨rfl, ⟨hp, hr⟩, hm, hq⟩
        refine ⟨rfl, ⟨⟨fun o ho => hq _ rfl o ho, hp⟩, ?_⟩, ?_, ?_⟩
        · rintro o (rfl | ho)
          · exact ⟨g1, g2⟩
          · exact hr o ho
        · rintro o (rfl | ho)
          · exact g3
          · exact (hm o ho).1
        · rintro q hqp o (rfl | ho)
          · exact g4 q hqp
          · have := g4 q hqp; have := hq _ rfl o ho; omega
      · rintro ⟨rfl, ⟨⟨hpr, hp⟩, hr⟩, hm, hq⟩
        refine ⟨rfl, ⟨hp, fun o ho => hr o (.inr ho)⟩, fun o ho => ⟨hm o (.inr ho), fun e => ?_⟩, fun q hqp o ho => ?_⟩
        · have := hpr o ho; omega
        · subst hqp; exact hpr o ho
/-- Waits that are as they must be. -/
structure GoodW (came : Int) (L : List Wt) : Prop where
  named : ∀ w ∈ L, nmd w.1 = true ∧ w.2 ≠ []
  rising : (L.map (·.1)).Pairwise fun a b => bl a b = true
  pts : ∀ w ∈ L, GoodP came w.2
  once : (allO L).Nodup
theorem okWts_iff (came : Int) : ∀ (L : List Wt) (prev : Option (List UInt8)) (met : List Int), okWts came prev met L = true ↔
    GoodW came L ∧ (∀ o ∈ allO L, o ∉ met) ∧ (∀ q ∈ prev, ∀ w ∈ L, bl q w.1 = true)
  | [], prev, met => by
    simp only [okWts, allO, List.flatMap_nil, List.not_mem_nil, false_implies, implies_true, and_true, true_iff]
    exact ⟨by simp, by simp, by simp, by simp [allO]⟩
  | w :: r, prev, met => by
    rw [okWts]
    have ea : allO (w :: r) = ords w.2 ++ allO r := rfl
    split
    · rename_i h
      constructor
      · intro h2; cases h2
      · rintro ⟨hg, hm, hq⟩
        exfalso
        have h1 := hg.named w (by simp)
        rcases h with h | h | ⟨q, hqp, h⟩
        · rw [h] at h1; cases h1.1
        · exact h1.2 h
        · have := hq q hqp w (by simp); rw [h] at this; cases this
    · rename_i h
      simp only [not_or, not_exists, not_and, Bool.not_eq_false] at h
      obtain ⟨g1, g2, g3⟩ := h
      cases hp : okPts came none met w.2 with
      | none =>
        constructor
        · intro h2; cases h2
        · rintro ⟨hg, hm, hq⟩
          exfalso
          have h3 := (okPts_eq came w.2 none met _).2 ⟨rfl, hg.pts w (by simp), fun o ho => hm o (by rw [ea]; simp [ho]), by simp⟩
          rw [hp] at h3; cases h3
      | some m =>
        obtain ⟨rfl, hgp, hm, _⟩ := (okPts_eq came w.2 none met m).1 hp
        dsimp only
        rw [okWts_iff came r]
        constructor
        · rintro ⟨hg, hm2, hq⟩
          refine ⟨⟨?_, ?_, ?_, ?_⟩, ?_, ?_⟩
          · intro x hx
            rcases List.mem_cons.1 hx with rfl | hx
            · exact ⟨g1, g2⟩
            · exact hg.named x hx
          · rw [List.map_cons, List.pairwise_cons]
            refine ⟨fun a ha => ?_, hg.rising⟩
            obtain ⟨x, hx, rfl⟩ := List.mem_map.1 ha
            exact hq _ rfl x hx
          · intro x hx
            rcases List.mem_cons.1 hx with rfl | hx
            · exact hgp
            · exact hg.pts x hx
          · rw [ea, List.nodup_append]
            refine ⟨hgp.1.imp (fun h e => by omega), hg.once, fun a ha b hb e => ?_⟩
            subst e
            exact hm2 a hb (by simp [ha])
          · intro o ho
            rw [ea] at ho
            rcases List.mem_append.1 ho with ho | ho
            · exact hm o ho
            · exact fun hmo => hm2 o ho (by simp [hmo])
          · intro q hqp x hx
            have hqw : bl q w.1 = true := g3 q hqp
            rcases List.mem_cons.1 hx with rfl | hx
            · exact hqw
            · exact bl_trans _ _ _ hqw (hq _ rfl x hx)
        · rintro ⟨hg, hm2, hq⟩
          have hr := hg.rising
          rw [List.map_cons, List.pairwise_cons] at hr
          have ho := hg.once
          rw [ea, List.nodup_append] at ho
          refine ⟨⟨fun x hx => hg.named x (by simp [hx]), hr.2, fun x hx => hg.pts x (by simp [hx]), ho.2.1⟩, fun o hoo hmo => ?_, fun q hqp x hx => ?_⟩
          · rcases List.mem_append.1 hmo with h | h
            · exact hm2 o (by rw [ea]; simp [hoo]) h
            · exact ho.2.2 o h o hoo rfl
          · cases hqp; exact hr.1 x.1 (List.mem_map.2 ⟨x, hx, rfl⟩)
theorem crtC_iff (c : Ca) : crtC c = true ↔ (1 ≤ c.max ∧ c.max ≤ 500 ∧ c.waits.length ≤ 500 ∧ 0 ≤ c.came ∧ c.came ≤ 1099511627776 ∧ 0 ≤ c.dropped ∧ (cnt c.waits : Int) ≤ c.max ∧ c.dropped ≤ c.came - cnt c.waits) ∧ GoodW c.came c.waits := by
  unfold crtC
  rw [Bool.and_eq_true, decide_eq_true_eq, okWts_iff]
  simp
#print axioms crtC_iff
end Go.Proofs.Ytcbjadmngkednaa
