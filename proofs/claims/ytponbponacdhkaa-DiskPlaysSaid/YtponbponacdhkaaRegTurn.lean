/-
  A region that draws its order, all of it by a plan, with a turn: an act behind which the world is another one; what reads the world stands ahead of it, what reads none may come up behind it too. No program in sight.
-/
import Derived.Test.YtponbponacdhkaaRegPlan
namespace Go.Proofs.Ytponbponacdhkaa
open Go

section
variable {P : Program} {ops : Array Oper} {md : Region.Mode} {S : World → Prop} {k : Nat}

theorem ready_lt {j : Nat} {listed : Array Bool} (h : j ∈ Region.ready md ops listed) : j < ops.size := by
  obtain ⟨_, o, ho, _⟩ := mem_ready.1 h
  exact (Array.getElem?_eq_some_iff.1 ho).1
/-- S, till the turn is taken. -/
def till (k : Nat) (S : World → Prop) (listed : Array Bool) (w : World) : Prop := listed.getD k false = true ∨ S w
theorem getD_set_mono {listed : Array Bool} {i k : Nat} (h : listed.getD k false = true) : (listed.setIfInBounds i true).getD k false = true := by
  by_cases hk : k < listed.size
  · by_cases hik : i = k
    · subst hik; simp [hk]
    · simp only [Array.getD_eq_getD_getElem?, Array.getElem?_setIfInBounds, if_neg hik] at h ⊢
      exact h
  · simp [Array.getElem?_eq_none (Nat.le_of_not_lt hk)] at h
theorem till_mono {listed : Array Bool} {i : Nat} {w : World} (h : till k S listed w) : till k S (listed.setIfInBounds i true) w := h.imp getD_set_mono id

def wpAnyT (P : Program) (md : Region.Mode) (ops : Array Oper) (Q : Exit → Act → World → Prop) (k : Nat) (S : World → Prop) (L : Array Bool → Act → World → Prop) : Nat → Array Bool → Act → World → Prop
  | 0, listed, a, w => L listed a w
  | f + 1, listed, a, w =>
    Region.ready md ops listed ≠ [] ∧ ∀ i ∈ Region.ready md ops listed, wpOp P ops Q i (fun a' w' => till k S (listed.setIfInBounds i true) w' ∧ wpAnyT P md ops Q k S L f (listed.setIfInBounds i true) a' w') a w

theorem wpAny_of_headT {Q : Exit → Act → World → Prop} {g : Nat} {L : Array Bool → Act → World → Prop} (hL : ∀ listed a w, L listed a w → wpAny P md ops Q g listed a w) :
    ∀ (f : Nat) (listed : Array Bool) (a : Act) (w : World), wpAnyT P md ops Q k S L f listed a w → wpAny P md ops Q (f + g) listed a w
  | 0, listed, a, w, h => by rw [Nat.zero_add]; exact hL _ _ _ h
  | f + 1, listed, a, w, h => by
    rw [show f + 1 + g = (f + g) + 1 by omega]
    exact ⟨fun h0 => absurd h0 h.1, fun i hi => wpOp_mono (fun a' w' h' => wpAny_of_headT hL f _ a' w' h'.2) (h.2 i hi)⟩

theorem wpAnyT_first {Q : Exit → Act → World → Prop} {i : Nat} {oi : Oper} {v : Value} {L : Array Bool → Act → World → Prop} {S' : World → Prop} (hi : ops[i]? = some oi) (hsel : ∀ (j : Nat) (o : Oper) cs b, ops[j]? = some o → o.op ≠ .select cs b)
    (hQ : ∀ c a w, Q (.panic c) (a.put oi.dst v) w → Q (.panic c) a w) (hin : i < ops.size) (hki : k ≠ i)
    (hdone : ∀ listed a w, L listed a w → Region.ready md ops listed = []) (hS' : ∀ listed w, HeadInv md ops ops.size listed → listed.getD i true = false → till k S listed w → S' w) :
    ∀ (f : Nat) (listed : Array Bool) (a : Act) (w : World), HeadInv md ops ops.size listed →
      (∀ j oj, ops[j]? = some oj → j ≠ i → listed.getD j true = false → (∀ e ∈ oj.after, Region.binds md e = true → e.on ≠ i) → oi.apart ops oj = true) →
      i ∈ Region.ready md ops listed → YieldsIf P ops S' oi v a → till k S listed w →
      wpAnyT P md ops Q k S L f (listed.setIfInBounds i true) (a.put oi.dst v) w → wpAnyT P md ops Q k S L (f + 1) listed a w := by
  intro f
  induction f with
  | zero =>
    intro listed a w inv _ hr hy hS H
    have hun := (mem_ready.1 hr).1
    refine ⟨fun h => (by rw [h] at hr; cases hr), fun j hj => ?_⟩
    by_cases hji : j = i
    · subst hji; exact hy.wpOp hi (hS' _ _ inv hun hS) ⟨till_mono hS, H⟩
    · have h1 := hdone _ _ _ H
      have h2 := ready_mono hj hji
      rw [h1] at h2
      cases h2
  | succ f ih =>
    intro listed a w inv hfree hr hy hS H
    have hun := (mem_ready.1 hr).1
    refine ⟨fun h => (by rw [h] at hr; cases hr), fun j hj => ?_⟩
    have hjn : j < ops.size := ready_lt hj
    by_cases hji : j = i
    · subst hji; exact hy.wpOp hi (hS' _ _ inv hun hS) ⟨till_mono hS, H⟩
    · have h1 := H.2 j (ready_mono hj hji)
      obtain ⟨hjun, oj, hoj, hall⟩ := mem_ready.1 hj
      have hnot : ∀ e ∈ oj.after, Region.binds md e = true → e.on ≠ i := fun e he hb heq => by
        have h1 := hall e he hb
        rw [heq, getD_both hun] at h1
        cases h1
      have h2 := wpOp_putIf hoj (hfree j oj hoj hji hjun hnot) (fun cs b => hsel i oi cs b hi) (fun cs b => hsel j oj cs b hoj) hQ hy h1
      have hfree' : ∀ q ok, ops[q]? = some ok → q ≠ i → (listed.setIfInBounds j true).getD q true = false →
          (∀ e ∈ ok.after, Region.binds md e = true → e.on ≠ i) → oi.apart ops ok = true := fun q ok hk hki hun hno => by
        refine hfree q ok hk hki ?_ hno
        by_cases hjk : j = q
        · subst hjk; exact hjun
        · rw [getD_set_ne true hjk] at hun; exact hun
      refine wpOp_mono (fun a' w' h3 => ?_) h2
      have hti : till k S (listed.setIfInBounds j true) w' := by
        rcases h3.2.1 with h5 | h5
        · refine .inl ?_
          rw [Array.setIfInBounds_comm _ _ (Ne.symm hji), getD_set_ne false (Ne.symm hki)] at h5
          exact h5
        · exact .inr h5
      refine ⟨hti, ih (listed.setIfInBounds j true) a' w' (inv.set hj hjn) hfree' (ready_mono hr (Ne.symm hji)) h3.1 hti ?_⟩
      rw [Array.setIfInBounds_comm _ _ hji]
      exact h3.2.2

/-- How a region is walked: these are taken first, one behind the other; or this one comes up, alone; or one of these two, each with its own way on; or, with no look at the world, these; or the turn, behind which the world is another one. -/
inductive Trip
  | done
  | quiet (is : List Nat) (r : Trip)
  | act (i : Nat) (r : Trip)
  | alt (i j : Nat) (ri rj : Trip)
  | free (is : List Nat) (r : Trip)
  | turn (r : Trip)

/-- What is to be shown of a plan. -/
def wpLegs (P : Program) (ops : Array Oper) (k : Nat) (S : World → Prop) (L : Act → World → Prop) : Trip → Act → World → Prop
  | .done, a, w => L a w
  | .quiet is r, a, w => wpQuiet P ops S (fun a' => wpLegs P ops k S L r a' w) (sel ops is) a
  | .free is r, a, w => wpQuiet P ops (fun _ => True) (fun a' => wpLegs P ops k S L r a' w) (sel ops is) a
  | .act i r, a, w => ∀ Q : Exit → Act → World → Prop, (∀ a' w', S w' → wpLegs P ops k S L r a' w' → Q .normal a' w') → wpList P ops Q (sel ops [i]) a w
  | .turn r, a, w => ∀ Q : Exit → Act → World → Prop, (∀ a' w', wpLegs P ops k S L r a' w' → Q .normal a' w') → wpList P ops Q (sel ops [k]) a w
  | .alt i j ri rj, a, w =>
    (∀ Q : Exit → Act → World → Prop, (∀ a' w', S w' → wpLegs P ops k S L ri a' w' → Q .normal a' w') → wpList P ops Q (sel ops [i]) a w) ∧
    (∀ Q : Exit → Act → World → Prop, (∀ a' w', S w' → wpLegs P ops k S L rj a' w' → Q .normal a' w') → wpList P ops Q (sel ops [j]) a w)

/-- These can be taken first: 'c' says more of each. -/
def firstB (md : Region.Mode) (ops : Array Oper) (k : Nat) (c : Nat → Bool) : List Nat → Array Bool → Option (Array Bool)
  | [], listed => some listed
  | i :: r, listed =>
    if decide (i < ops.size) && decide (k ≠ i) && c i && ((ops[i]?).map pureOp).getD false && (Region.ready md ops listed).contains i && Region.free md ops listed i then firstB md ops k c r (listed.setIfInBounds i true) else none
def legsLen : Trip → Nat
  | .done => 0
  | .quiet is r => is.length + legsLen r
  | .free is r => is.length + legsLen r
  | .act _ r => legsLen r + 1
  | .turn r => legsLen r + 1
  | .alt _ _ ri _ => legsLen ri + 1
def legsB (md : Region.Mode) (ops : Array Oper) (k : Nat) : Trip → Array Bool → Bool
  | .done, listed => decide (Region.ready md ops listed = [])
  | .quiet is r, listed => match firstB md ops k (fun i => Region.waitsFor md ops k i) is listed with
    | some l => legsB md ops k r l
    | none => false
  | .free is r, listed => match firstB md ops k (fun _ => true) is listed with
    | some l => legsB md ops k r l
    | none => false
  | .act i r, listed => decide (Region.ready md ops listed = [i]) && legsB md ops k r (listed.setIfInBounds i true)
  | .turn r, listed => decide (Region.ready md ops listed = [k]) && decide (k < ops.size) && legsB md ops k r (listed.setIfInBounds k true)
  | .alt i j ri rj, listed => decide (Region.ready md ops listed = [i, j]) && decide (legsLen ri = legsLen rj) && legsB md ops k ri (listed.setIfInBounds i true) && legsB md ops k rj (listed.setIfInBounds j true)

theorem wpAnyT_quiet {L : Array Bool → Act → World → Prop} {K0 : Act → World → Prop} {c : Nat → Bool} {S' : World → Prop} (hsel : Region.noSelect ops = true)
    (hdone : ∀ listed a w, L listed a w → Region.ready md ops listed = []) (hS' : ∀ i, c i = true → ∀ listed w, HeadInv md ops ops.size listed → listed.getD i true = false → till k S listed w → S' w)
    {f : Nat} {w : World} {Lq : Act → Prop} :
    ∀ (is : List Nat) (listed l2 : Array Bool) (a : Act), firstB md ops k c is listed = some l2 → HeadInv md ops ops.size listed → till k S listed w → wpQuiet P ops S' Lq (sel ops is) a →
      (∀ a', Lq a' → HeadInv md ops ops.size l2 → till k S l2 w → wpAnyT P md ops (onlyNormal K0) k S L f l2 a' w) → wpAnyT P md ops (onlyNormal K0) k S L (is.length + f) listed a w
  | [], listed, l2, a, hB, inv, hS, h, hk => by
    simp only [firstB, Option.some.injEq] at hB
    subst hB
    rw [List.length_nil, Nat.zero_add]
    exact hk a h inv hS
  | i :: r, listed, l2, a, hB, inv, hS, h, hk => by
    simp only [firstB] at hB
    split at hB
    · rename_i hb
      simp only [Bool.and_eq_true, decide_eq_true_eq] at hb
      obtain ⟨⟨⟨⟨⟨hin, hki⟩, hc⟩, hp⟩, hr⟩, hf⟩ := hb
      cases ho : ops[i]? with
      | none => rw [ho] at hp; simp at hp
      | some o =>
        rw [ho] at hp
        have hp' : pureOp o = true := by simpa using hp
        have hr' : i ∈ Region.ready md ops listed := by simpa using hr
        simp only [sel, ho] at h
        obtain ⟨v, hy, hK⟩ := yieldsIf_of_quiet hp' h
        rw [List.length_cons, show r.length + 1 + f = (r.length + f) + 1 by omega]
        exact wpAnyT_first ho (Region.noSelect_spec hsel) (fun _ _ _ h => h) hin hki hdone (hS' i hc) _ _ _ _ inv (Region.free_spec ho hf) hr' hy hS
          (wpAnyT_quiet hsel hdone hS' r _ l2 _ hB (inv.set hr' hin) (till_mono hS) hK hk)
    · cases hB

theorem till_waits {i : Nat} (hw : Region.waitsFor md ops k i = true) (listed : Array Bool) (w : World) (inv : HeadInv md ops ops.size listed) (hun : listed.getD i true = false) (h : till k S listed w) : S w := by
  rcases h with h | h
  · obtain ⟨ok, hok, e, he, hb, hon⟩ := Region.waitsFor_spec hw
    have h1 := inv.closed k ok hok h e he hb
    rw [hon, getD_both hun] at h1
    cases h1
  · exact h

theorem wpOp_of_leg {i : Nat} {listed : Array Bool} {a : Act} {w : World} {K K0 : Act → World → Prop} (hr : i ∈ Region.ready md ops listed)
    (h : ∀ Q : Exit → Act → World → Prop, (∀ a' w', K a' w' → Q .normal a' w') → wpList P ops Q (sel ops [i]) a w) : wpOp P ops (onlyNormal K0) i K a w := by
  obtain ⟨_, o, ho, _⟩ := mem_ready.1 hr
  have h2 := h (onlyNormal K) (fun a' w' h1 => h1)
  simp only [sel, ho] at h2
  exact wpOp_of_list ho h2

theorem wpAnyT_legs {Lq K0 : Act → World → Prop} (hsel : Region.noSelect ops = true) :
    ∀ (plan : Trip) (listed : Array Bool) (a : Act) (w : World), legsB md ops k plan listed = true → HeadInv md ops ops.size listed → till k S listed w → wpLegs P ops k S Lq plan a w →
      wpAnyT P md ops (onlyNormal K0) k S (fun listed' a' w' => Region.ready md ops listed' = [] ∧ Lq a' w') (legsLen plan) listed a w
  | .done, listed, a, w, hB, inv, hS, h => ⟨by simpa [legsB] using hB, h⟩
  | .quiet is r, listed, a, w, hB, inv, hS, h => by
    simp only [legsB] at hB
    split at hB
    · rename_i l2 hq
      exact wpAnyT_quiet (S' := S) hsel (fun _ _ _ hL => hL.1) (fun i hc listed w inv hun ht => till_waits hc listed w inv hun ht) is listed l2 a hq inv hS h (fun a' ha' inv' hS2 => wpAnyT_legs hsel r l2 a' w hB inv' hS2 ha')
    · cases hB
  | .free is r, listed, a, w, hB, inv, hS, h => by
    simp only [legsB] at hB
    split at hB
    · rename_i l2 hq
      exact wpAnyT_quiet (S' := fun _ => True) hsel (fun _ _ _ hL => hL.1) (fun _ _ _ _ _ _ _ => trivial) is listed l2 a hq inv hS h (fun a' ha' inv' hS2 => wpAnyT_legs hsel r l2 a' w hB inv' hS2 ha')
    · cases hB
  | .act i r, listed, a, w, hB, inv, hS, h => by
    simp only [legsB, Bool.and_eq_true, decide_eq_true_eq] at hB
    obtain ⟨hr, hB'⟩ := hB
    have hr' : i ∈ Region.ready md ops listed := by rw [hr]; simp
    refine ⟨fun h0 => (by rw [h0] at hr'; cases hr'), fun j hj => ?_⟩
    rw [hr] at hj
    obtain rfl : j = i := by simpa using hj
    exact wpOp_mono (fun a' w' h3 => ⟨.inr h3.1, wpAnyT_legs hsel r _ a' w' hB' (inv.set hr' (ready_lt hr')) (.inr h3.1) h3.2⟩) (wpOp_of_act hr' h)
  | .turn r, listed, a, w, hB, inv, hS, h => by
    simp only [legsB, Bool.and_eq_true, decide_eq_true_eq] at hB
    obtain ⟨⟨hr, hks⟩, hB'⟩ := hB
    have hr' : k ∈ Region.ready md ops listed := by rw [hr]; simp
    have ht : (listed.setIfInBounds k true).getD k false = true := by
      have h1 : k < listed.size := by rw [inv.size]; exact hks
      simp [h1]
    refine ⟨fun h0 => (by rw [h0] at hr'; cases hr'), fun j hj => ?_⟩
    rw [hr] at hj
    have hjk : j = k := by simpa using hj
    rw [hjk]
    exact wpOp_mono (fun a' w' h3 => ⟨.inl ht, wpAnyT_legs hsel r _ a' w' hB' (inv.set hr' hks) (.inl ht) h3⟩) (wpOp_of_leg hr' h)
  | .alt i j ri rj, listed, a, w, hB, inv, hS, h => by
    simp only [legsB, Bool.and_eq_true, decide_eq_true_eq] at hB
    obtain ⟨⟨⟨hr, hle⟩, hBi⟩, hBj⟩ := hB
    have hi' : i ∈ Region.ready md ops listed := by rw [hr]; simp
    have hj' : j ∈ Region.ready md ops listed := by rw [hr]; simp
    refine ⟨fun h0 => (by rw [h0] at hi'; cases hi'), fun q hq => ?_⟩
    rw [hr] at hq
    rcases List.mem_cons.1 hq with hqi | hq
    · rw [hqi]
      exact wpOp_mono (fun a' w' h3 => ⟨.inr h3.1, wpAnyT_legs hsel ri _ a' w' hBi (inv.set hi' (ready_lt hi')) (.inr h3.1) h3.2⟩) (wpOp_of_act hi' h.1)
    · have hqj : q = j := by simpa using hq
      rw [hqj]
      refine wpOp_mono (fun a' w' h3 => ⟨.inr h3.1, ?_⟩) (wpOp_of_act hj' h.2)
      rw [hle]
      exact wpAnyT_legs hsel rj _ a' w' hBj (inv.set hj' (ready_lt hj')) (.inr h3.1) h3.2

/-- A region, all of it by a plan with a turn. -/
theorem region_legs {id : Nat} {Q : Exit → Act → World → Prop} {a : Act} {w : World} {l : List Oper} (k : Nat) (plan : Trip) (S : World → Prop) (hm : P.follows .mixedOrders = true)
    (hB : (Region.noSelect l.toArray && legsB .any l.toArray k plan (Array.replicate l.toArray.size false) && decide (legsLen plan = l.toArray.size)) = true) (hS : S w.drew)
    (h : wpLegs P l.toArray k S (fun a' w' => Q .normal a' w') plan a w.drew) : (Code.region id l.toArray true).wp P Q a w := by
  simp only [Bool.and_eq_true, decide_eq_true_eq] at hB
  obtain ⟨⟨hsel, hp⟩, hlen⟩ := hB
  have inv0 : HeadInv .any l.toArray l.toArray.size (Array.replicate l.toArray.size false) :=
    ⟨by simp, fun j oj _ hl => (by rw [getD_replicate_false] at hl; cases hl), fun t h1 h2 => absurd h2 (by omega)⟩
  have H := wpAnyT_legs (md := .any) (k := k) (K0 := fun a' w' => Q .normal a' w') hsel plan _ a w.drew hp inv0 (.inr hS) h
  have H2 := wpAny_of_headT (Q := onlyNormal (fun a' w' => Q .normal a' w')) (g := 0) (fun listed a' w' hL => ⟨hL.1, hL.2⟩) _ _ _ _ H
  rw [hlen, Nat.add_zero] at H2
  refine Code.wp_mono (Q := onlyNormal (fun a' w' => Q .normal a' w')) (fun e a' w' h' => ?_) (wp_region_any hm H2)
  cases e <;> first | exact h' | cases h'

theorem legs_quiet {L : Act → World → Prop} {is : List Nat} {r : Trip} {a : Act} {w : World} (h : wpQuiet P ops S (fun a' => wpLegs P ops k S L r a' w) (sel ops is) a) : wpLegs P ops k S L (.quiet is r) a w := h
theorem legs_free {L : Act → World → Prop} {is : List Nat} {r : Trip} {a : Act} {w : World} (h : wpQuiet P ops (fun _ => True) (fun a' => wpLegs P ops k S L r a' w) (sel ops is) a) : wpLegs P ops k S L (.free is r) a w := h
theorem legs_act {L : Act → World → Prop} {i : Nat} {r : Trip} {a : Act} {w : World} (h : ∀ Q : Exit → Act → World → Prop, (∀ a' w', S w' → wpLegs P ops k S L r a' w' → Q .normal a' w') → wpList P ops Q (sel ops [i]) a w) : wpLegs P ops k S L (.act i r) a w := h
theorem legs_turn {L : Act → World → Prop} {r : Trip} {a : Act} {w : World} (h : ∀ Q : Exit → Act → World → Prop, (∀ a' w', wpLegs P ops k S L r a' w' → Q .normal a' w') → wpList P ops Q (sel ops [k]) a w) : wpLegs P ops k S L (.turn r) a w := h
theorem legs_alt {L : Act → World → Prop} {i j : Nat} {ri rj : Trip} {a : Act} {w : World}
    (h1 : ∀ Q : Exit → Act → World → Prop, (∀ a' w', S w' → wpLegs P ops k S L ri a' w' → Q .normal a' w') → wpList P ops Q (sel ops [i]) a w)
    (h2 : ∀ Q : Exit → Act → World → Prop, (∀ a' w', S w' → wpLegs P ops k S L rj a' w' → Q .normal a' w') → wpList P ops Q (sel ops [j]) a w) : wpLegs P ops k S L (.alt i j ri rj) a w := ⟨h1, h2⟩
theorem legs_end {L : Act → World → Prop} {a : Act} {w : World} (h : L a w) : wpLegs P ops k S L .done a w := h
end
end Go.Proofs.Ytponbponacdhkaa
