/-
  A region that draws its order, by a plan: what only reads (and reads what nobody in the head writes) is taken first, what acts comes up in one forced order; behind the head a tail in one forced order. No program in sight.
-/
import Derived.Test.YtponbponacdhkaaRegTail
import Derived.OrdersHeld
namespace Go.Proofs.Ytponbponacdhkaa
open Go

section
variable {P : Program} {ops : Array Oper} {md : Region.Mode} {S : World → Prop}

/-- Operations that yield a value or fail: no call of a function. -/
def pureOp (o : Oper) : Bool :=
  match o.op with
  | .move _ | .assign _ | .pick .. | .load .. | .binOp .. | .unOp .. | .fieldAddr .. | .field .. | .indexAddr .. | .index .. | .build .. | .slice .. | .convert .. | .lookup .. | .extract .. => true
  | .call c => match c.callee with | .builtin .len => true | _ => false
  | _ => false

theorem value_of_bind {s : Sem Value} {w : World} {n : Next} {w' : World} (h : ((do pure (.value (← s)) : Sem Next)).run P w = .ok n w') : ∃ v, n = .value v := by
  simp only [Sem.run_bind] at h
  cases hs : s.run P w with
  | ok v w1 => rw [hs] at h; simp [Result.andThen] at h; exact ⟨v, h.1.symm⟩
  | halt x w1 => rw [hs] at h; simp [Result.andThen] at h
theorem pure_value {o : Oper} (h : pureOp o = true) {ev : Operand → Value} {w w' : World} {n : Next} (hr : (execOp ev o).run P w = .ok n w') : ∃ v, n = .value v := by
  unfold pureOp at h
  split at h <;> rename_i ho <;> (try cases h)
  case h_16 =>
    split at h
    · rename_i hc
      unfold execOp at hr
      simp only [ho] at hr
      simp only [resolve, hc, Sem.run_bind, Sem.run_pure, Result.andThen_ok, invoke, builtin] at hr
      exact value_of_bind (by simpa [Sem.run_bind] using hr)
    · cases h
  all_goals
    unfold execOp at hr
    simp only [ho] at hr
    first
      | exact value_of_bind hr
      | (simp only [Sem.run_pure] at hr; cases hr; exact ⟨_, rfl⟩)
      | (simp only [Sem.run_bind] at hr
         generalize Sem.run P (asBool _) w = r at hr
         cases r with
         | ok v w1 => simp [Result.andThen, Sem.run_pure] at hr; exact ⟨_, hr.1.symm⟩
         | halt x w1 => simp [Result.andThen] at hr)

/-- How a head is walked: these are taken first, one behind the other; or this one comes up, alone; or these two, in either order. -/
inductive Seg
  | quiet (is : List Nat)
  | act (i : Nat)
  | alt (i j : Nat)

def sel (ops : Array Oper) : List Nat → List Oper
  | [] => []
  | i :: r => match ops[i]? with
    | some o => o :: sel ops r
    | none => []

/-- What is to be shown of a plan. -/
def wpPlan (P : Program) (ops : Array Oper) (S : World → Prop) (L : Act → World → Prop) : List Seg → Act → World → Prop
  | [], a, w => L a w
  | .quiet is :: r, a, w => wpQuiet P ops S (fun a' => wpPlan P ops S L r a' w) (sel ops is) a
  | .act i :: r, a, w => ∀ Q : Exit → Act → World → Prop, (∀ a' w', S w' → wpPlan P ops S L r a' w' → Q .normal a' w') → wpList P ops Q (sel ops [i]) a w
  | .alt i j :: r, a, w =>
    (∀ Q : Exit → Act → World → Prop, (∀ a' w', S w' → (∀ Q2 : Exit → Act → World → Prop, (∀ a2 w2, S w2 → wpPlan P ops S L r a2 w2 → Q2 .normal a2 w2) → wpList P ops Q2 (sel ops [j]) a' w') → Q .normal a' w') → wpList P ops Q (sel ops [i]) a w) ∧
    (∀ Q : Exit → Act → World → Prop, (∀ a' w', S w' → (∀ Q2 : Exit → Act → World → Prop, (∀ a2 w2, S w2 → wpPlan P ops S L r a2 w2 → Q2 .normal a2 w2) → wpList P ops Q2 (sel ops [i]) a' w') → Q .normal a' w') → wpList P ops Q (sel ops [j]) a w)

/-- The plan is one of this region: 'listed' is what has come up; 'len' how many. -/
def quietB (md : Region.Mode) (ops : Array Oper) (n : Nat) : List Nat → Array Bool → Option (Array Bool)
  | [], listed => some listed
  | i :: r, listed =>
    if decide (i < n) && ((ops[i]?).map pureOp).getD false && (Region.ready md ops listed).contains i && Region.free md ops listed i then quietB md ops n r (listed.setIfInBounds i true) else none
def planB (md : Region.Mode) (ops : Array Oper) (n : Nat) : List Seg → Array Bool → Bool
  | [], listed => Region.seqB md ops (ops.size - n) n listed
  | .quiet is :: r, listed => match quietB md ops n is listed with
    | some l => planB md ops n r l
    | none => false
  | .act i :: r, listed => decide (i < n) && decide (Region.ready md ops listed = [i]) && planB md ops n r (listed.setIfInBounds i true)
  | .alt i j :: r, listed => decide (i < n) && decide (j < n) && decide (i ≠ j) && decide (Region.ready md ops listed = [i, j]) && decide (Region.ready md ops (listed.setIfInBounds i true) = [j]) && decide (Region.ready md ops (listed.setIfInBounds j true) = [i]) && planB md ops n r ((listed.setIfInBounds i true).setIfInBounds j true)
def planTailB (md : Region.Mode) (ops : Array Oper) (n : Nat) (plan : List Seg) : Bool :=
  Region.noSelect ops && decide (n < ops.size) && Region.sinkB md ops n && Region.chainB md ops n && planB md ops n plan (Array.replicate ops.size false)

/-- Whatever order is picked, S behind every operation of the head. -/
def wpAnyE (P : Program) (md : Region.Mode) (ops : Array Oper) (Q : Exit → Act → World → Prop) (S : World → Prop) (n : Nat) (L : Array Bool → Act → World → Prop) : Nat → Array Bool → Act → World → Prop
  | 0, listed, a, w => L listed a w
  | f + 1, listed, a, w =>
    Region.ready md ops listed ≠ [] ∧ ∀ i ∈ Region.ready md ops listed, i < n ∧ wpOp P ops Q i (fun a' w' => S w' ∧ wpAnyE P md ops Q S n L f (listed.setIfInBounds i true) a' w') a w

theorem wpAny_of_headE {Q : Exit → Act → World → Prop} {n g : Nat} {L : Array Bool → Act → World → Prop} (hL : ∀ listed a w, L listed a w → wpAny P md ops Q g listed a w) :
    ∀ (f : Nat) (listed : Array Bool) (a : Act) (w : World), wpAnyE P md ops Q S n L f listed a w → wpAny P md ops Q (f + g) listed a w
  | 0, listed, a, w, h => by rw [Nat.zero_add]; exact hL _ _ _ h
  | f + 1, listed, a, w, h => by
    rw [show f + 1 + g = (f + g) + 1 by omega]
    exact ⟨fun h0 => absurd h0 h.1, fun i hi => wpOp_mono (fun a' w' h' => wpAny_of_headE hL f _ a' w' h'.2) (h.2 i hi).2⟩

theorem wpAnyE_first {Q : Exit → Act → World → Prop} {n i : Nat} {oi : Oper} {v : Value} {L : Array Bool → Act → World → Prop} (hi : ops[i]? = some oi) (hsel : ∀ (j : Nat) (o : Oper) cs b, ops[j]? = some o → o.op ≠ .select cs b)
    (hQ : ∀ c a w, Q (.panic c) (a.put oi.dst v) w → Q (.panic c) a w)
    (hs : Region.sinkB md ops n = true) (hc : Region.chainB md ops n = true) (hn : n < ops.size) (hin : i < n)
    (hdone : ∀ listed a w, L listed a w → ∀ j ∈ Region.ready md ops listed, n ≤ j) :
    ∀ (f : Nat) (listed : Array Bool) (a : Act) (w : World), HeadInv md ops n listed →
      (∀ j oj, ops[j]? = some oj → j ≠ i → listed.getD j true = false → (∀ e ∈ oj.after, Region.binds md e = true → e.on ≠ i) → oi.apart ops oj = true) →
      i ∈ Region.ready md ops listed → YieldsIf P ops S oi v a → S w →
      wpAnyE P md ops Q S n L f (listed.setIfInBounds i true) (a.put oi.dst v) w → wpAnyE P md ops Q S n L (f + 1) listed a w := by
  intro f
  induction f with
  | zero =>
    intro listed a w inv _ hr hy hS H
    have hun := (mem_ready.1 hr).1
    refine ⟨fun h => (by rw [h] at hr; cases hr), fun j hj => ?_⟩
    have hjn : j < n := by
      rcases Nat.lt_or_ge j n with h | h
      · exact h
      · exact absurd hj (tail_waits hs hc hn inv _ i rfl hin hun j h)
    refine ⟨hjn, ?_⟩
    by_cases hji : j = i
    · subst hji; exact hy.wpOp hi hS ⟨hS, H⟩
    · have := hdone _ _ _ H j (ready_mono hj hji)
      omega
  | succ f ih =>
    intro listed a w inv hfree hr hy hS H
    have hun := (mem_ready.1 hr).1
    refine ⟨fun h => (by rw [h] at hr; cases hr), fun j hj => ?_⟩
    have hjn : j < n := by
      rcases Nat.lt_or_ge j n with h | h
      · exact h
      · exact absurd hj (tail_waits hs hc hn inv _ i rfl hin hun j h)
    refine ⟨hjn, ?_⟩
    by_cases hji : j = i
    · subst hji; exact hy.wpOp hi hS ⟨hS, H⟩
    · have h1 := (H.2 j (ready_mono hj hji)).2
      obtain ⟨hjun, oj, hoj, hall⟩ := mem_ready.1 hj
      have hnot : ∀ e ∈ oj.after, Region.binds md e = true → e.on ≠ i := fun e he hb heq => by
        have h1 := hall e he hb
        rw [heq, getD_both hun] at h1
        cases h1
      have h2 := wpOp_putIf hoj (hfree j oj hoj hji hjun hnot) (fun cs b => hsel i oi cs b hi) (fun cs b => hsel j oj cs b hoj) hQ hy h1
      have hfree' : ∀ k ok, ops[k]? = some ok → k ≠ i → (listed.setIfInBounds j true).getD k true = false →
          (∀ e ∈ ok.after, Region.binds md e = true → e.on ≠ i) → oi.apart ops ok = true := fun k ok hk hki hun hno => by
        refine hfree k ok hk hki ?_ hno
        by_cases hjk : j = k
        · subst hjk; exact hjun
        · rw [getD_set_ne true hjk] at hun; exact hun
      refine wpOp_mono (fun a' w' h3 => ⟨h3.2.1, ih (listed.setIfInBounds j true) a' w' (inv.set hj hjn) hfree' (ready_mono hr (Ne.symm hji)) h3.1 h3.2.1 ?_⟩) h2
      rw [Array.setIfInBounds_comm _ _ hji]
      exact h3.2.2

theorem yieldsIf_of_quiet {o : Oper} {a : Act} {K : Act → Prop} (hp : pureOp o = true) (h : if Region.wanted o (yielded ops a.tmps) then o.quiet P a S K else K (a.put o.dst undef)) : ∃ v, YieldsIf P ops S o v a ∧ K (a.put o.dst v) := by
  by_cases hw : Region.wanted o (yielded ops a.tmps) = true
  · rw [if_pos hw] at h
    obtain ⟨v, h1, h2⟩ := h
    refine ⟨v, .inl ⟨hw, fun w hS => ?_⟩, h2⟩
    have h3 := h1 w hS
    unfold Oper.quietAt at h3
    generalize hr : (execOp a.eval o).run P w = r at h3
    cases r with
    | ok n w' =>
      obtain ⟨u, rfl⟩ := pure_value hp hr
      simp only [Oper.quietUpon] at h3
      obtain ⟨rfl, rfl⟩ := h3
      rfl
    | halt x w' => simp only [Oper.quietUpon] at h3
  · rw [if_neg hw] at h
    exact ⟨undef, .inr ⟨by simpa using hw, rfl⟩, h⟩

theorem oper_wp_monoQ {o : Oper} {a : Act} {w : World} {K K' : Act → World → Prop} {Q Q' : Exit → Act → World → Prop} (h : ∀ a w, K a w → K' a w) (hp : ∀ c a w, Q (.panic c) a w → Q' (.panic c) a w) (hg : LetsOut Q → LetsOut Q')
    (hh : o.wp P a w K Q) : o.wp P a w K' Q' := by
  unfold Oper.wp at *
  generalize (execOp a.eval o).run P w = r at *
  cases r with
  | ok n w' =>
    cases n <;> simp only [Oper.upon] at hh ⊢ <;>
      first
        | exact h _ _ hh
        | exact Calls.mono hh (fun e w'' he => by cases e <;> first | exact h _ _ he | exact hp _ _ _ he | exact hg he)
        | exact Rows.mono hh (fun _ _ he => h _ _ he)
        | exact hp _ _ _ hh
        | exact hh
  | halt x w' => cases x <;> simp only [Oper.upon] at hh ⊢ <;> first | exact hp _ _ _ hh | exact hh

def onlyNormal (K : Act → World → Prop) : Exit → Act → World → Prop
  | .normal, a, w => K a w
  | _, _, _ => False

theorem wpOp_of_list {i : Nat} {o : Oper} {a : Act} {w : World} {K K0 : Act → World → Prop} (hi : ops[i]? = some o) (h : wpList P ops (onlyNormal K) [o] a w) : wpOp P ops (onlyNormal K0) i K a w := by
  unfold wpOp
  simp only [hi]
  simp only [wpList] at h
  split
  · rename_i hw
    rw [if_pos hw] at h
    rcases h with h | ⟨_, a', w', h⟩
    · exact .inl (oper_wp_monoQ (fun _ _ h => h) (fun _ _ _ h => h) (fun ⟨_, _, h⟩ => h.elim) h)
    · cases h
  · rename_i hw
    rw [if_neg hw] at h
    exact h

def planLen : List Seg → Nat
  | [] => 0
  | .quiet is :: r => is.length + planLen r
  | .act _ :: r => planLen r + 1
  | .alt _ _ :: r => planLen r + 2

theorem wpAnyE_quiet {n : Nat} {L : Array Bool → Act → World → Prop} {K0 : Act → World → Prop} (hsel : Region.noSelect ops = true) (hs : Region.sinkB md ops n = true) (hc : Region.chainB md ops n = true) (hn : n < ops.size)
    (hdone : ∀ listed a w, L listed a w → ∀ j ∈ Region.ready md ops listed, n ≤ j) {f : Nat} {w : World} (hS : S w) {Lq : Act → Prop} :
    ∀ (is : List Nat) (listed l2 : Array Bool) (a : Act), quietB md ops n is listed = some l2 → HeadInv md ops n listed → wpQuiet P ops S Lq (sel ops is) a →
      (∀ a', Lq a' → HeadInv md ops n l2 → wpAnyE P md ops (onlyNormal K0) S n L f l2 a' w) → wpAnyE P md ops (onlyNormal K0) S n L (is.length + f) listed a w
  | [], listed, l2, a, hB, inv, h, hk => by
    simp only [quietB, Option.some.injEq] at hB
    subst hB
    rw [List.length_nil, Nat.zero_add]
    exact hk a h inv
  | i :: r, listed, l2, a, hB, inv, h, hk => by
    simp only [quietB] at hB
    split at hB
    · rename_i hb
      simp only [Bool.and_eq_true, decide_eq_true_eq] at hb
      obtain ⟨⟨⟨hin, hp⟩, hr⟩, hf⟩ := hb
      cases ho : ops[i]? with
      | none => rw [ho] at hp; simp at hp
      | some o =>
        rw [ho] at hp
        have hp' : pureOp o = true := by simpa using hp
        have hr' : i ∈ Region.ready md ops listed := by simpa using hr
        simp only [sel, ho] at h
        obtain ⟨v, hy, hK⟩ := yieldsIf_of_quiet hp' h
        rw [List.length_cons, show r.length + 1 + f = (r.length + f) + 1 by omega]
        exact wpAnyE_first ho (Region.noSelect_spec hsel) (fun _ _ _ h => h) hs hc hn hin hdone _ _ _ _ inv (Region.free_spec ho hf) hr' hy hS
          (wpAnyE_quiet hsel hs hc hn hdone hS r _ l2 _ hB (inv.set hr' hin) hK hk)
    · cases hB

theorem wpOp_of_act {i : Nat} {listed : Array Bool} {a : Act} {w : World} {K K0 : Act → World → Prop} (hr : i ∈ Region.ready md ops listed)
    (h : ∀ Q : Exit → Act → World → Prop, (∀ a' w', S w' → K a' w' → Q .normal a' w') → wpList P ops Q (sel ops [i]) a w) : wpOp P ops (onlyNormal K0) i (fun a' w' => S w' ∧ K a' w') a w := by
  obtain ⟨_, o, ho, _⟩ := mem_ready.1 hr
  have h2 := h (onlyNormal (fun a' w' => S w' ∧ K a' w')) (fun a' w' h1 h2 => ⟨h1, h2⟩)
  simp only [sel, ho] at h2
  exact wpOp_of_list ho h2

theorem wpAnyE_plan {n : Nat} {Lq K0 : Act → World → Prop} (hsel : Region.noSelect ops = true) (hs : Region.sinkB md ops n = true) (hc : Region.chainB md ops n = true) (hn : n < ops.size) :
    ∀ (plan : List Seg) (listed : Array Bool) (a : Act) (w : World), planB md ops n plan listed = true → HeadInv md ops n listed → S w → wpPlan P ops S Lq plan a w →
      wpAnyE P md ops (onlyNormal K0) S n (fun listed' a' w' => Region.seqB md ops (ops.size - n) n listed' = true ∧ Lq a' w') (planLen plan) listed a w
  | [], listed, a, w, hB, inv, hS, h => ⟨hB, h⟩
  | .quiet is :: r, listed, a, w, hB, inv, hS, h => by
    simp only [planB] at hB
    split at hB
    · rename_i l2 hq
      exact wpAnyE_quiet hsel hs hc hn (fun _ _ _ hL => seqB_ready hL.1) hS is listed l2 a hq inv h (fun a' ha' inv' => wpAnyE_plan hsel hs hc hn r l2 a' w hB inv' hS ha')
    · cases hB
  | .act i :: r, listed, a, w, hB, inv, hS, h => by
    simp only [planB, Bool.and_eq_true, decide_eq_true_eq] at hB
    obtain ⟨⟨hin, hr⟩, hB'⟩ := hB
    have hr' : i ∈ Region.ready md ops listed := by rw [hr]; simp
    refine ⟨fun h0 => (by rw [h0] at hr'; cases hr'), fun j hj => ?_⟩
    rw [hr] at hj
    obtain rfl : j = i := by simpa using hj
    refine ⟨hin, ?_⟩
    exact wpOp_mono (fun a' w' h3 => ⟨h3.1, wpAnyE_plan hsel hs hc hn r _ a' w' hB' (inv.set hr' hin) h3.1 h3.2⟩) (wpOp_of_act hr' h)
  | .alt i j :: r, listed, a, w, hB, inv, hS, h => by
    simp only [planB, Bool.and_eq_true, decide_eq_true_eq] at hB
    obtain ⟨⟨⟨⟨⟨⟨hin, hjn⟩, hij⟩, hr⟩, hri⟩, hrj⟩, hB'⟩ := hB
    have hi' : i ∈ Region.ready md ops listed := by rw [hr]; simp
    have hj' : j ∈ Region.ready md ops listed := by rw [hr]; simp
    have hi2 : j ∈ Region.ready md ops (listed.setIfInBounds i true) := by rw [hri]; simp
    have hj2 : i ∈ Region.ready md ops (listed.setIfInBounds j true) := by rw [hrj]; simp
    refine ⟨fun h0 => (by rw [h0] at hi'; cases hi'), fun k hk => ?_⟩
    rw [hr] at hk
    rcases List.mem_cons.1 hk with rfl | hk
    · refine ⟨hin, wpOp_mono (fun a' w' h3 => ⟨h3.1, ?_⟩) (wpOp_of_act hi' h.1)⟩
      refine ⟨fun h0 => (by rw [h0] at hi2; cases hi2), fun k2 hk2 => ?_⟩
      rw [hri] at hk2
      obtain rfl : k2 = j := by simpa using hk2
      exact ⟨hjn, wpOp_mono (fun a2 w2 h4 => ⟨h4.1, wpAnyE_plan hsel hs hc hn r _ a2 w2 hB' ((inv.set hi' hin).set hi2 hjn) h4.1 h4.2⟩) (wpOp_of_act hi2 h3.2)⟩
    · obtain rfl : k = j := by simpa using hk
      refine ⟨hjn, wpOp_mono (fun a' w' h3 => ⟨h3.1, ?_⟩) (wpOp_of_act hj' h.2)⟩
      refine ⟨fun h0 => (by rw [h0] at hj2; cases hj2), fun k2 hk2 => ?_⟩
      rw [hrj] at hk2
      obtain rfl : k2 = i := by simpa using hk2
      refine ⟨hin, wpOp_mono (fun a2 w2 h4 => ⟨h4.1, ?_⟩) (wpOp_of_act hj2 h3.2)⟩
      rw [Array.setIfInBounds_comm _ _ (Ne.symm hij)]
      exact wpAnyE_plan hsel hs hc hn r _ a2 w2 hB' ((inv.set hi' hin).set hi2 hjn) h4.1 h4.2

/-- A region by a plan. -/
theorem region_plan {id : Nat} {Q : Exit → Act → World → Prop} {a : Act} {w : World} {l : List Oper} (n : Nat) (plan : List Seg) (S : World → Prop) (hm : P.follows .mixedOrders = true)
    (hB : (planTailB .any l.toArray n plan && decide (planLen plan = n)) = true) (hS : S w.drew)
    (h : ∀ Q' : Exit → Act → World → Prop, (∀ a' w', Q .normal a' w' → Q' .normal a' w') → wpPlan P l.toArray S (fun a' w' => wpList P l.toArray Q' (l.drop n) a' w') plan a w.drew) : (Code.region id l.toArray true).wp P Q a w := by
  simp only [planTailB, Bool.and_eq_true, decide_eq_true_eq] at hB
  obtain ⟨⟨⟨⟨⟨hsel, hn⟩, hs⟩, hc⟩, hp⟩, hlen⟩ := hB
  have hn' : n < l.length := by simpa using hn
  have hdl : (l.drop n).length = l.toArray.size - n := by simp
  have inv0 : HeadInv .any l.toArray n (Array.replicate l.toArray.size false) :=
    ⟨by simp, fun j oj _ hl => (by rw [getD_replicate_false] at hl; cases hl), fun t _ ht => getD_in (by simpa using ht) (getD_replicate_false _ _)⟩
  have hh := h (onlyNormal (fun a' w' => Q .normal a' w')) (fun _ _ h => h)
  have H := wpAnyE_plan (md := .any) (K0 := fun a' w' => Q .normal a' w') hsel hs hc hn plan _ a w.drew hp inv0 hS hh
  have H2 := wpAny_of_headE (Q := onlyNormal (fun a' w' => Q .normal a' w')) (g := l.toArray.size - n) (fun listed a' w' hL => by
    have := wpAny_of_seq (md := .any) (Q' := onlyNormal (fun a' w' => Q .normal a' w')) (l.drop n) n listed a' w' (fun j => by simp [List.getElem?_drop]) (by rw [hdl]; exact hL.1) hL.2
    rwa [hdl] at this) _ _ _ _ H
  rw [hlen, show n + (l.toArray.size - n) = l.toArray.size by omega] at H2
  refine Code.wp_mono (Q := onlyNormal (fun a' w' => Q .normal a' w')) (fun e a' w' h' => ?_) (wp_region_any hm H2)
  cases e <;> first | exact h' | cases h'

theorem plan_quiet {L : Act → World → Prop} {is : List Nat} {r : List Seg} {a : Act} {w : World} (h : wpQuiet P ops S (fun a' => wpPlan P ops S L r a' w) (sel ops is) a) : wpPlan P ops S L (.quiet is :: r) a w := h
theorem plan_act {L : Act → World → Prop} {i : Nat} {r : List Seg} {a : Act} {w : World} (h : ∀ Q : Exit → Act → World → Prop, (∀ a' w', S w' → wpPlan P ops S L r a' w' → Q .normal a' w') → wpList P ops Q (sel ops [i]) a w) : wpPlan P ops S L (.act i :: r) a w := h
theorem plan_alt {L : Act → World → Prop} {i j : Nat} {r : List Seg} {a : Act} {w : World}
    (h1 : ∀ Q : Exit → Act → World → Prop, (∀ a' w', S w' → (∀ Q2 : Exit → Act → World → Prop, (∀ a2 w2, S w2 → wpPlan P ops S L r a2 w2 → Q2 .normal a2 w2) → wpList P ops Q2 (sel ops [j]) a' w') → Q .normal a' w') → wpList P ops Q (sel ops [i]) a w)
    (h2 : ∀ Q : Exit → Act → World → Prop, (∀ a' w', S w' → (∀ Q2 : Exit → Act → World → Prop, (∀ a2 w2, S w2 → wpPlan P ops S L r a2 w2 → Q2 .normal a2 w2) → wpList P ops Q2 (sel ops [i]) a' w') → Q .normal a' w') → wpList P ops Q (sel ops [j]) a w) : wpPlan P ops S L (.alt i j :: r) a w := ⟨h1, h2⟩
theorem plan_tail {L : Act → World → Prop} {a : Act} {w : World} (h : L a w) : wpPlan P ops S L [] a w := h
end
end Go.Proofs.Ytponbponacdhkaa
