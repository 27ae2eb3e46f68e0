/-
  Layer 6 without the program: a disk stays as it must be.
-/
import Derived.Test.YtponbponacdhkaaDkCrash
namespace Go.Proofs.Ytponbponacdhkaa
open Go.RowKit

theorem perm_insN (s : List UInt8) (id : Int) : ∀ M : List Nm, (insN s id M).Perm ((s, id) :: M)
  | [] => by rw [insN]
  | x :: r => by
    rw [insN]
    split
    · exact ((perm_insN s id r).cons x).trans (List.Perm.swap _ _ _)
    · exact List.Perm.refl _
theorem findN_mem {s : List UInt8} {M : List Nm} {x : Nm} (h : findN s M = some x) : x ∈ M ∧ x.1 = s := by
  unfold findN at h
  exact ⟨List.mem_of_find?_eq_some h, by have := List.find?_some h; simpa using this⟩
theorem done_cases {M M' : List Nm} {m : Mv} (h : doneN M m = some M') : vld m.name = true ∧
    ((m.kind = 1 ∧ 1 ≤ m.id ∧ findN m.name M = none ∧ M' = insN m.name m.id M) ∨
     (m.kind = 2 ∧ M' = dropN m.name M) ∨
     (m.kind = 3 ∧ vld m.dst = true ∧ ∃ x, findN m.name M = some x ∧ M' = insN m.dst x.2 (dropN m.dst (dropN m.name M)))) := by
  unfold doneN at h
  split at h
  · cases h
  · rename_i hv
    refine ⟨by simpa using hv, ?_⟩
    split at h
    · rename_i hk
      split at h
      · cases h
      · rename_i hc
        refine .inl ⟨hk, by omega, ?_, by injection h with h; exact h.symm⟩
        cases hf : findN m.name M with
        | none => rfl
        | some x => rw [hf] at hc; simp at hc
    · split at h
      · rename_i hk
        split at h
        · cases h
        · exact .inr (.inl ⟨hk, by injection h with h; exact h.symm⟩)
      · split at h
        · rename_i hk
          cases hf : findN m.name M with
          | none => rw [hf] at h; cases h
          | some x =>
            rw [hf] at h
            dsimp only at h
            split at h
            · cases h
            · rename_i hc
              refine .inr (.inr ⟨hk, ?_, x, rfl, by injection h with h; exact h.symm⟩)
              cases hvd : vld m.dst with
              | true => rfl
              | false => simp [hvd] at hc
        · cases h
theorem dropN_sub (s : List UInt8) (M : List Nm) : (dropN s M).Sublist M := List.filter_sublist
theorem done_nodup {M M' : List Nm} {m : Mv} {r : List Mv} (hn : (M.map (·.2) ++ addI (m :: r)).Nodup) (h : doneN M m = some M') : (M'.map (·.2) ++ addI r).Nodup := by
  obtain ⟨_, ⟨hk, hid, _, rfl⟩ | ⟨hk, rfl⟩ | ⟨hk, _, x, hx, rfl⟩⟩ := done_cases h
  · have ha : addI (m :: r) = m.id :: addI r := by unfold addI; rw [List.filter_cons]; simp [hk]
    rw [ha] at hn
    have hp : ((insN m.name m.id M).map (·.2) ++ addI r).Perm (M.map (·.2) ++ m.id :: addI r) := by
      refine (((perm_insN m.name m.id M).map (·.2)).append_right (addI r)).trans ?_
      exact List.perm_middle.symm
    exact hp.nodup_iff.2 hn
  · have ha : addI (m :: r) = addI r := by unfold addI; rw [List.filter_cons]; simp [hk]
    rw [ha] at hn
    exact hn.sublist (((dropN_sub m.name M).map _).append (List.Sublist.refl _))
  · have ha : addI (m :: r) = addI r := by unfold addI; rw [List.filter_cons]; simp [hk]
    rw [ha] at hn
    obtain ⟨hxm, hxn⟩ := findN_mem hx
    have hp : ((insN m.dst x.2 (dropN m.dst (dropN m.name M))).map (·.2) ++ addI r).Perm ((x :: dropN m.dst (dropN m.name M)).map (·.2) ++ addI r) :=
      ((perm_insN m.dst x.2 (dropN m.dst (dropN m.name M))).map (·.2)).append_right (addI r)
    refine hp.nodup_iff.2 ?_
    obtain ⟨a, b, rfl⟩ := List.append_of_mem hxm
    have hp2 : ((a ++ x :: b).map (·.2) ++ addI r).Perm ((x :: (a ++ b)).map (·.2) ++ addI r) := (List.perm_middle.map _).append_right _
    have hn2 := hp2.nodup_iff.1 hn
    refine hn2.sublist ?_
    refine List.Sublist.append (List.Sublist.map _ (List.Sublist.cons_cons x ?_)) (List.Sublist.refl _)
    refine (dropN_sub _ _).trans ?_
    unfold dropN
    rw [List.filter_append, List.filter_cons, show (x.1 != m.name) = false by simp [hxn]]
    simp only [Bool.false_eq_true, if_false]
    exact List.filter_sublist.append List.filter_sublist
theorem run_nodup : ∀ {L : List Mv} {M M' : List Nm}, (M.map (·.2) ++ addI L).Nodup → runN M L = some M' → (M'.map (·.2)).Nodup
  | [], M, M', hn, h => by
    injection h with h
    subst h
    exact hn.sublist (List.sublist_append_left _ _)
  | m :: r, M, M', hn, h => by
    rw [runN] at h
    obtain ⟨M1, h1, h2⟩ := Option.bind_eq_some_iff.1 h
    exact run_nodup (done_nodup hn h1) h2
theorem done_valid {M M' : List Nm} {m : Mv} (hv : ∀ x ∈ M, vld x.1 = true) (h : doneN M m = some M') : ∀ x ∈ M', vld x.1 = true := by
  obtain ⟨hm, ⟨_, _, _, rfl⟩ | ⟨_, rfl⟩ | ⟨_, hd, x, hx, rfl⟩⟩ := done_cases h <;> intro y hy
  · rcases mem_insN.1 hy with rfl | hy
    · exact hm
    · exact hv y hy
  · exact hv y ((dropN_sub _ _).subset hy)
  · rcases mem_insN.1 hy with rfl | hy
    · exact hd
    · exact hv y ((dropN_sub _ _).subset ((dropN_sub _ _).subset hy))
theorem run_valid : ∀ {L : List Mv} {M M' : List Nm}, (∀ x ∈ M, vld x.1 = true) → runN M L = some M' → ∀ x ∈ M', vld x.1 = true
  | [], M, M', hv, h => by injection h with h; subst h; exact hv
  | m :: r, M, M', hv, h => by
    rw [runN] at h
    obtain ⟨M1, h1, h2⟩ := Option.bind_eq_some_iff.1 h
    exact run_valid (done_valid hv h1) h2
theorem runN_app {m : Mv} {M2 : List Nm} : ∀ {L : List Mv} {M M1 : List Nm}, runN M L = some M1 → doneN M1 m = some M2 → runN M (L ++ [m]) = some M2
  | [], M, M1, h, hd => by injection h with h; subst h; show (doneN M m).bind _ = _; rw [hd]; rfl
  | x :: r, M, M1, h, hd => by
    rw [runN] at h
    obtain ⟨M3, h1, h2⟩ := Option.bind_eq_some_iff.1 h
    rw [List.cons_append, runN, h1]
    exact runN_app h2 hd
theorem Good.valids {D : Dk} (h : Good D) : ∀ x ∈ D.names, vld x.1 = true := run_valid h.valid h.run
theorem addI_app (L : List Mv) (m : Mv) : addI (L ++ [m]) = addI L ++ (if m.kind = 1 then [m.id] else []) := by
  unfold addI
  rw [List.filter_append, List.map_append]
  congr 1
  rw [List.filter_cons]
  by_cases h : m.kind = 1 <;> simp [h]
theorem total_app (L L2 : List Fl) : total (L ++ L2) = total L + total L2 := by unfold total; rw [List.map_append, List.sum_append]
theorem total_set (f : Fl) : ∀ (L : List Fl) (t : Nat) (h : t < L.length), total (L.set t f) + L[t].bytes.length = total L + f.bytes.length
  | x :: r, 0, _ => by simp [total]; omega
  | x :: r, t + 1, h => by
    have ih := total_set f r t (by simpa using h)
    simp [total] at ih ⊢
    omega
theorem total_filter (p : Fl → Bool) : ∀ L : List Fl, total (L.filter p) ≤ total L
  | [] => Nat.le_refl _
  | x :: r => by
    have ih := total_filter p r
    rw [List.filter_cons]
    split <;> simp [total] at ih ⊢ <;> omega
theorem total_map {g : Fl → Fl} (hg : ∀ f, (g f).bytes.length ≤ f.bytes.length) : ∀ L : List Fl, total (L.map g) ≤ total L
  | [] => Nat.le_refl _
  | x :: r => by
    have ih := total_map hg r
    have := hg x
    simp [total] at ih ⊢
    omega
theorem updF_id (L : List Fl) (z : Int) (g : Fl → Fl) (hg : ∀ f, (g f).id = f.id) : (updF L z g).map (·.id) = L.map (·.id) := by
  unfold updF
  rw [List.map_map]
  refine List.map_congr_left fun f _ => ?_
  show (if f.id = z then g f else f).id = f.id
  split
  · exact hg f
  · rfl
theorem pw_of_ids {L L2 : List Fl} (h : L2.map (·.id) = L.map (·.id)) (hp : L.Pairwise fun f g => f.id < g.id) : L2.Pairwise fun f g => f.id < g.id := by
  have h1 : (L.map (·.id)).Pairwise (· < ·) := List.pairwise_map.2 hp
  rw [← h] at h1
  exact List.pairwise_map.1 h1
theorem good_new {q : Int} (h : 0 ≤ q ∧ q ≤ 1073741824) : Good ⟨q, [], [], [], [], 1⟩ :=
  ⟨h, ⟨by dsimp only; omega, by dsimp only; omega⟩, by simp, by simp, by simp, List.Pairwise.nil, by simp, rfl, List.Pairwise.nil, by simp, List.Perm.nil, by simp [Go.Proofs.Ytponbponacdhkaa.total]; exact h.1⟩
theorem good_create {D : Dk} (h : Good D) (hm : D.moves.length < 5000) (s : List UInt8) (hv : vld s = true) : Good (createD D s).1 ∧ (createD D s).1.moves.length ≤ D.moves.length + 1 := by
  unfold createD
  cases hf : findN s D.names with
  | some x => exact ⟨h, by show D.moves.length ≤ _; omega⟩
  | none =>
    dsimp only
    split
    · exact ⟨h, by show D.moves.length ≤ _; omega⟩
    · rename_i hc
      have hnx := h.next
      refine ⟨⟨h.quota, ?_, ?_, h.nk, ?_, h.rising, h.valid, runN_app h.run (done_create hv hf hnx.1), ?_, ?_, ?_, ?_⟩, by simp⟩
      · dsimp only; omega
      · simp; omega
      · simp; omega
      · refine List.pairwise_append.2 ⟨h.files, List.pairwise_singleton _ _, fun f hf' g hg => ?_⟩
        simp at hg
        subst hg
        exact (h.range f hf').2.1
      · intro f hf'
        rcases List.mem_append.1 hf' with h1 | h1
        · have := h.range f h1
          dsimp only
          omega
        · simp at h1
          subst h1
          simp
          omega
      · unfold ids
        dsimp only
        rw [addI_app, List.map_append, ← List.append_assoc]
        exact h.perm.append (by simp)
      · have := h.total
        show (Go.Proofs.Ytponbponacdhkaa.total (D.files ++ [⟨D.next, [], 0⟩]) : Int) ≤ D.quota
        rw [total_app]
        simp [Go.Proofs.Ytponbponacdhkaa.total] at this ⊢
        exact this
theorem good_upd {D : Dk} (h : Good D) {x : Nm} (hx : x ∈ D.names) (g : Fl → Fl) (hg : ∀ f, (g f).id = f.id) (hr : ∀ f, 0 ≤ f.sure → f.sure ≤ f.bytes.length → 0 ≤ (g f).sure ∧ (g f).sure ≤ (g f).bytes.length) (k : Nat) (hk : ∀ f, (g f).bytes.length ≤ f.bytes.length + k) (ht : (Go.Proofs.Ytponbponacdhkaa.total D.files + k : Int) ≤ D.quota) : Good { D with files := updF D.files x.2 g } := by
  have hid := updF_id D.files x.2 g hg
  refine ⟨h.quota, h.next, ?_, h.nk, h.nm, h.rising, h.valid, h.run, pw_of_ids hid h.files, ?_, ?_, ?_⟩
  · have h1 := congrArg List.length hid
    simp only [List.length_map] at h1
    have := h.nf
    dsimp only
    omega
  · intro f hf
    unfold updF at hf
    obtain ⟨f0, hf0, rfl⟩ := List.mem_map.1 hf
    have h1 := h.range f0 hf0
    split
    · have h2 := hr f0 h1.2.2.1 h1.2.2.2
      have h3 := hg f0
      dsimp only
      omega
    · exact h1
  · unfold ids
    dsimp only
    rw [hid]
    exact h.perm
  · obtain ⟨t, ht1, ht2⟩ := h.name_file hx
    dsimp only
    rw [updF_set h.files ht1 ht2]
    have h1 := total_set (g D.files[t]) D.files t ht1
    have h2 := hk D.files[t]
    omega
theorem good_append {D : Dk} (h : Good D) (s b : List UInt8) : Good (appendD D s b).1 ∧ (appendD D s b).1.moves = D.moves := by
  unfold appendD
  cases hf : findN s D.names with
  | none => exact ⟨h, rfl⟩
  | some x =>
    dsimp only
    split
    · exact ⟨h, rfl⟩
    · rename_i hc
      refine ⟨good_upd h (findN_mem hf).1 _ (fun _ => rfl) (fun f h0 h1 => ⟨h0, ?_⟩) b.length (fun f => ?_) (by omega), rfl⟩
      · simp only [List.length_append]; omega
      · simp only [List.length_append]; omega
theorem good_sync {D : Dk} (h : Good D) (s : List UInt8) : Good (syncD D s).1 ∧ (syncD D s).1.moves = D.moves := by
  unfold syncD
  cases hf : findN s D.names with
  | none => exact ⟨h, rfl⟩
  | some x =>
    dsimp only
    have := h.total
    exact ⟨good_upd h (findN_mem hf).1 _ (fun _ => rfl) (fun f h0 h1 => by dsimp only; omega) 0 (fun f => Nat.le_refl _) (by simpa using this), rfl⟩
theorem good_move {D : Dk} (h : Good D) (hm : D.moves.length < 5000) {m : Mv} {M : List Nm} (hk : m.kind ≠ 1) (hd : doneN D.names m = some M) : Good { D with names := M, moves := D.moves ++ [m] } := by
  refine ⟨h.quota, h.next, h.nf, h.nk, ?_, h.rising, h.valid, runN_app h.run hd, h.files, h.range, ?_, h.total⟩
  · simp; omega
  · unfold ids
    dsimp only
    rw [addI_app, if_neg hk, List.append_nil]
    exact h.perm
theorem good_remove {D : Dk} (h : Good D) (hm : D.moves.length < 5000) (s : List UInt8) (hv : vld s = true) : Good (removeD D s).1 ∧ (removeD D s).1.moves.length ≤ D.moves.length + 1 := by
  unfold removeD
  cases hf : findN s D.names with
  | none => exact ⟨h, by show D.moves.length ≤ _; omega⟩
  | some x => exact ⟨good_move h hm (by dsimp only; omega) (done_remove hv hf), by simp⟩
theorem good_rename {D : Dk} (h : Good D) (hm : D.moves.length < 5000) (s t : List UInt8) (hv : vld s = true) (ht : vld t = true) : Good (renameD D s t).1 ∧ (renameD D s t).1.moves.length ≤ D.moves.length + 1 := by
  unfold renameD
  cases hf : findN s D.names with
  | none => exact ⟨h, by show D.moves.length ≤ _; omega⟩
  | some x =>
    dsimp only
    split
    · exact ⟨h, by show D.moves.length ≤ _; omega⟩
    · rename_i hne
      exact ⟨good_move h hm (by dsimp only; omega) (done_rename hv ht hf hne), by simp⟩
theorem perm_ids {l : List Nm} {L : List Fl} (hl : (l.map (·.2)).Nodup) (hL : L.Pairwise fun f g => f.id < g.id) (hs : ∀ z ∈ l.map (·.2), z ∈ L.map (·.id)) : (l.map (·.2)).Perm ((L.filter fun f => decide (f.id ∈ l.map (·.2))).map (·.id)) := by
  have h1 : ((L.filter fun f => decide (f.id ∈ l.map (·.2))).map (·.id)).Nodup := by
    have h2 : (L.map (·.id)).Pairwise (· < ·) := List.pairwise_map.2 hL
    exact (h2.sublist (List.filter_sublist.map _)).imp (fun h e => by omega)
  refine (List.perm_ext_iff_of_nodup hl h1).2 fun z => ?_
  constructor
  · intro hz
    obtain ⟨f, hf, rfl⟩ := List.mem_map.1 (hs z hz)
    exact List.mem_map.2 ⟨f, List.mem_filter.2 ⟨hf, by simpa using hz⟩, rfl⟩
  · intro hz
    obtain ⟨f, hf, rfl⟩ := List.mem_map.1 hz
    have := (List.mem_filter.1 hf).2
    simpa using this
theorem good_settle {D : Dk} (h : Good D) {k : Nat} {l : List Nm} (hl : runN D.kept (D.moves.take k) = some l) : Good (settleD D l) := by
  have hnd := h.nodup.sublist (ids_sub D k)
  have hln := run_nodup hnd hl
  have hmem : ∀ z ∈ l.map (·.2), z ∈ D.files.map (·.id) := fun z hz => by
    obtain ⟨x, hx, rfl⟩ := List.mem_map.1 hz
    exact h.perm.mem_iff.1 ((ids_sub D k).subset (run_ids hl x hx))
  have hp := perm_ids hln h.files hmem
  have hfl : (D.files.filter fun f => decide (f.id ∈ l.map (·.2))).length ≤ 256 := Nat.le_trans (List.length_filter_le _ _) h.nf
  refine ⟨h.quota, h.next, hfl, ?_, by simp [settleD], rising_run h.rising hl, run_valid h.valid hl, rfl, h.files.sublist List.filter_sublist, fun f hf => h.range f (List.mem_filter.1 hf).1, ?_, ?_⟩
  · have h1 := hp.length_eq
    simp only [List.length_map] at h1
    show l.length ≤ 256
    simp only [List.mem_map] at hfl h1
    omega
  · show (l.map (·.2) ++ addI []).Perm _
    simpa [addI, settleD] using hp
  · have h1 := total_filter (fun f => decide (f.id ∈ l.map (·.2))) D.files
    have h2 := h.total
    show ((Go.Proofs.Ytponbponacdhkaa.total (D.files.filter fun f => decide (f.id ∈ l.map (·.2))) : Nat) : Int) ≤ D.quota
    omega
theorem runN_all {M : List Nm} {L : List Mv} : runN M (L.take L.length) = runN M L := by rw [List.take_length]
theorem good_syncdir {D : Dk} (h : Good D) : Good (syncdirD D).1 := good_settle (k := D.moves.length) h (by rw [runN_all]; exact h.run)
theorem good_crash {D : Dk} (h : Good D) {k : Nat} {l : List Nm} (hl : runN D.kept (D.moves.take k) = some l) (K : List Kp) : Good (crashD D l K) := by
  have hs := good_settle h hl
  have hid : ((settleD D l).files.map (crashF K)).map (·.id) = (settleD D l).files.map (·.id) := by rw [List.map_map]; rfl
  refine ⟨hs.quota, hs.next, ?_, hs.nk, hs.nm, hs.rising, hs.valid, hs.run, pw_of_ids hid hs.files, ?_, ?_, ?_⟩
  · show ((settleD D l).files.map (crashF K)).length ≤ 256
    rw [List.length_map]
    exact hs.nf
  · intro f hf
    obtain ⟨f0, hf0, rfl⟩ := List.mem_map.1 hf
    have h1 := hs.range f0 hf0
    have h2 := keepN_range K f0 ⟨h1.2.2.1, h1.2.2.2⟩
    refine ⟨h1.1, h1.2.1, ?_, ?_⟩
    · show 0 ≤ f0.sure + keepN K f0
      omega
    · show f0.sure + keepN K f0 ≤ ((f0.bytes.take (f0.sure + keepN K f0).toNat).length : Int)
      rw [List.length_take]
      omega
  · show (ids (settleD D l)).Perm (((settleD D l).files.map (crashF K)).map (·.id))
    rw [hid]
    exact hs.perm
  · have h1 := total_map (g := crashF K) (fun f => by show (f.bytes.take _).length ≤ _; rw [List.length_take]; omega) (settleD D l).files
    have h2 := hs.total
    show ((Go.Proofs.Ytponbponacdhkaa.total ((settleD D l).files.map (crashF K)) : Nat) : Int) ≤ (settleD D l).quota
    omega
end Go.Proofs.Ytponbponacdhkaa
