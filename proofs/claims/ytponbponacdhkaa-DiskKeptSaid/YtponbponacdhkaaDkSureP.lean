/-
  Layer 6 without the program: what a play keeps of a disk; a file that is sure, and one that may be.
-/
import Derived.Test.YtponbponacdhkaaDkAlive
namespace Go.Proofs.Ytponbponacdhkaa
open Go.RowKit

theorem dnm_e (n : Nat) : dnm n ≠ [101] := by unfold dnm; split <;> (try split) <;> (try split) <;> decide
theorem len_updF (L : List Fl) (z : Int) (g : Fl → Fl) : (updF L z g).length = L.length := by simp [updF]
theorem play_small (D : Dk) (y : Stp) : (playD D y).1.files.length ≤ D.files.length + 1 ∧ (playD D y).1.next ≤ D.next + 1 ∧ ((∀ x ∈ D.names, x.1 ≠ [101]) → ∀ x ∈ (playD D y).1.names, x.1 ≠ [101]) := by
  have same : D.files.length ≤ D.files.length + 1 ∧ D.next ≤ D.next + 1 ∧ ((∀ x ∈ D.names, x.1 ≠ [101]) → ∀ x ∈ D.names, x.1 ≠ [101]) := ⟨Nat.le_succ _, by omega, id⟩
  have hn := dnm_e y.nm
  have hd := dnm_e y.dst
  unfold playD
  split
  · unfold createD
    split
    · exact same
    · split
      · exact same
      · refine ⟨by simp, Int.le_refl _, fun h x hx => ?_⟩
        rcases mem_insN.1 hx with rfl | hx
        · exact hn
        · exact h x hx
  · split
    · unfold appendD
      split
      · exact same
      · split
        · exact same
        · exact ⟨by show (updF _ _ _).length ≤ _; rw [len_updF]; omega, same.2.1, same.2.2⟩
    · split
      · unfold syncD
        split
        · exact same
        · exact ⟨by show (updF _ _ _).length ≤ _; rw [len_updF]; omega, same.2.1, same.2.2⟩
      · split
        · unfold renameD
          split
          · exact same
          · split
            · exact same
            · refine ⟨same.1, same.2.1, fun h x hx => ?_⟩
              rcases mem_insN.1 hx with rfl | hx
              · exact hd
              · exact h x (mem_dropN.1 (mem_dropN.1 hx).1).1
        · split
          · unfold removeD
            split
            · exact same
            · exact ⟨same.1, same.2.1, fun h x hx => h x (mem_dropN.1 hx).1⟩
          · exact ⟨Nat.le_trans (List.length_filter_le _ _) (Nat.le_succ _), same.2.1, same.2.2⟩
/-- What a play keeps of a disk. -/
structure Played (D : Dk) (k : Nat) (q : Int) : Prop where
  good : Good D
  moves : D.moves.length ≤ k
  files : D.files.length ≤ k
  next : D.next ≤ k + 1
  names : ∀ x ∈ D.names, x.1 ≠ [101]
  quota : D.quota = q
theorem Played.start {q : Int} (h : 0 ≤ q ∧ q ≤ 1073741824) : Played ⟨q, [], [], [], [], 1⟩ 0 q :=
  ⟨good_new h, Nat.le_refl _, Nat.le_refl _, Int.le_refl _, (fun _ h => by cases h), rfl⟩
theorem Played.step {D : Dk} {k : Nat} {q : Int} (h : Played D k q) (hk : k < 60) (y : Stp) : Played (playD D y).1 (k + 1) q := by
  have h1 := h.moves
  have h2 := h.files
  have h3 := h.next
  obtain ⟨g1, g2⟩ := good_play h.good (by omega) y
  obtain ⟨s1, s2, s3⟩ := play_small D y
  exact ⟨g1, by omega, by omega, by omega, s3 h.names, (quota_play D y).trans h.quota⟩
theorem Played.used {D : Dk} {k : Nat} {q : Int} (h : Played D k q) : (total D.files : Int) ≤ q := by have h1 := h.good.total; rw [h.quota] at h1; exact h1

theorem find_insN {s : List UInt8} {id : Int} : ∀ {M : List Nm}, (∀ x ∈ M, x.1 ≠ s) → findN s (insN s id M) = some (s, id)
  | [], _ => by simp [insN, findN]
  | x :: r, h => by
    have hx : (x.1 == s) = false := by simpa using h x (by simp)
    unfold insN
    split
    · have h1 := find_insN (id := id) fun y hy => h y (List.mem_cons_of_mem _ hy)
      unfold findN at h1 ⊢
      rw [List.find?_cons, hx]
      exact h1
    · simp [findN]
/-- The file of the name "e" is there, with these bytes, of which so many are sure. -/
structure Has (D : Dk) (z : Int) (b : List UInt8) (s : Int) : Prop where
  name : findN [101] D.names = some ([101], z)
  file : ∀ f ∈ D.files, f.id = z → f.bytes = b ∧ f.sure = s
theorem has_create {D : Dk} {k : Nat} {q : Int} (h : Played D k q) (hk : k ≤ 60) : ∃ D1, createD D [101] = (D1, 0) ∧ Has D1 D.next [] 0 := by
  have h2 := h.files
  have h3 := h.next
  have hn : findN [101] D.names = none := by
    cases he : findN [101] D.names with
    | none => rfl
    | some x => exact absurd (findN_some he).2 (h.names x (findN_some he).1)
  have hr : ¬ (256 ≤ D.files.length ∨ 1099511627776 ≤ D.next) := by omega
  unfold createD
  rw [hn]
  dsimp only
  rw [if_neg hr]
  refine ⟨_, rfl, find_insN h.names, fun f hf he => ?_⟩
  rcases List.mem_append.1 hf with hf | hf
  · have := (h.good.range f hf).2.1
    omega
  · obtain rfl : f = ⟨D.next, [], 0⟩ := by simpa using hf
    exact ⟨rfl, rfl⟩
theorem has_upd {L : List Fl} {z : Int} {g : Fl → Fl} (_hg : ∀ f : Fl, (g f).id = f.id) {f : Fl} (hf : f ∈ updF L z g) (he : f.id = z) : ∃ f0 ∈ L, f0.id = z ∧ f = g f0 := by
  obtain ⟨f0, h0, h1⟩ := List.mem_map.1 hf
  split at h1
  · next h2 => exact ⟨f0, h0, h2, h1.symm⟩
  · next h2 => subst h1; exact absurd he h2
theorem has_append {D : Dk} {z : Int} {b : List UInt8} {s : Int} (h : Has D z b s) (c : List UInt8) : appendD D [101] c = (D, 6) ∨ ∃ D2, appendD D [101] c = (D2, 0) ∧ Has D2 z (b ++ c) s ∧ D2.moves = D.moves ∧ D2.kept = D.kept ∧ D2.names = D.names := by
  unfold appendD
  rw [h.name]
  dsimp only
  split
  · exact .inl rfl
  · refine .inr ⟨_, rfl, ⟨h.name, fun f hf he => ?_⟩, rfl, rfl, rfl⟩
    obtain ⟨f0, h0, hz, rfl⟩ := has_upd (g := fun f => { f with bytes := f.bytes ++ c }) (fun f => rfl) hf he
    obtain ⟨h1, h2⟩ := h.file f0 h0 hz
    exact ⟨by show f0.bytes ++ c = _; rw [h1], h2⟩
theorem has_sync {D : Dk} {z : Int} {b : List UInt8} {s : Int} (h : Has D z b s) : ∃ D2, syncD D [101] = (D2, 0) ∧ Has D2 z b b.length := by
  unfold syncD
  rw [h.name]
  refine ⟨_, rfl, ⟨h.name, fun f hf he => ?_⟩⟩
  obtain ⟨f0, h0, hz, rfl⟩ := has_upd (g := fun f => { f with sure := f.bytes.length }) (fun f => rfl) hf he
  obtain ⟨h1, h2⟩ := h.file f0 h0 hz
  exact ⟨h1, by show (f0.bytes.length : Int) = _; rw [h1]⟩
theorem has_syncdir {D : Dk} {z : Int} {b : List UInt8} {s : Int} (h : Has D z b s) : ∃ D2, syncdirD D = (D2, 0) ∧ Has D2 z b s ∧ D2.moves = [] ∧ D2.kept = D2.names :=
  ⟨_, rfl, ⟨h.name, fun f hf he => h.file f (List.mem_filter.1 hf).1 he⟩, rfl, rfl⟩
theorem has_read {D : Dk} {z : Int} {b : List UInt8} {s : Int} (h : Has D z b s) (hG : Good D) (hk : D.kept = D.names) {K : List Kp} {rl : List UInt8} {rerr : Int} (hr : ReadPost (crashD D D.kept K) [101] rl rerr) :
    rerr = 0 ∧ ∃ m : Nat, s ≤ m ∧ m ≤ b.length ∧ rl = b.take m := by
  have hn : findN [101] (crashD D D.kept K).names = some ([101], z) := by show findN [101] D.kept = _; rw [hk]; exact h.name
  rcases hr with ⟨h1, _, _⟩ | ⟨z2, t, ht, h1, h2, h3, h4⟩
  · rw [hn] at h1; cases h1
  · rw [hn] at h1
    obtain rfl : z = z2 := by simpa using h1
    refine ⟨h4, ?_⟩
    have hm := List.getElem_mem ht
    obtain ⟨f0, h0, he⟩ := List.mem_map.1 (show _ ∈ (settleD D D.kept).files.map (crashF K) from hm)
    have h0m := (List.mem_filter.1 h0).1
    have hid : f0.id = z := by rw [← h2, ← he]; rfl
    obtain ⟨hb, hs⟩ := h.file f0 h0m hid
    have hrg := hG.range f0 h0m
    have hkn := keepN_range K f0 ⟨hrg.2.2.1, hrg.2.2.2⟩
    rw [hb] at hkn hrg
    rw [hs] at hkn hrg
    refine ⟨(s + keepN K f0).toNat, by omega, by omega, ?_⟩
    rw [h3, ← he]
    show f0.bytes.take (f0.sure + keepN K f0).toNat = _
    rw [hb, hs]

/-! ### Behind a SyncDir -/
theorem settle_twice (D : Dk) : (settleD (settleD D D.names) D.names).files = (settleD D D.names).files := by
  unfold settleD
  dsimp only
  rw [List.filter_filter]
  simp
theorem kept_crash (D : Dk) : (crashD (settleD D D.names) D.names []).names = D.names ∧ (crashD (settleD D D.names) D.names []).files = (settleD D D.names).files.map (crashF []) := by
  refine ⟨rfl, ?_⟩
  show (settleD (settleD D D.names) D.names).files.map (crashF []) = _
  rw [settle_twice]
/-- A file of a disk in memory. -/
theorem OD.file {w : World} {base : Nat} {x : DV} {D : Dk} (h : OD w base x D) {k : Nat} (hk : k < D.files.length) : ∃ b o pa pn pc, x.fa = some ⟨b, o, none⟩ ∧ w.cell? ⟨b, o + k * 3 + 1, none⟩ = some (.slice pa pn pc) ∧ w.cell? ⟨b, o + k * 3 + 2, none⟩ = some (.int .i64 D.files[k].sure) ∧ Bs w pa pn pc D.files[k].bytes := by
  have hl := h.fn
  have hkm : k < x.fm.length := by omega
  have he : x.fm[k].1 = D.files[k] := by
    have h1 := h.fm
    have h2 : (x.fm.map (·.1))[k]'(by simpa using hkm) = D.files[k] := by simp only [h1]
    simpa using h2
  obtain ⟨b, o, ha, hc⟩ := Row.at fcl_len (slice_row h.files).1 (by omega : 0 < x.fn)
  have hb := h.bytes x.fm[k] (List.getElem_mem hkm)
  obtain ⟨⟨f, pa, pn, pc⟩, hy⟩ : ∃ y, x.fm[k] = y := ⟨_, rfl⟩
  have h1 := hc k hkm 1 (.slice pa pn pc) (by rw [hy]; rfl)
  have h2 := hc k hkm 2 (.int .i64 D.files[k].sure) (by rw [← he, hy]; rfl)
  rw [hy] at hb he
  dsimp only at hb he
  refine ⟨b, o, pa, pn, pc, ha, h1, h2, ?_⟩
  obtain ⟨a2, c2, hv, hs⟩ := Sl.of_owns hb
  injection hv with e1 e2 e3
  subst e1 e2 e3
  rw [← he]
  exact hs
end Go.Proofs.Ytponbponacdhkaa
