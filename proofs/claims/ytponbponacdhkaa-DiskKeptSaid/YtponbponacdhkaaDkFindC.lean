/-
  Layer 6's contracts: find.
-/
import Derived.Test.YtponbponacdhkaaDkFind
namespace Go.Proofs.Ytponbponacdhkaa
open Go.RowKit

theorem run_ids {M : List Nm} : ∀ {L : List Mv} {M' : List Nm}, runN M L = some M' → ∀ x ∈ M', x.2 ∈ M.map (·.2) ++ addI L
  | [], M', h, x, hx => by
    simp only [runN, Option.some.injEq] at h
    subst h
    simpa [addI] using ⟨x.1, hx⟩
  | m :: r, M', h, x, hx => by
    unfold runN at h
    cases hd : doneN M m with
    | none => rw [hd] at h; cases h
    | some M1 =>
      rw [hd] at h
      have h1 := run_ids (M := M1) (L := r) (M' := M') (by simpa using h) x hx
      have hsub : ∀ y ∈ M1, y.2 ∈ M.map (·.2) ∨ (m.kind = 1 ∧ y.2 = m.id) := by
        intro y hy
        unfold doneN at hd
        split at hd
        · cases hd
        · split at hd
          · rename_i hk
            split at hd
            · cases hd
            · cases hd
              rcases mem_insN.1 hy with rfl | hy
              · exact .inr ⟨hk, rfl⟩
              · exact .inl (List.mem_map_of_mem hy)
          · split at hd
            · split at hd
              · cases hd
              · cases hd
                exact .inl (List.mem_map_of_mem (mem_dropN.1 hy).1)
            · split at hd
              · split at hd
                · cases hd
                · rename_i z hz
                  split at hd
                  · cases hd
                  · cases hd
                    rcases mem_insN.1 hy with rfl | hy
                    · left
                      show z.2 ∈ M.map (·.2)
                      exact List.mem_map_of_mem (findN_some hz).1
                    · exact .inl (List.mem_map_of_mem (mem_dropN.1 (mem_dropN.1 hy).1).1)
              · cases hd
      have hcons : addI (m :: r) = (if m.kind = 1 then [m.id] else []) ++ addI r := by
        unfold addI
        by_cases hk : m.kind = 1
        · simp [hk]
        · simp [hk]
      rw [hcons]
      rcases List.mem_append.1 h1 with h1 | h1
      · obtain ⟨y, hy, e⟩ := List.mem_map.1 h1
        rcases hsub y hy with h2 | ⟨h2, h3⟩
        · rw [← e]; exact List.mem_append_left _ h2
        · rw [← e, h3, if_pos h2]
          exact List.mem_append_right _ (List.mem_append_left _ (by simp))
      · exact List.mem_append_right _ (List.mem_append_right _ h1)
theorem Good.name_id {D : Dk} (h : Good D) {x : Nm} (hx : x ∈ D.names) : x.2 ∈ ids D := run_ids h.run x hx
theorem Good.name_file {D : Dk} (h : Good D) {x : Nm} (hx : x ∈ D.names) : ∃ t, ∃ ht : t < D.files.length, D.files[t].id = x.2 := by
  have h1 := h.perm.mem_iff.1 (h.name_id hx)
  obtain ⟨f, hf, e⟩ := List.mem_map.1 h1
  obtain ⟨t, ht, rfl⟩ := List.getElem_of_mem hf
  exact ⟨t, ht, e⟩
theorem Good.names_len {D : Dk} (h : Good D) : D.names.length ≤ 5256 := by
  have h1 := len_run h.run
  have h2 := h.nk
  have h3 := h.nm
  omega
theorem Good.risingN {D : Dk} (h : Good D) : Rising D.names := rising_run h.rising h.run

def findPost (D : Dk) (s : List UInt8) (i : Int) (err : Int) : Prop :=
  (findN s D.names = none ∧ i = 0 ∧ err = 4) ∨ ∃ (z : Int) (t : Nat) (ht : t < D.files.length), findN s D.names = some (s, z) ∧ D.files[t].id = z ∧ i = t ∧ err = 0
set_option maxRecDepth 100000 in
set_option maxHeartbeats 3200000 in
theorem find_calls (D : Dk) (x : DV) (base : Nat) (s : List UInt8) (w : World) (hO : OD w base x D) (hG : Good D) (hv : vld s = true) :
    Calls Try.prog 24 #[dkv D x, .string ⟨s.toArray⟩] w fun e w' => ∃ i err, e = .returned (.tuple #[.int .i64 i, .int .i64 err]) ∧ findPost D s i err ∧ Ext w w' := by
  have hx0 := Ext.alloc w (.cells (dcs D x) 29)
  have hb0 := heap_alloc_new w (.cells (dcs D x) 29)
  have hri := Lib.hid (fun W (h : Ext w W) => right_calls D x base W (hO.ext h) hG)
  have hvl := vld_len hv
  have hvc := Lib.hid (fun W => valid_calls s W (by omega))
  rw [hv] at hvc
  have hGh := Lib.hid hG
  have hfmh := Lib.hid hO.fm
  have hpl := Lib.hid (fun W (h : Ext w W) => place_calls x.na x.nn x.nc D.names s W ((slice_row hO.names).1.ext h) hG.risingN (by have := hG.names_len; have := hO.fn; omega))
  have hfs := Lib.hid (fun W (h : Ext w W) (t : Nat) (ht : t < x.fm.length) (z : Int) (htz : x.fm[t].1.id = z) => fsearch_calls x.fa x.fn x.fc x.fm z W ((slice_row hO.files).1.ext h) (by
    have h1 := hG.files
    rw [← hO.fm, List.pairwise_map] at h1
    exact h1) t ht htz (by have := hG.nf; have := hO.fn; omega))
  have hnm := Lib.hid (fun (hn : 0 < x.nn) => Ns.at (slice_row hO.names).1 hn)
  have hnl := Lib.hid hO.fn
  clear hO hG hv
  unfold dkv at *
  unfold dcs at *
  obtain ⟨fa, fn, fc, fm, na, nn, nc0, ka, kn, kc, ma, mn, mc⟩ := x
  dsimp only at *
  obtain ⟨W0, hW0⟩ : ∃ W0, w.alloc (.cells #[.int .i64 D.quota, .slice fa fn fc, .slice na nn nc0, .slice ka kn kc, .slice ma mn mc, .int .i64 D.next] 29) = W0 := ⟨_, rfl⟩
  rw [hW0] at hx0 hb0
  obtain ⟨⟨y0, y1, y2, y3, y4, y5⟩, _⟩ := cells_six hb0
  go_enter Try.func24, Try.ntmps24
  go_wp2_with fail
  refine (hri.out _ hx0).mono ?_
  rintro e w1 ⟨rfl, hx1⟩
  clear hW0 y0 y1 y2 y3 y4 y5
  have hX1 := hx0.trans hx1
  replace hb0 := (hx1.block _ (lt_of_block hb0)).trans hb0
  obtain ⟨⟨y0, y1, y2, y3, y4, y5⟩, _⟩ := cells_six hb0
  go_wp2_with fail
  refine (hvc.out _).mono ?_
  rintro e w2 ⟨rfl, rfl⟩
  go_wp2_with fail
  refine (hpl.out _ hX1).mono ?_
  rintro e w3 ⟨i, b, rfl, hst, hiff, hx3⟩
  have hX3 := hX1.trans hx3
  have hsth := Lib.hid hst
  have hiffh := Lib.hid hiff
  have hfi := Lib.hid (findN_iff hGh.out.risingN hst)
  clear hst hiff y0 y1 y2 y3 y4 y5
  replace hb0 := (hx3.block _ (lt_of_block hb0)).trans hb0
  obtain ⟨⟨y0, y1, y2, y3, y4, y5⟩, _⟩ := cells_six hb0
  cases b with
  | false =>
    go_wp2_with fail
    go_ret2
    refine ⟨0, 4, rfl, .inl ⟨?_, rfl, rfl⟩, hX3⟩
    cases h : findN s D.names with
    | none => rfl
    | some y =>
      have h1 := hiffh.out.2 (hfi.out.1 (by rw [h]; rfl))
      cases h1
  | true =>
    obtain ⟨hiN, hin⟩ := hiffh.out.1 rfl
    have hff := (stands_found D.names i hGh.out.risingN hsth.out hiN hin).1
    obtain ⟨t, ht, htz⟩ := hGh.out.name_file (List.getElem_mem hiN)
    have hnl1 : i < nn := by have := hnl.out; omega
    obtain ⟨b0, o0, rfl, hc⟩ := hnm.out (by omega)
    have d1 := hX3.cell (hc i hiN).2
    obtain ⟨⟨s1, z⟩, hx⟩ : ∃ y, D.names[i] = y := ⟨_, rfl⟩
    rw [hx] at d1 hin hff htz
    dsimp only at d1 hin htz
    subst hin
    have htm : t < fm.length := by rw [← List.length_map (f := (·.1)), hfmh.out]; exact ht
    have htz2 : fm[t].1.id = z := by
      have h1 : (fm.map (·.1))[t]'(by rw [List.length_map]; exact htm) = D.files[t] := by simp only [hfmh.out]
      rw [List.getElem_map] at h1
      rw [h1]
      exact htz
    have hffh := Lib.hid hff
    have htzh := Lib.hid htz
    have hfs2 := Lib.hid (fun W (h : Ext w W) => hfs.out W h t htm z htz2)
    clear hc hx hff htz htz2 hfs
    go_upto_region 6 with fail
    obtain ⟨X, iX, f, hxS0, hSx0⟩ := letters (fun w' => Ext w3 w') w3 (Ext.refl w3)
    have hxS := Lib.hid hxS0
    have hSx := Lib.hid hSx0
    clear hxS0 hSx0
    have u1 : ∀ x', (f x').cell? ⟨w.heap.size, 1, none⟩ = some (.slice fa fn fc) := fun x' => (hxS.out x').cell y1
    have u2 : ∀ x', (f x').cell? ⟨w.heap.size, 2, none⟩ = some (.slice (some ⟨b0, o0, none⟩) nn nc0) := fun x' => (hxS.out x').cell y2
    have u3 : ∀ x', (f x').cell? ⟨b0, o0 + i * 2 + 1, none⟩ = some (.int .i64 z) := fun x' => (hxS.out x').cell d1
    have hk1 : Hid (∀ x', Calls Try.prog 42 #[.slice fa fn fc, .int .i64 z, .func (.func 43) #[] #[]] (f x') fun e w'' => e = .returned (.tuple #[.int .i64 (t : Int), .bool true]) ∧ ∃ y, w'' = f y) := fun x' =>
      (hfs2.out (f x') (hX3.trans (hxS.out x'))).mono (fun e w'' ⟨he, hx2⟩ => ⟨he, hSx.out w'' ((hxS.out x').trans hx2)⟩)
    refine region_class (fun w' => ∃ x' : X, w' = f x') (by kernel_rfl) (by kernel_rfl) (hSx.out _ (Ext.drewN w3 1)) ?_
    repeat (go_big_quiet_step ((go_at_call 42; exact (hk1.out _))))
    refine wpQuiet_nil ?_
    rintro _ ⟨x1, rfl⟩
    have hx9 := hxS.out x1
    go_wp2_with fail
    go_ret2
    exact ⟨_, _, rfl, .inr ⟨z, t, ht, hffh.out, htzh.out, rfl, rfl⟩, hX3.trans hx9⟩
end Go.Proofs.Ytponbponacdhkaa
