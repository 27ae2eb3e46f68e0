/-
  Layer 20's contracts: the code's Take.
-/
import Derived.Test.YtcbjadmngkednaaCacheCode
namespace Go.Proofs.Ytcbjadmngkednaa
open Go.RowKit

/-- A struct of four fields that lies in a block of its own: the block, its cells. -/
theorem cells_four {w : World} {b : Nat} {v0 v1 v2 v3 : Value} {t : TypeId} (h : w.heap[b]? = some (.cells #[v0, v1, v2, v3] t (0, 0))) :
    (w.cell? ⟨b, 0, none⟩ = some v0 ∧ w.cell? ⟨b, 1, none⟩ = some v1 ∧ w.cell? ⟨b, 2, none⟩ = some v2 ∧ w.cell? ⟨b, 3, none⟩ = some v3) ∧
    (w.frozen? ⟨b, 0, none⟩ = false ∧ w.frozen? ⟨b, 1, none⟩ = false ∧ w.frozen? ⟨b, 2, none⟩ = false ∧ w.frozen? ⟨b, 3, none⟩ = false) :=
  ⟨⟨by simp [World.cell?, h], by simp [World.cell?, h], by simp [World.cell?, h], by simp [World.cell?, h]⟩, ⟨by simp [World.frozen?, h], by simp [World.frozen?, h], by simp [World.frozen?, h], by simp [World.frozen?, h]⟩⟩
/-- Two structs of four fields in new blocks. -/
theorem two_blocks {w W : World} {o1 o2 : Obj} (h : Ext ((w.alloc o1).alloc o2) W) : W.heap[w.heap.size]? = some o1 ∧ W.heap[w.heap.size + 1]? = some o2 := by
  constructor
  · refine (h.block _ (by simp; omega)).trans ?_
    exact ((Ext.alloc (w.alloc o1) o2).block _ (by simp)).trans (heap_alloc_new w o1)
  · refine (h.block _ (by simp)).trans ?_
    have := heap_alloc_new (w.alloc o1) o2
    simpa using this
set_option maxRecDepth 100000 in
set_option maxHeartbeats 1600000 in
theorem take_calls (m : Int) (a : Option Addr) (n c : Nat) (came dropped : Int) (M : List Wh) (s : List UInt8) (w : World) (hb : Cw w a n c M) :
    Calls Try.prog 20 #[cav m a n c came dropped, .string ⟨s.toArray⟩] w fun e w' => ∃ a2 n2 c2 M2 pa pn pc, e = .returned (.tuple #[cav m a2 n2 c2 came dropped, .slice pa pn pc, .int .i64 (takeC ⟨m, ws M, came, dropped⟩ s).2]) ∧
      Ws w' a2 n2 c2 M2 ∧ ws M2 = (takeC ⟨m, ws M, came, dropped⟩ s).1.1.waits ∧ As w' pa pn pc (takeC ⟨m, ws M, came, dropped⟩ s).1.2 ∧ (∀ B, B < w.heap.size → Av B a M → Av B a2 M2 ∧ ∀ x, pa = some x → x.block ≠ B) ∧ Ext w w' := by
  have hlen := Lib.hid hb.rd.len
  have hnb := hb.len
  have hx : Ext w ((w.alloc (.cells #[.int .i64 m, .slice a n c, .int .i64 came, .int .i64 dropped] 24)).alloc (.cells #[.int .i64 0, .slice none 0 0, .int .i64 0, .int .i64 0] 24)) := (Ext.alloc w _).trans (Ext.alloc _ _)
  have hr := (hb.ext hx).right (m := m) (came := came) (dropped := dropped)
  obtain ⟨r, hrr⟩ : ∃ r, crtC ⟨m, ws M, came, dropped⟩ = r := ⟨_, rfl⟩
  obtain ⟨R, hR⟩ : ∃ R, takeC ⟨m, ws M, came, dropped⟩ s = R := ⟨_, rfl⟩
  rw [hR]
  unfold takeC at hR
  rw [hrr] at hr hR
  have hrh := Lib.hid hr
  have hRh := Lib.hid hR
  clear hr hR
  cases r with
  | false =>
    have h9 := hRh.out
    rw [if_pos (by simp)] at h9
    subst h9
    clear hrr
    unfold cav at *
    go_enter Try.func20, Try.ntmps20
    go_wp2_with fail
    refine hrh.out.mono ?_
    rintro e w1 ⟨rfl, hx1⟩
    obtain ⟨hbox, hres⟩ := two_blocks hx1
    have hX := hx.trans hx1
    obtain ⟨⟨y0, y1, y2, y3⟩, _⟩ := cells_four hbox
    obtain ⟨⟨z0, z1, z2, z3⟩, ⟨f0, f1, f2, f3⟩⟩ := cells_four hres
    go_wp2_with fail
    have hw9 : put4 w1 (w.heap.size + 1) (.int .i64 m) (.slice a n c) (.int .i64 came) (.int .i64 dropped) = (((w1.setCell ⟨w.heap.size + 1, 0, none⟩ (.int .i64 m)).setCell ⟨w.heap.size + 1, 1, none⟩ (.slice a n c)).setCell ⟨w.heap.size + 1, 2, none⟩ (.int .i64 came)).setCell ⟨w.heap.size + 1, 3, none⟩ (.int .i64 dropped) := rfl
    have hg9 := put4_grownBy w1 (w.heap.size + 1) (.int .i64 m) (.slice a n c) (.int .i64 came) (.int .i64 dropped)
    have hh9 := put4_block hres (.int .i64 m) (.slice a n c) (.int .i64 came) (.int .i64 dropped)
    rw [← hw9]
    obtain ⟨w9, hw9e⟩ : ∃ w9, put4 w1 (w.heap.size + 1) (.int .i64 m) (.slice a n c) (.int .i64 came) (.int .i64 dropped) = w9 := ⟨_, rfl⟩
    rw [hw9e] at hg9 hh9 ⊢
    obtain ⟨⟨q0, q1, q2, q3⟩, _⟩ := cells_four hh9
    refine bodyPost_ret (v := .tuple #[.agg #[.int .i64 m, .slice a n c, .int .i64 came, .int .i64 dropped], .slice none 0 0, .int .i64 1]) (by simp [results, Try.results20, go_sem, q0, q1, q2, q3]) rfl ?_
    have hX9 := hX.grown hg9 (fun k e => by cases e; omega)
    exact ⟨_, _, _, M, none, 0, 0, rfl, hb.rd.ext hX9, rfl, Row.nil _ _ _, fun _ _ h => ⟨h, (fun _ h => by cases h)⟩, hX9⟩
  | true =>
    have hg := crt_good hrr
    have hri := hg.rising
    clear hrr
    have hpl := Lib.hid (fun W (h : Ext w W) => place_calls m a n c came dropped M s W (hb.rd.ext h) hri (by omega))
    have hrih := Lib.hid hri
    clear hri hg
    unfold cav at *
    go_enter Try.func20, Try.ntmps20
    go_wp2_with fail
    refine hrh.out.mono ?_
    rintro e w1 ⟨rfl, hx1⟩
    obtain ⟨hbox, hres⟩ := two_blocks hx1
    obtain ⟨⟨y0, y1, y2, y3⟩, _⟩ := cells_four hbox
    have hX := hx.trans hx1
    go_wp2_with fail
    refine (hpl.out w1 hX).mono ?_
    rintro e w2 ⟨i, b, rfl, hst, hiff, hx2⟩
    have hsth := Lib.hid hst
    have hX2 := hX.trans hx2
    replace hbox := (hx2.block _ (lt_of_block hbox)).trans hbox
    replace hres := (hx2.block _ (lt_of_block hres)).trans hres
    obtain ⟨⟨y0, y1, y2, y3⟩, ⟨x0, x1, x2, x3⟩⟩ := cells_four hbox
    obtain ⟨⟨z0, z1, z2, z3⟩, ⟨f0, f1, f2, f3⟩⟩ := cells_four hres
    cases b with
    | false =>
      have hno : Hid (¬ ∃ h : i < (ws M).length, (ws M)[i].1 = s) := fun h => by cases hiff.2 h
      clear hst hiff
      go_wp2_with fail
      have hw9 : put4 w2 (w.heap.size + 1) (.int .i64 m) (.slice a n c) (.int .i64 came) (.int .i64 dropped) = (((w2.setCell ⟨w.heap.size + 1, 0, none⟩ (.int .i64 m)).setCell ⟨w.heap.size + 1, 1, none⟩ (.slice a n c)).setCell ⟨w.heap.size + 1, 2, none⟩ (.int .i64 came)).setCell ⟨w.heap.size + 1, 3, none⟩ (.int .i64 dropped) := rfl
      have hg9 := put4_grownBy w2 (w.heap.size + 1) (.int .i64 m) (.slice a n c) (.int .i64 came) (.int .i64 dropped)
      have hh9 := put4_block hres (.int .i64 m) (.slice a n c) (.int .i64 came) (.int .i64 dropped)
      rw [← hw9]
      obtain ⟨w9, hw9e⟩ : ∃ w9, put4 w2 (w.heap.size + 1) (.int .i64 m) (.slice a n c) (.int .i64 came) (.int .i64 dropped) = w9 := ⟨_, rfl⟩
      rw [hw9e] at hg9 hh9 ⊢
      obtain ⟨⟨q0, q1, q2, q3⟩, _⟩ := cells_four hh9
      refine bodyPost_ret (v := .tuple #[.agg #[.int .i64 m, .slice a n c, .int .i64 came, .int .i64 dropped], .slice none 0 0, .int .i64 15]) (by simp [results, Try.results20, go_sem, q0, q1, q2, q3]) rfl ?_
      have hX9 := hX2.grown hg9 (fun k e => by cases e; omega)
      obtain ⟨f1, _, _⟩ := stands_not s ⟨0, 0, 0, 0⟩ _ i hrih.out hsth.out hno.out
      have h9 := hRh.out
      rw [if_neg (by simp), f1] at h9
      subst h9
      exact ⟨_, _, _, M, none, 0, 0, rfl, hb.rd.ext hX9, rfl, Row.nil _ _ _, fun _ _ h => ⟨h, (fun _ h => by cases h)⟩, hX9⟩
    | true =>
      obtain ⟨hiW, his⟩ := hiff.1 rfl
      have hiM : i < M.length := by unfold ws at hiW; rwa [List.length_map] at hiW
      have hin : i < n := by rw [← hlen.out]; exact hiM
      clear hst hiff
      obtain ⟨b2, o2, rfl, hc⟩ := hb.rd.at (by omega)
      obtain ⟨d0, d1⟩ := hc i hiM
      replace d1 := hX2.cell d1
      have hak := (hb.rd.2 M[i] (List.getElem_mem hiM)).ext hX2
      have hml := hb.mem_len (List.getElem_mem hiM)
      have hwi : Hid ((ws M)[i] = M[i].1) := by show _ = _; simp [ws]
      obtain ⟨pa, pn, pc, hpe⟩ : ∃ pa pn pc, M[i].2 = (pa, pn, pc) := ⟨_, _, _, rfl⟩
      rw [hpe] at d1 hak hml
      dsimp only at d1 hak hml
      have hcl := Lib.hid (aclone_calls pa pn pc _ w2 (by omega) hak)
      have hish := Lib.hid his
      clear hc d0 hpe his hak
      have hl1 := World.block_lt_of_cell? w2 _ y1
      have hl2 := World.block_lt_of_cell? w2 _ d1
      go_wp2_with fail
      refine hcl.out.mono ?_
      rintro e w3 ⟨v, rfl, hown, hx3⟩
      obtain ⟨a3, c3, rfl, hr3⟩ := hown.row
      have hown3h := Lib.hid hown
      clear hown hr3
      have hX3 := hX2.trans hx3
      replace hbox := (hx3.block _ (lt_of_block hbox)).trans hbox
      replace hres := (hx3.block _ (lt_of_block hres)).trans hres
      clear y0 y1 y2 y3 x0 x1 x2 x3 z0 z1 z2 z3 f0 f1 f2 f3
      obtain ⟨⟨y0, y1, y2, y3⟩, ⟨x0, x1, x2, x3⟩⟩ := cells_four hbox
      have hwcl := Lib.hid (wclone_calls _ n c M w3 (by omega) (hb.rd.ext hX3).1)
      go_wp2_with fail
      refine hwcl.out.mono ?_
      rintro e w4 ⟨v4, rfl, hown4, hx4⟩
      have hdel := Lib.hid (delete_calls _ v4 M i w4 hown4 hiM (by rw [hlen.out]; omega))
      have hown4h := Lib.hid hown4
      clear hown4
      go_wp2_with fail
      refine hdel.out.mono ?_
      rintro e w5 ⟨v5, rfl, hown5, hgrow5⟩
      obtain ⟨a5, c5, rfl, hr5⟩ := hown5.row
      have hx5 := Lib.hid (hx4.grown hgrow5 (fun k e => owns_row hown4h.out k e))
      have hown5h := Lib.hid hown5
      clear hown5 hr5 hgrow5
      replace hbox := (hx5.out.block _ (lt_of_block hbox)).trans hbox
      replace hres := (hx5.out.block _ (lt_of_block hres)).trans hres
      clear y0 y1 y2 y3 x0 x1 x2 x3
      obtain ⟨⟨y0, y1, y2, y3⟩, ⟨x0, x1, x2, x3⟩⟩ := cells_four hbox
      obtain ⟨⟨z0, z1, z2, z3⟩, ⟨f0, f1, f2, f3⟩⟩ := cells_four hres
      have hg6 := put_grownBy w5 w.heap.size 1 (.slice a5 (M.eraseIdx i).length c5)
      have hres6 := (hg6.block _ (lt_of_block hres) (by simp)).trans hres
      have hX6 := (hX3.trans hx5.out).grown hg6 (fun k e => by cases e; exact Nat.le_refl _)
      go_wp2_with fail
      have hw9 : put4 (w5.setCell ⟨w.heap.size, 1, none⟩ (.slice a5 (M.eraseIdx i).length c5)) (w.heap.size + 1) (.int .i64 m) (.slice a5 (M.eraseIdx i).length c5) (.int .i64 came) (.int .i64 dropped) = ((((w5.setCell ⟨w.heap.size, 1, none⟩ (.slice a5 (M.eraseIdx i).length c5)).setCell ⟨w.heap.size + 1, 0, none⟩ (.int .i64 m)).setCell ⟨w.heap.size + 1, 1, none⟩ (.slice a5 (M.eraseIdx i).length c5)).setCell ⟨w.heap.size + 1, 2, none⟩ (.int .i64 came)).setCell ⟨w.heap.size + 1, 3, none⟩ (.int .i64 dropped) := rfl
      have hg9 := put4_grownBy (w5.setCell ⟨w.heap.size, 1, none⟩ (.slice a5 (M.eraseIdx i).length c5)) (w.heap.size + 1) (.int .i64 m) (.slice a5 (M.eraseIdx i).length c5) (.int .i64 came) (.int .i64 dropped)
      have hh9 := put4_block hres6 (.int .i64 m) (.slice a5 (M.eraseIdx i).length c5) (.int .i64 came) (.int .i64 dropped)
      rw [← hw9]
      obtain ⟨w9, hw9e⟩ : ∃ w9, put4 (w5.setCell ⟨w.heap.size, 1, none⟩ (.slice a5 (M.eraseIdx i).length c5)) (w.heap.size + 1) (.int .i64 m) (.slice a5 (M.eraseIdx i).length c5) (.int .i64 came) (.int .i64 dropped) = w9 := ⟨_, rfl⟩
      rw [hw9e] at hg9 hh9 ⊢
      obtain ⟨⟨q0, q1, q2, q3⟩, _⟩ := cells_four hh9
      refine bodyPost_ret (v := .tuple #[.agg #[.int .i64 m, .slice a5 (M.eraseIdx i).length c5, .int .i64 came, .int .i64 dropped], .slice a3 M[i].1.2.length c3, .int .i64 0]) (by simp [results, Try.results20, go_sem, q0, q1, q2, q3]) rfl ?_
      have hX9 := hX6.grown hg9 (fun k e => by cases e; omega)
      obtain ⟨f1, f2, _⟩ := stands_found s ⟨0, 0, 0, 0⟩ _ i hrih.out hsth.out hiW hish.out
      have h9 := hRh.out
      rw [if_neg (by simp), f1, hwi.out] at h9
      subst h9
      have o5 := owns_beside (owns_beside hown5h.out (owns_other hown5h.out hbox (by decide)) hg6) (owns_other (owns_beside hown5h.out (owns_other hown5h.out hbox (by decide)) hg6) hres6 (by decide)) hg9
      have o3 := ORow.ext hown3h.out hx5.out
      have o4 := owns_beside (owns_beside o3 (owns_other o3 hbox (by decide)) hg6) (owns_other (owns_beside o3 (owns_other o3 hbox (by decide)) hg6) hres6 (by decide)) hg9
      obtain ⟨_, _, e5, r5⟩ := ORow.row o5
      obtain ⟨_, _, e4, r4⟩ := ORow.row o4
      cases e5; cases e4
      refine ⟨a5, _, c5, M.eraseIdx i, a3, _, c3, rfl, ⟨r5, fun x hx => (hb.rd.2 x ((List.eraseIdx_sublist M i).subset hx)).ext hX9⟩, ?_, r4, fun B hB hav => ⟨⟨av_own o5 (by have h1 := hX3.size; omega), fun y hy x hx => hav.2 y ((List.eraseIdx_sublist M i).subset hy) x hx⟩, av_own o4 (by have h1 := hX2.size; omega)⟩, hX9⟩
      show ws (M.eraseIdx i) = (ws M).filter _
      rw [f2]
      unfold ws
      rw [List.eraseIdx_eq_take_drop_succ, List.eraseIdx_eq_take_drop_succ, List.map_append, List.map_take, List.map_drop]
end Go.Proofs.Ytcbjadmngkednaa
