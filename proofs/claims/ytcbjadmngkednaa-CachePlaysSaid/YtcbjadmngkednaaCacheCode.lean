/-
  Layer 20's contracts: the code's Count, Of, Take.
-/
import Derived.Test.YtcbjadmngkednaaCacheStand
namespace Go.Proofs.Ytcbjadmngkednaa
open Go.RowKit

theorem Cw.right {m : Int} {a : Option Addr} {n c : Nat} {came dropped : Int} {M : List Wh} {w : World} (h : Cw w a n c M) :
    Calls Try.prog 14 #[cav m a n c came dropped] w fun e w' => e = .returned (.bool (crtC ⟨m, ws M, came, dropped⟩)) ∧ Ext w w' :=
  cright_calls m a n c came dropped M w h.rd (by have := h.tot; omega) h.paths
theorem Cw.rright {m : Int} {a : Option Addr} {n c : Nat} {came dropped : Int} {M : List Wh} {w : World} (h : Cw w a n c M) :
    Calls Try.prog 15 #[cav m a n c came dropped] w fun e w' => e = .returned (.bool (crtC ⟨m, ws M, came, dropped⟩)) ∧ Ext w w' :=
  rright_calls m a n c came dropped M w h.rd (by have := h.tot; omega) h.paths
theorem Cw.mem_len {w : World} {a : Option Addr} {n c : Nat} {M : List Wh} (h : Cw w a n c M) {x : Wh} (hx : x ∈ M) : x.2.2.1 ≤ 5000 := by
  have h1 := (h.rd.2 x hx).len
  have h2 : x.1.2.length ≤ cnt (ws M) := by
    have : ∀ (L : List Wt) (y : Wt), y ∈ L → y.2.length ≤ cnt L := by
      intro L
      induction L with
      | nil => intro y hy; cases hy
      | cons z L ih =>
        intro y hy
        rw [cnt_cons]
        rcases List.mem_cons.1 hy with rfl | hy
        · omega
        · have := ih y hy; omega
    exact this _ _ (List.mem_map.2 ⟨x, hx, rfl⟩)
  have := h.tot
  omega

theorem count_calls (m : Int) (a : Option Addr) (n c : Nat) (came dropped : Int) (M : List Wh) (w : World) (hb : Cw w a n c M) :
    Calls Try.prog 19 #[cav m a n c came dropped] w fun e w' => e = .returned (.int .i64 (if crtC ⟨m, ws M, came, dropped⟩ = true then ((cnt (ws M) : Nat) : Int) else 0)) ∧ Ext w w' := by
  have hx := Ext.alloc w (.cells #[.int .i64 m, .slice a n c, .int .i64 came, .int .i64 dropped] 24)
  have hr := (hb.ext hx).right (m := m) (came := came) (dropped := dropped)
  have ht := Lib.hid (fun W (h : Ext w W) => total_calls m a n c came dropped M W (hb.rd.ext h) (by have := hb.tot; omega))
  obtain ⟨r, hrr⟩ : ∃ r, crtC ⟨m, ws M, came, dropped⟩ = r := ⟨_, rfl⟩
  rw [hrr] at hr ⊢
  clear hrr
  have hrh := Lib.hid hr
  clear hr
  unfold cav at *
  cases r with
  | false =>
    go_enter Try.func19, Try.ntmps19
    go_wp2_with fail
    refine hrh.out.mono ?_
    rintro e w1 ⟨rfl, hx1⟩
    go_wp2_with fail
    go_ret
    exact ⟨rfl, hx.trans hx1⟩
  | true =>
    go_enter Try.func19, Try.ntmps19
    go_wp2_with fail
    refine hrh.out.mono ?_
    rintro e w1 ⟨rfl, hx1⟩
    have hy := box4 hx1
    obtain ⟨y0, y1, y2, y3⟩ := hy
    have hX := hx.trans hx1
    go_wp2_with fail
    refine (ht.out w1 hX).mono ?_
    rintro e w2 ⟨rfl, hx2⟩
    go_wp2_with fail
    go_ret
    exact ⟨rfl, hX.trans hx2⟩

set_option maxRecDepth 100000 in
set_option maxHeartbeats 800000 in
theorem of_calls (m : Int) (a : Option Addr) (n c : Nat) (came dropped : Int) (M : List Wh) (s : List UInt8) (w : World) (hb : Cw w a n c M) :
    Calls Try.prog 25 #[cav m a n c came dropped, .string ⟨s.toArray⟩] w fun e w' => ∃ pa pn pc, e = .returned (.slice pa pn pc) ∧ As w' pa pn pc (ofC ⟨m, ws M, came, dropped⟩ s) ∧ Ext w w' := by
  have hlen := Lib.hid hb.rd.len
  have hnb := hb.len
  have hx := Ext.alloc w (.cells #[.int .i64 m, .slice a n c, .int .i64 came, .int .i64 dropped] 24)
  have hr := (hb.ext hx).right (m := m) (came := came) (dropped := dropped)
  obtain ⟨L, hL⟩ : ∃ L, ofC ⟨m, ws M, came, dropped⟩ s = L := ⟨_, rfl⟩
  rw [hL]
  unfold ofC at hL
  obtain ⟨r, hrr⟩ : ∃ r, crtC ⟨m, ws M, came, dropped⟩ = r := ⟨_, rfl⟩
  rw [hrr] at hr hL
  have hrh := Lib.hid hr
  have hLh := Lib.hid hL
  clear hr hL
  cases r with
  | false =>
    clear hrr
    unfold cav at *
    go_enter Try.func25, Try.ntmps25
    go_wp2_with fail
    refine hrh.out.mono ?_
    rintro e w1 ⟨rfl, hx1⟩
    go_wp2_with fail
    go_ret
    have h9 := hLh.out
    rw [if_pos (by simp)] at h9
    subst h9
    exact ⟨none, 0, 0, rfl, Row.nil _ _ _, hx.trans hx1⟩
  | true =>
    have hg := crt_good hrr
    have hri := hg.rising
    clear hrr
    have hpl := Lib.hid (fun W (h : Ext w W) => place_calls m a n c came dropped M s W (hb.rd.ext h) hri (by omega))
    have hrih := Lib.hid hri
    clear hri hg
    unfold cav at *
    go_enter Try.func25, Try.ntmps25
    go_wp2_with fail
    refine hrh.out.mono ?_
    rintro e w1 ⟨rfl, hx1⟩
    obtain ⟨y0, y1, y2, y3⟩ := box4 hx1
    have hX := hx.trans hx1
    go_wp2_with fail
    refine (hpl.out w1 hX).mono ?_
    rintro e w2 ⟨i, b, rfl, hst, hiff, hx2⟩
    have hsth := Lib.hid hst
    have hX2 := hX.trans hx2
    cases b with
    | false =>
      have hno : Hid (¬ ∃ h : i < (ws M).length, (ws M)[i].1 = s) := fun h => by cases hiff.2 h
      clear hst hiff
      go_wp2_with fail
      go_ret
      refine ⟨none, 0, 0, rfl, ?_, hX2⟩
      obtain ⟨f1, _, _⟩ := stands_not s ⟨0, 0, 0, 0⟩ _ i hrih.out hsth.out hno.out
      have h9 := hLh.out
      rw [if_neg (by simp), f1] at h9
      subst h9
      exact Row.nil _ _ _
    | true =>
      obtain ⟨hiW, his⟩ := hiff.1 rfl
      have hiM : i < M.length := by unfold ws at hiW; rwa [List.length_map] at hiW
      have hin : i < n := by rw [← hlen.out]; exact hiM
      clear hst hiff
      obtain ⟨b2, o2, rfl, hc⟩ := hb.rd.at (by omega)
      obtain ⟨d0, d1⟩ := hc i hiM
      replace d1 := hX2.cell d1
      replace y1 := hx2.cell y1
      have hak := (hb.rd.2 M[i] (List.getElem_mem hiM)).ext hX2
      have hml := hb.mem_len (List.getElem_mem hiM)
      have hwi : Hid ((ws M)[i] = M[i].1) := by show _ = _; simp [ws]
      obtain ⟨pa, pn, pc, hpe⟩ : ∃ pa pn pc, M[i].2 = (pa, pn, pc) := ⟨_, _, _, rfl⟩
      have hpe2 := Lib.hid hpe
      rw [hpe] at d1 hak hml
      dsimp only at d1 hak hml
      have hcl := Lib.hid (aclone_calls pa pn pc _ w2 (by omega) hak)
      have hish := Lib.hid his
      clear hc d0 hpe his hak
      have hl1 := World.block_lt_of_cell? w2 _ y1
      have hl2 := World.block_lt_of_cell? w2 _ d1
      go_wp2_with fail
      refine hcl.out.mono ?_
      rintro e w3 ⟨v, rfl, hown, hx3⟩
      obtain ⟨a3, c3, rfl, hr3⟩ := hown.row
      have hr3h := Lib.hid hr3
      clear hown hr3
      go_wp2_with fail
      go_ret
      refine ⟨a3, _, c3, rfl, ?_, hX2.trans hx3⟩
      obtain ⟨f1, _, _⟩ := stands_found s ⟨0, 0, 0, 0⟩ _ i hrih.out hsth.out hiW hish.out
      have h9 := hLh.out
      rw [if_neg (by simp), f1, hwi.out] at h9
      subst h9
      exact hr3h.out
end Go.Proofs.Ytcbjadmngkednaa
