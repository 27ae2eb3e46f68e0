/-
  Layer 20's statements: what all their walks begin with.
-/
import Derived.Test.YtcbjadmngkednaaCacheChoose
import Derived.Test.YtcbjadmngkednaaCacheSame
namespace Go.Proofs.Ytcbjadmngkednaa
open Go.RowKit

theorem Cw.of {w : World} {a : Option Addr} {n c : Nat} {M : List Wh} (h : Ws w a n c M) (L : List Wt) (hL : ws M = L) (h1 : L.length ≤ 5000) (h2 : cnt L ≤ 5000) (h3 : ∀ x ∈ L, x.1.length ≤ 140737488355328) : Cw w a n c M :=
  ⟨h, by rw [← h.len, ← List.length_map (f := (·.1)), show M.map (·.1) = L from hL]; exact h1, by rw [hL]; exact h2, fun x hx => h3 x.1 (by rw [← hL]; exact List.mem_map.2 ⟨x, hx, rfl⟩)⟩
theorem add_g (m : Int) (a : Option Addr) (n c : Nat) (came dropped : Int) (M : List Wh) (s : List UInt8) (val tim now : Int) (w : World) (hb : Cw w a n c M) (hs : s.length ≤ 140737488355328) (L : List Wt) (hL : ws M = L) (st : (Ca × Bool) × Int) (hst : addC ⟨m, L, came, dropped⟩ s tim val now = st) :
    Calls Try.prog 11 #[cav m a n c came dropped, .agg #[.string ⟨s.toArray⟩, .int .i64 val, .int .i64 tim], .int .i64 now] w (AddPost m a M st w) := by
  have h := add_calls m a n c came dropped M s val tim now w hb hs
  rw [hL, hst] at h
  exact h
theorem Ws.nil (w : World) : Ws w none 0 0 [] := ⟨Row.nil _ _ _, (fun _ h => by cases h)⟩

set_option maxRecDepth 100000 in
set_option maxHeartbeats 1600000 in
theorem alive20_calls (w : World) : Calls Try.prog 8 #[] w fun e w' => e = .returned (.bool true) ∧ Ext w w' := by
  go_enter Try.func8, Try.ntmps8
  go_wp2_with fail
  refine (new_calls 2 _).mono ?_
  rintro e w1 ⟨rfl, hx1⟩
  rw [show (newC 2) = (⟨2, [], 0, 0⟩, 0) by decide]
  unfold cav
  dsimp only
  go_wp2_with fail
  obtain ⟨X1, hX1e⟩ : ∃ X1, w1.alloc (.cells #[.int .i64 2, .slice none 0 0, .int .i64 0, .int .i64 0] 24) = X1 := ⟨_, rfl⟩
  have hX1 : Ext w X1 := by rw [← hX1e]; exact hx1.trans (Ext.alloc _ _)
  have hbb1 : X1.heap[w1.heap.size]? = some (.cells #[.int .i64 2, .slice none 0 0, .int .i64 0, .int .i64 0] 24 (0, 0)) := by rw [← hX1e]; exact heap_alloc_new _ _
  rw [hX1e]
  clear hX1e
  obtain ⟨B, hB⟩ : ∃ B, w1.heap.size = B := ⟨_, rfl⟩
  have hBw : w.heap.size ≤ B := by rw [← hB]; exact hx1.size
  rw [hB] at hbb1 ⊢
  clear hB
  have hav0 := Av.nil B
  have hws0 := Ws.nil X1
  have hadd1 := add_g 2 none 0 0 0 0 [] [98] 1 0 5 X1 (Cw.of hws0 [] rfl (by decide) (by decide) (by simp)) (by decide) [] rfl ((⟨2, [([98], [⟨0, 1, 5, 0⟩])], 1, 0⟩, true), 0) (by decide)
  refine hadd1.mono ?_
  rintro e v1 ⟨a1, n1, c1, M1, rfl, hws1', hl1', hav1', hy1⟩
  have hl1 := Lib.hid hl1'
  have hav1 := hav1' B (lt_of_block hbb1) hav0
  clear hl1' hadd1 hav1'
  have hbx1 := (hy1.block _ (lt_of_block hbb1)).trans hbb1
  obtain ⟨⟨y0, y1, y2, y3⟩, ⟨u0, u1, u2, u3⟩⟩ := cells_four hbx1
  have hZ1 := hX1.trans hy1
  unfold cav
  dsimp only
  go_wp2_with fail
  clear y0 y1 y2 y3 u0 u1 u2 u3
  have hbb2 := put4_block hbx1 (.int .i64 2) (.slice a1 n1 c1) (.int .i64 1) (.int .i64 0)
  have hg1 := put4_grownBy v1 B (.int .i64 2) (.slice a1 n1 c1) (.int .i64 1) (.int .i64 0)
  have hX2 := hZ1.grown hg1 (fun j e => by cases e; exact hBw)
  have hws1 := hws1'.past hav1 hg1
  have he1 : put4 v1 B (.int .i64 2) (.slice a1 n1 c1) (.int .i64 1) (.int .i64 0) = (((v1.setCell ⟨B, 0, none⟩ (.int .i64 2)).setCell ⟨B, 1, none⟩ (.slice a1 n1 c1)).setCell ⟨B, 2, none⟩ (.int .i64 1)).setCell ⟨B, 3, none⟩ (.int .i64 0) := rfl
  rw [← he1]
  obtain ⟨X2, hXe1⟩ : ∃ X2, put4 v1 B (.int .i64 2) (.slice a1 n1 c1) (.int .i64 1) (.int .i64 0) = X2 := ⟨_, rfl⟩
  rw [hXe1] at hbb2 hX2 hws1 ⊢
  clear he1 hXe1 hg1 hbx1 hws1'
  have hadd2 := add_g 2 a1 n1 c1 1 0 M1 [97] 2 0 6 X2 (Cw.of hws1 [([98], [⟨0, 1, 5, 0⟩])] hl1.out (by decide) (by decide) (by simp)) (by decide) [([98], [⟨0, 1, 5, 0⟩])] hl1.out ((⟨2, [([97], [⟨0, 2, 6, 1⟩]), ([98], [⟨0, 1, 5, 0⟩])], 2, 0⟩, true), 0) (by decide)
  refine hadd2.mono ?_
  rintro e v2 ⟨a2, n2, c2, M2, rfl, hws2', hl2', hav2', hy2⟩
  have hl2 := Lib.hid hl2'
  have hav2 := hav2' B (lt_of_block hbb2) hav1
  clear hl2' hadd2 hav2'
  have hbx2 := (hy2.block _ (lt_of_block hbb2)).trans hbb2
  obtain ⟨⟨y0, y1, y2, y3⟩, ⟨u0, u1, u2, u3⟩⟩ := cells_four hbx2
  have hZ2 := hX2.trans hy2
  unfold cav
  dsimp only
  go_wp2_with fail
  clear y0 y1 y2 y3 u0 u1 u2 u3
  have hbb3 := put4_block hbx2 (.int .i64 2) (.slice a2 n2 c2) (.int .i64 2) (.int .i64 0)
  have hg2 := put4_grownBy v2 B (.int .i64 2) (.slice a2 n2 c2) (.int .i64 2) (.int .i64 0)
  have hX3 := hZ2.grown hg2 (fun j e => by cases e; exact hBw)
  have hws2 := hws2'.past hav2 hg2
  have he2 : put4 v2 B (.int .i64 2) (.slice a2 n2 c2) (.int .i64 2) (.int .i64 0) = (((v2.setCell ⟨B, 0, none⟩ (.int .i64 2)).setCell ⟨B, 1, none⟩ (.slice a2 n2 c2)).setCell ⟨B, 2, none⟩ (.int .i64 2)).setCell ⟨B, 3, none⟩ (.int .i64 0) := rfl
  rw [← he2]
  obtain ⟨X3, hXe2⟩ : ∃ X3, put4 v2 B (.int .i64 2) (.slice a2 n2 c2) (.int .i64 2) (.int .i64 0) = X3 := ⟨_, rfl⟩
  rw [hXe2] at hbb3 hX3 hws2 ⊢
  clear he2 hXe2 hg2 hbx2 hws2'
  have hadd3 := add_g 2 a2 n2 c2 2 0 M2 [97] 3 0 7 X3 (Cw.of hws2 [([97], [⟨0, 2, 6, 1⟩]), ([98], [⟨0, 1, 5, 0⟩])] hl2.out (by decide) (by decide) (by simp)) (by decide) [([97], [⟨0, 2, 6, 1⟩]), ([98], [⟨0, 1, 5, 0⟩])] hl2.out ((⟨2, [([97], [⟨0, 2, 6, 1⟩]), ([98], [⟨0, 1, 5, 0⟩])], 3, 1⟩, false), 0) (by decide)
  refine hadd3.mono ?_
  rintro e v3 ⟨a3, n3, c3, M3, rfl, hws3', hl3', hav3', hy3⟩
  have hl3 := Lib.hid hl3'
  have hav3 := hav3' B (lt_of_block hbb3) hav2
  clear hl3' hadd3 hav3'
  have hbx3 := (hy3.block _ (lt_of_block hbb3)).trans hbb3
  obtain ⟨⟨y0, y1, y2, y3⟩, ⟨u0, u1, u2, u3⟩⟩ := cells_four hbx3
  have hZ3 := hX3.trans hy3
  unfold cav
  dsimp only
  go_wp2_with fail
  clear y0 y1 y2 y3 u0 u1 u2 u3
  have hbb4 := put4_block hbx3 (.int .i64 2) (.slice a3 n3 c3) (.int .i64 3) (.int .i64 1)
  have hg3 := put4_grownBy v3 B (.int .i64 2) (.slice a3 n3 c3) (.int .i64 3) (.int .i64 1)
  have hX4 := hZ3.grown hg3 (fun j e => by cases e; exact hBw)
  have hws3 := hws3'.past hav3 hg3
  have he3 : put4 v3 B (.int .i64 2) (.slice a3 n3 c3) (.int .i64 3) (.int .i64 1) = (((v3.setCell ⟨B, 0, none⟩ (.int .i64 2)).setCell ⟨B, 1, none⟩ (.slice a3 n3 c3)).setCell ⟨B, 2, none⟩ (.int .i64 3)).setCell ⟨B, 3, none⟩ (.int .i64 1) := rfl
  rw [← he3]
  obtain ⟨X4, hXe3⟩ : ∃ X4, put4 v3 B (.int .i64 2) (.slice a3 n3 c3) (.int .i64 3) (.int .i64 1) = X4 := ⟨_, rfl⟩
  rw [hXe3] at hbb4 hX4 hws3 ⊢
  clear he3 hXe3 hg3 hbx3 hws3'
  have hC4 := Cw.of hws3 [([97], [⟨0, 2, 6, 1⟩]), ([98], [⟨0, 1, 5, 0⟩])] hl3.out (by decide) (by decide) (by simp)
  have hch := choose_calls 2 a3 n3 c3 3 1 M3 3 0 X4 hC4
  rw [hl3.out, show chooseC ⟨2, [([97], [⟨0, 2, 6, 1⟩]), ([98], [⟨0, 1, 5, 0⟩])], 3, 1⟩ 3 0 = ([98], 0) by decide] at hch
  unfold ChoosePost cav at hch
  refine hch.mono ?_
  rintro e w5 ⟨rfl, hx5⟩
  have hbb5 := (hx5.block _ (lt_of_block hbb4)).trans hbb4
  obtain ⟨⟨y0, y1, y2, y3⟩, _⟩ := cells_four hbb5
  have hct := count_calls 2 a3 n3 c3 3 1 M3 w5 (hC4.ext hx5)
  rw [hl3.out, show (if crtC ⟨2, [([97], [⟨0, 2, 6, 1⟩]), ([98], [⟨0, 1, 5, 0⟩])], 3, 1⟩ = true then ((cnt [([97], [⟨0, 2, 6, 1⟩]), ([98], [⟨0, 1, 5, 0⟩])] : Nat) : Int) else 0) = 2 by decide] at hct
  unfold cav at hct
  have hcth := Lib.hid hct
  clear hct hch hC4
  go_wp2_with fail
  refine hcth.out.mono ?_
  rintro e w6 ⟨rfl, hx6⟩
  replace y0 := hx6.cell y0
  replace y1 := hx6.cell y1
  replace y2 := hx6.cell y2
  replace y3 := hx6.cell y3
  go_wp2_with fail
  go_ret
  exact ⟨rfl, (hX4.trans hx5).trans hx6⟩
end Go.Proofs.Ytcbjadmngkednaa
