/-
  Layer 20's contracts: the code's Choose.
-/
import Derived.Test.YtcbjadmngkednaaCacheMin
namespace Go.Proofs.Ytcbjadmngkednaa
open Go.RowKit

def pickW (policy n : Int) (w : Wt) (r : List Wt) : List UInt8 :=
  if policy = 1 then (minW ltMost w r).1 else if policy = 3 then (minW ltEldest w r).1 else if policy = 4 then ((w :: r).getD (n % ((w :: r).length : Int)).toNat w).1 else w.1
def chooseC (c : Ca) (policy n : Int) : List UInt8 × Int :=
  if policy < 1 ∨ 4 < policy ∨ (policy = 4 ∧ n < 0) ∨ crtC c = false then ([], 1)
  else match c.waits with
  | [] => ([], 15)
  | w :: r => (pickW policy n w r, 0)
def ChoosePost (R : List UInt8 × Int) (w : World) (e : Ending) (w' : World) : Prop := e = .returned (.tuple #[.string ⟨R.1.toArray⟩, .int .i64 R.2]) ∧ Ext w w'

theorem choose_no (m : Int) (a : Option Addr) (n c : Nat) (came dropped : Int) (policy num : Int) (w : World) (hno : policy < 1 ∨ 4 < policy ∨ (policy = 4 ∧ num < 0)) :
    Calls Try.prog 18 #[cav m a n c came dropped, .int .i64 policy, .int .i64 num] w (ChoosePost ([], 1) w) := by
  have hx := Ext.alloc w (.cells #[.int .i64 m, .slice a n c, .int .i64 came, .int .i64 dropped] 24)
  unfold cav ChoosePost
  by_cases h1 : policy < 1
  · go_enter Try.func18, Try.ntmps18
    go_wp2_with fail
    go_ret2
    exact ⟨rfl, hx⟩
  · by_cases h2 : 4 < policy
    · go_enter Try.func18, Try.ntmps18
      go_wp2_with fail
      go_ret2
      exact ⟨rfl, hx⟩
    · obtain ⟨rfl, h3⟩ : policy = 4 ∧ num < 0 := by rcases hno with h | h | h; exact absurd h h1; exact absurd h h2; exact h
      clear h1 h2 hno
      go_enter Try.func18, Try.ntmps18
      go_wp2_with fail
      go_ret2
      exact ⟨rfl, hx⟩

set_option maxRecDepth 100000 in
set_option maxHeartbeats 1600000 in
theorem choose_1 (m : Int) (a : Option Addr) (n c : Nat) (came dropped : Int) (M : List Wh) (num : Int) (w : World) (hb : Cw w a n c M) :
    Calls Try.prog 18 #[cav m a n c came dropped, .int .i64 1, .int .i64 num] w (ChoosePost (chooseC ⟨m, ws M, came, dropped⟩ 1 num) w) := by
  have hlen := Lib.hid hb.rd.len
  have hnb := hb.len
  have hx := Ext.alloc w (.cells #[.int .i64 m, .slice a n c, .int .i64 came, .int .i64 dropped] 24)
  have hr := (hb.ext hx).right (m := m) (came := came) (dropped := dropped)
  obtain ⟨R, hR⟩ : ∃ R, chooseC ⟨m, ws M, came, dropped⟩ 1 num = R := ⟨_, rfl⟩
  rw [hR]
  have hRh := Lib.hid hR
  clear hR
  unfold cav ChoosePost at *
  cases hcc : crtC ⟨m, ws M, came, dropped⟩ with
  | false =>
    rw [hcc] at hr
    have h9 := hRh.out
    unfold chooseC at h9
    rw [if_pos (.inr (.inr (.inr hcc)))] at h9
    subst h9
    have hrh := Lib.hid hr
    clear hr hcc hRh
    go_enter Try.func18, Try.ntmps18
    go_wp2_with fail
    refine hrh.out.mono ?_
    rintro e w1 ⟨rfl, hx1⟩
    go_wp2_with fail
    go_ret2
    exact ⟨rfl, hx.trans hx1⟩
  | true =>
    rw [hcc] at hr
    have hgood := crt_good hcc
    dsimp only at hgood
    have hrh := Lib.hid hr
    have hch := Lib.hid hcc
    clear hr hcc
    by_cases hn0 : 0 < n
    · have hM0 : 0 < M.length := by rw [hlen.out]; exact hn0
      have hW0 : 0 < (ws M).length := by unfold ws; rw [List.length_map]; exact hM0
      have hne0 : ((n : Int) == 0) = false := by rw [beq_eq_false_iff_ne]; omega
      have hpick : ∀ (_ : 0 < (ws M).length) (_ : 0 < M.length), True → True → Ending.returned (.tuple #[.string ⟨((minW ltMost (ws M)[0] ((ws M).drop 1)).1).toArray⟩, .int .i64 0]) = .returned (.tuple #[.string ⟨R.1.toArray⟩, .int .i64 R.2]) := fun _ _ _ _ => by
        rw [← hRh.out]
        unfold chooseC
        rw [if_neg (by rintro (h | h | h | h); omega; omega; omega; rw [hch.out] at h; cases h)]
        cases M with
        | nil => exact absurd hM0 (by simp)
        | cons x M => rfl

      go_enter Try.func18, Try.ntmps18
      go_wp2_with fail
      refine hrh.out.mono ?_
      rintro e w1 ⟨rfl, hx1⟩
      obtain ⟨y0, y1, y2, y3⟩ := box4 hx1
      have hX := hx.trans hx1
      have hbe := Lib.hid (best_most a n c M w1 (hb.rd.ext hX) hn0 (by omega))
      go_wp2_with fail
      refine hbe.out.mono ?_
      rintro e w2 ⟨s, rfl, ⟨_, hs⟩, hx2⟩
      have hsh := Lib.hid hs
      clear hs
      go_wp2_with fail
      go_ret2
      refine ⟨?_, hX.trans hx2⟩
      rw [hsh.out]
      exact (hpick hW0 hM0 trivial trivial)
    · obtain rfl : n = 0 := by omega
      have hMe : M = [] := List.eq_nil_of_length_eq_zero hlen.out
      have h9 := hRh.out
      unfold chooseC at h9
      rw [if_neg (by rintro (h | h | h | h); omega; omega; omega; rw [hch.out] at h; cases h), hMe] at h9
      subst h9
      clear hRh hMe
      go_enter Try.func18, Try.ntmps18
      go_wp2_with fail
      refine hrh.out.mono ?_
      rintro e w1 ⟨rfl, hx1⟩
      obtain ⟨y0, y1, y2, y3⟩ := box4 hx1
      have hX := hx.trans hx1
      go_wp2_with fail
      go_ret2
      exact ⟨rfl, hX⟩

set_option maxRecDepth 100000 in
set_option maxHeartbeats 1600000 in
theorem choose_2 (m : Int) (a : Option Addr) (n c : Nat) (came dropped : Int) (M : List Wh) (num : Int) (w : World) (hb : Cw w a n c M) :
    Calls Try.prog 18 #[cav m a n c came dropped, .int .i64 2, .int .i64 num] w (ChoosePost (chooseC ⟨m, ws M, came, dropped⟩ 2 num) w) := by
  have hlen := Lib.hid hb.rd.len
  have hnb := hb.len
  have hx := Ext.alloc w (.cells #[.int .i64 m, .slice a n c, .int .i64 came, .int .i64 dropped] 24)
  have hr := (hb.ext hx).right (m := m) (came := came) (dropped := dropped)
  obtain ⟨R, hR⟩ : ∃ R, chooseC ⟨m, ws M, came, dropped⟩ 2 num = R := ⟨_, rfl⟩
  rw [hR]
  have hRh := Lib.hid hR
  clear hR
  unfold cav ChoosePost at *
  cases hcc : crtC ⟨m, ws M, came, dropped⟩ with
  | false =>
    rw [hcc] at hr
    have h9 := hRh.out
    unfold chooseC at h9
    rw [if_pos (.inr (.inr (.inr hcc)))] at h9
    subst h9
    have hrh := Lib.hid hr
    clear hr hcc hRh
    go_enter Try.func18, Try.ntmps18
    go_wp2_with fail
    refine hrh.out.mono ?_
    rintro e w1 ⟨rfl, hx1⟩
    go_wp2_with fail
    go_ret2
    exact ⟨rfl, hx.trans hx1⟩
  | true =>
    rw [hcc] at hr
    have hgood := crt_good hcc
    dsimp only at hgood
    have hrh := Lib.hid hr
    have hch := Lib.hid hcc
    clear hr hcc
    by_cases hn0 : 0 < n
    · have hM0 : 0 < M.length := by rw [hlen.out]; exact hn0
      have hW0 : 0 < (ws M).length := by unfold ws; rw [List.length_map]; exact hM0
      have hne0 : ((n : Int) == 0) = false := by rw [beq_eq_false_iff_ne]; omega
      have hpick : ∀ (_ : 0 < (ws M).length) (_ : 0 < M.length), True → True → Ending.returned (.tuple #[.string ⟨(M[0].1.1).toArray⟩, .int .i64 0]) = .returned (.tuple #[.string ⟨R.1.toArray⟩, .int .i64 R.2]) := fun _ _ _ _ => by
        rw [← hRh.out]
        unfold chooseC
        rw [if_neg (by rintro (h | h | h | h); omega; omega; omega; rw [hch.out] at h; cases h)]
        cases M with
        | nil => exact absurd hM0 (by simp)
        | cons x M => rfl

      go_enter Try.func18, Try.ntmps18
      go_wp2_with fail
      refine hrh.out.mono ?_
      rintro e w1 ⟨rfl, hx1⟩
      obtain ⟨y0, y1, y2, y3⟩ := box4 hx1
      have hX := hx.trans hx1
      obtain ⟨b, o, rfl, hc⟩ := hb.rd.at hn0
      obtain ⟨d0, _⟩ := hc 0 hM0
      simp only [Nat.zero_mul, Nat.add_zero] at d0
      replace d0 := hX.cell d0
      have hl0 := World.block_lt_of_cell? w1 _ d0
      have hl1 := World.block_lt_of_cell? w1 _ y1
      clear hc
      go_wp2_with fail
      go_ret2
      exact ⟨hpick hW0 hM0 trivial trivial, hX⟩
    · obtain rfl : n = 0 := by omega
      have hMe : M = [] := List.eq_nil_of_length_eq_zero hlen.out
      have h9 := hRh.out
      unfold chooseC at h9
      rw [if_neg (by rintro (h | h | h | h); omega; omega; omega; rw [hch.out] at h; cases h), hMe] at h9
      subst h9
      clear hRh hMe
      go_enter Try.func18, Try.ntmps18
      go_wp2_with fail
      refine hrh.out.mono ?_
      rintro e w1 ⟨rfl, hx1⟩
      obtain ⟨y0, y1, y2, y3⟩ := box4 hx1
      have hX := hx.trans hx1
      go_wp2_with fail
      go_ret2
      exact ⟨rfl, hX⟩

set_option maxRecDepth 100000 in
set_option maxHeartbeats 1600000 in
theorem choose_3 (m : Int) (a : Option Addr) (n c : Nat) (came dropped : Int) (M : List Wh) (num : Int) (w : World) (hb : Cw w a n c M) :
    Calls Try.prog 18 #[cav m a n c came dropped, .int .i64 3, .int .i64 num] w (ChoosePost (chooseC ⟨m, ws M, came, dropped⟩ 3 num) w) := by
  have hlen := Lib.hid hb.rd.len
  have hnb := hb.len
  have hx := Ext.alloc w (.cells #[.int .i64 m, .slice a n c, .int .i64 came, .int .i64 dropped] 24)
  have hr := (hb.ext hx).right (m := m) (came := came) (dropped := dropped)
  obtain ⟨R, hR⟩ : ∃ R, chooseC ⟨m, ws M, came, dropped⟩ 3 num = R := ⟨_, rfl⟩
  rw [hR]
  have hRh := Lib.hid hR
  clear hR
  unfold cav ChoosePost at *
  cases hcc : crtC ⟨m, ws M, came, dropped⟩ with
  | false =>
    rw [hcc] at hr
    have h9 := hRh.out
    unfold chooseC at h9
    rw [if_pos (.inr (.inr (.inr hcc)))] at h9
    subst h9
    have hrh := Lib.hid hr
    clear hr hcc hRh
    go_enter Try.func18, Try.ntmps18
    go_wp2_with fail
    refine hrh.out.mono ?_
    rintro e w1 ⟨rfl, hx1⟩
    go_wp2_with fail
    go_ret2
    exact ⟨rfl, hx.trans hx1⟩
  | true =>
    rw [hcc] at hr
    have hgood := crt_good hcc
    dsimp only at hgood
    have hrh := Lib.hid hr
    have hch := Lib.hid hcc
    clear hr hcc
    by_cases hn0 : 0 < n
    · have hM0 : 0 < M.length := by rw [hlen.out]; exact hn0
      have hW0 : 0 < (ws M).length := by unfold ws; rw [List.length_map]; exact hM0
      have hne0 : ((n : Int) == 0) = false := by rw [beq_eq_false_iff_ne]; omega
      have hpick : ∀ (_ : 0 < (ws M).length) (_ : 0 < M.length), True → True → Ending.returned (.tuple #[.string ⟨((minW ltEldest (ws M)[0] ((ws M).drop 1)).1).toArray⟩, .int .i64 0]) = .returned (.tuple #[.string ⟨R.1.toArray⟩, .int .i64 R.2]) := fun _ _ _ _ => by
        rw [← hRh.out]
        unfold chooseC
        rw [if_neg (by rintro (h | h | h | h); omega; omega; omega; rw [hch.out] at h; cases h)]
        cases M with
        | nil => exact absurd hM0 (by simp)
        | cons x M => rfl

      go_enter Try.func18, Try.ntmps18
      go_wp2_with fail
      refine hrh.out.mono ?_
      rintro e w1 ⟨rfl, hx1⟩
      obtain ⟨y0, y1, y2, y3⟩ := box4 hx1
      have hX := hx.trans hx1
      have hne : ∀ x ∈ M, x.1.2 ≠ [] := fun x hx => (hgood.named x.1 (List.mem_map.2 ⟨x, hx, rfl⟩)).2
      have hbe := Lib.hid (best_eldest a n c M w1 (hb.rd.ext hX) hn0 (by omega) hne)
      clear hne
      go_wp2_with fail
      refine hbe.out.mono ?_
      rintro e w2 ⟨s, rfl, ⟨_, hs⟩, hx2⟩
      have hsh := Lib.hid hs
      clear hs
      go_wp2_with fail
      go_ret2
      refine ⟨?_, hX.trans hx2⟩
      rw [hsh.out]
      exact (hpick hW0 hM0 trivial trivial)
    · obtain rfl : n = 0 := by omega
      have hMe : M = [] := List.eq_nil_of_length_eq_zero hlen.out
      have h9 := hRh.out
      unfold chooseC at h9
      rw [if_neg (by rintro (h | h | h | h); omega; omega; omega; rw [hch.out] at h; cases h), hMe] at h9
      subst h9
      clear hRh hMe
      go_enter Try.func18, Try.ntmps18
      go_wp2_with fail
      refine hrh.out.mono ?_
      rintro e w1 ⟨rfl, hx1⟩
      obtain ⟨y0, y1, y2, y3⟩ := box4 hx1
      have hX := hx.trans hx1
      go_wp2_with fail
      go_ret2
      exact ⟨rfl, hX⟩

set_option maxRecDepth 100000 in
set_option maxHeartbeats 1600000 in
theorem choose_4 (m : Int) (a : Option Addr) (n c : Nat) (came dropped : Int) (M : List Wh) (num : Int) (w : World) (hb : Cw w a n c M) (hnum : 0 ≤ num) :
    Calls Try.prog 18 #[cav m a n c came dropped, .int .i64 4, .int .i64 num] w (ChoosePost (chooseC ⟨m, ws M, came, dropped⟩ 4 num) w) := by
  have hlen := Lib.hid hb.rd.len
  have hnb := hb.len
  have hx := Ext.alloc w (.cells #[.int .i64 m, .slice a n c, .int .i64 came, .int .i64 dropped] 24)
  have hr := (hb.ext hx).right (m := m) (came := came) (dropped := dropped)
  obtain ⟨R, hR⟩ : ∃ R, chooseC ⟨m, ws M, came, dropped⟩ 4 num = R := ⟨_, rfl⟩
  rw [hR]
  have hRh := Lib.hid hR
  clear hR
  have hnum2 : ¬ num < 0 := by omega
  unfold cav ChoosePost at *
  cases hcc : crtC ⟨m, ws M, came, dropped⟩ with
  | false =>
    rw [hcc] at hr
    have h9 := hRh.out
    unfold chooseC at h9
    rw [if_pos (.inr (.inr (.inr hcc)))] at h9
    subst h9
    have hrh := Lib.hid hr
    clear hr hcc hRh
    go_enter Try.func18, Try.ntmps18
    go_wp2_with fail
    refine hrh.out.mono ?_
    rintro e w1 ⟨rfl, hx1⟩
    go_wp2_with fail
    go_ret2
    exact ⟨rfl, hx.trans hx1⟩
  | true =>
    rw [hcc] at hr
    have hgood := crt_good hcc
    dsimp only at hgood
    have hrh := Lib.hid hr
    have hch := Lib.hid hcc
    clear hr hcc
    by_cases hn0 : 0 < n
    · have hM0 : 0 < M.length := by rw [hlen.out]; exact hn0
      have hW0 : 0 < (ws M).length := by unfold ws; rw [List.length_map]; exact hM0
      have hne0 : ((n : Int) == 0) = false := by rw [beq_eq_false_iff_ne]; omega
      have hpick : ∀ q (hqM : q < M.length), num % (n : Int) = (q : Int) → Ending.returned (.tuple #[.string ⟨M[q].1.1.toArray⟩, .int .i64 0]) = .returned (.tuple #[.string ⟨R.1.toArray⟩, .int .i64 R.2]) := fun q hqM hq => by
        rw [← hRh.out]
        unfold chooseC
        rw [if_neg (by rintro (h | h | h | h); omega; omega; exact absurd h.2 (by omega); rw [hch.out] at h; cases h)]
        cases M with
        | nil => exact absurd hM0 (by simp)
        | cons x M =>
          have hl := hlen.out
          show _ = Ending.returned (.tuple #[.string ⟨(pickW 4 num x.1 (ws M)).toArray⟩, .int .i64 0])
          unfold pickW
          rw [if_neg (by decide), if_neg (by decide), if_pos rfl, show ((x.1 :: ws M).length : Int) = (n : Int) by unfold ws; rw [List.length_cons, List.length_map, ← hl]; rfl, hq]
          have hg : ((x.1 :: ws M).getD (q : Int).toNat x.1) = (x :: M)[q].1 := by
            rw [Int.toNat_natCast, List.getD_eq_getElem?_getD]
            have : (x.1 :: ws M)[q]? = some (x :: M)[q].1 := by
              show ((x :: M).map (·.1))[q]? = _
              rw [List.getElem?_map, List.getElem?_eq_getElem hqM]; rfl
            rw [this]; rfl
          rw [hg]

      go_enter Try.func18, Try.ntmps18
      go_wp2_with fail
      refine hrh.out.mono ?_
      rintro e w1 ⟨rfl, hx1⟩
      obtain ⟨y0, y1, y2, y3⟩ := box4 hx1
      have hX := hx.trans hx1
      obtain ⟨q, hq⟩ : ∃ q : Nat, num % (n : Int) = (q : Int) := ⟨(num % (n : Int)).toNat, by have := Int.emod_nonneg num (show (n : Int) ≠ 0 by omega); omega⟩
      have hqn : q < n := by have := Int.emod_lt_of_pos num (show (0 : Int) < (n : Int) by omega); omega
      have hqM : q < M.length := by rw [hlen.out]; exact hqn
      have hqp := Lib.hid (hpick q hqM hq)
      obtain ⟨b, o, rfl, hc⟩ := hb.rd.at hn0
      obtain ⟨d0, _⟩ := hc q hqM
      replace d0 := hX.cell d0
      have hl0 := World.block_lt_of_cell? w1 _ d0
      have hl1 := World.block_lt_of_cell? w1 _ y1
      clear hc hpick
      have hqI : (q : Int) < (n : Int) := by omega
      go_wp2_with fail
      go_quiet (fail)
      go_wp2_with fail
      go_ret2
      exact ⟨hqp.out, hX.trans (Ext.drewN _ _)⟩
    · obtain rfl : n = 0 := by omega
      have hMe : M = [] := List.eq_nil_of_length_eq_zero hlen.out
      have h9 := hRh.out
      unfold chooseC at h9
      rw [if_neg (by rintro (h | h | h | h); omega; omega; exact absurd h.2 (by omega); rw [hch.out] at h; cases h), hMe] at h9
      subst h9
      clear hRh hMe
      go_enter Try.func18, Try.ntmps18
      go_wp2_with fail
      refine hrh.out.mono ?_
      rintro e w1 ⟨rfl, hx1⟩
      obtain ⟨y0, y1, y2, y3⟩ := box4 hx1
      have hX := hx.trans hx1
      go_wp2_with fail
      go_ret2
      exact ⟨rfl, hX⟩

/-- The code's Choose. -/
theorem choose_calls (m : Int) (a : Option Addr) (n c : Nat) (came dropped : Int) (M : List Wh) (policy num : Int) (w : World) (hb : Cw w a n c M) : Calls Try.prog 18 #[cav m a n c came dropped, .int .i64 policy, .int .i64 num] w (ChoosePost (chooseC ⟨m, ws M, came, dropped⟩ policy num) w) := by
  by_cases h : policy < 1 ∨ 4 < policy ∨ (policy = 4 ∧ num < 0)
  · have : chooseC ⟨m, ws M, came, dropped⟩ policy num = ([], 1) := by
      unfold chooseC
      rw [if_pos (by rcases h with h | h | h; exact .inl h; exact .inr (.inl h); exact .inr (.inr (.inl h)))]
    rw [this]
    exact choose_no m a n c came dropped policy num w h
  · have h4 : policy = 1 ∨ policy = 2 ∨ policy = 3 ∨ policy = 4 := by omega
    rcases h4 with rfl | rfl | rfl | rfl
    · exact choose_1 m a n c came dropped M num w hb
    · exact choose_2 m a n c came dropped M num w hb
    · exact choose_3 m a n c came dropped M num w hb
    · exact choose_4 m a n c came dropped M num w hb (by omega)

end Go.Proofs.Ytcbjadmngkednaa
