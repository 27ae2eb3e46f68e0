/-
  Layer 20's contracts: the document's Choose.
-/
import Derived.Test.YtcbjadmngkednaaCacheRof
namespace Go.Proofs.Ytcbjadmngkednaa
open Go.RowKit

set_option maxRecDepth 100000 in
theorem rchoose_no (m : Int) (a : Option Addr) (n c : Nat) (came dropped : Int) (M : List Wh) (policy num : Int) (w : World) (hb : Cw w a n c M) (hno : policy < 1 ∨ 4 < policy ∨ (policy = 4 ∧ num < 0)) :
    Calls Try.prog 22 #[cav m a n c came dropped, .int .i64 policy, .int .i64 num] w (ChoosePost ([], 1) w) := by
  have hlen := Lib.hid hb.rd.len
  have hnb := hb.len
  have hx := Ext.alloc w (.cells #[.int .i64 m, .slice a n c, .int .i64 came, .int .i64 dropped] 24)
  have hr := (hb.ext hx).rright (m := m) (came := came) (dropped := dropped)
  unfold cav ChoosePost at *
  cases hcc : crtC ⟨m, ws M, came, dropped⟩ with
  | false =>
    rw [hcc] at hr
    have hrh := Lib.hid hr
    clear hr hcc
    go_enter Try.func22, Try.ntmps22
    go_wp2_with fail
    refine hrh.out.mono ?_
    rintro e w1 ⟨rfl, hx1⟩
    obtain ⟨y0, y1, y2, y3⟩ := box4 hx1
    have hX := hx.trans hx1
    go_wp2_with fail
    go_ret2
    exact ⟨rfl, hX⟩
  | true =>
    rw [hcc] at hr
    have hrh := Lib.hid hr
    clear hr hcc
    by_cases h1 : policy < 1
    · go_enter Try.func22, Try.ntmps22
      go_wp2_with fail
      refine hrh.out.mono ?_
      rintro e w1 ⟨rfl, hx1⟩
      obtain ⟨y0, y1, y2, y3⟩ := box4 hx1
      have hX := hx.trans hx1
      go_wp2_with fail
      go_ret2
      exact ⟨rfl, hX⟩
    · by_cases h2 : 4 < policy
      · go_enter Try.func22, Try.ntmps22
        go_wp2_with fail
        refine hrh.out.mono ?_
        rintro e w1 ⟨rfl, hx1⟩
        obtain ⟨y0, y1, y2, y3⟩ := box4 hx1
        have hX := hx.trans hx1
        go_wp2_with fail
        go_ret2
        exact ⟨rfl, hX⟩
      · obtain ⟨rfl, h3⟩ : policy = 4 ∧ num < 0 := by rcases hno with h | h | h; exact absurd h h1; exact absurd h h2; exact h
        clear h1 h2 hno
        go_enter Try.func22, Try.ntmps22
        go_wp2_with fail
        refine hrh.out.mono ?_
        rintro e w1 ⟨rfl, hx1⟩
        obtain ⟨y0, y1, y2, y3⟩ := box4 hx1
        have hX := hx.trans hx1
        go_wp2_with fail
        go_ret2
        exact ⟨rfl, hX⟩

set_option maxRecDepth 100000 in
set_option maxHeartbeats 1600000 in
theorem rchoose_1 (m : Int) (a : Option Addr) (n c : Nat) (came dropped : Int) (M : List Wh) (num : Int) (w : World) (hb : Cw w a n c M) :
    Calls Try.prog 22 #[cav m a n c came dropped, .int .i64 1, .int .i64 num] w (ChoosePost (chooseC ⟨m, ws M, came, dropped⟩ 1 num) w) := by
  have hlen := Lib.hid hb.rd.len
  have hnb := hb.len
  have hx := Ext.alloc w (.cells #[.int .i64 m, .slice a n c, .int .i64 came, .int .i64 dropped] 24)
  have hr := (hb.ext hx).rright (m := m) (came := came) (dropped := dropped)
  have hwl := Lib.hid (show (ws M).length = n by unfold ws; rw [List.length_map]; exact hb.rd.len)
  obtain ⟨R, hR⟩ : ∃ R, chooseC ⟨m, ws M, came, dropped⟩ 1 num = R := ⟨_, rfl⟩
  rw [hR]
  have hRh := Lib.hid hR
  clear hR
  unfold cav ChoosePost at *
  cases hcc : crtC ⟨m, ws M, came, dropped⟩ with
  | false =>
    rw [hcc] at hr
    have h9 := hRh.out
    unfold chooseC at h9
    rw [if_pos (.inr (.inr (.inr hcc)))] at h9
    subst h9
    have hrh := Lib.hid hr
    clear hr hcc hRh
    go_enter Try.func22, Try.ntmps22
    go_wp2_with fail
    refine hrh.out.mono ?_
    rintro e w1 ⟨rfl, hx1⟩
    obtain ⟨y0, y1, y2, y3⟩ := box4 hx1
    have hX := hx.trans hx1
    go_wp2_with fail
    go_ret2
    exact ⟨rfl, hX⟩
  | true =>
    rw [hcc] at hr
    have hgood := crt_good hcc
    dsimp only at hgood
    have hrh := Lib.hid hr
    have hch := Lib.hid hcc
    clear hr hcc
    by_cases hn0 : 0 < n
    · have hM0 : 0 < M.length := by rw [hlen.out]; exact hn0
      have hW0 : 0 < (ws M).length := by unfold ws; rw [List.length_map]; exact hM0
      have hne0 : ((n : Int) == 0) = false := by rw [beq_eq_false_iff_ne]; omega
      have hpick : ∀ (_ : 0 < (ws M).length) (_ : 0 < M.length), True → True → Ending.returned (.tuple #[.string ⟨((minW ltMost (ws M)[0] ((ws M).drop 1)).1).toArray⟩, .int .i64 0]) = .returned (.tuple #[.string ⟨R.1.toArray⟩, .int .i64 R.2]) := fun _ _ _ _ => by
        rw [← hRh.out]
        unfold chooseC
        rw [if_neg (by rintro (h | h | h | h); omega; omega; omega; rw [hch.out] at h; cases h)]
        cases M with
        | nil => exact absurd hM0 (by simp)
        | cons x M => rfl
      have hpk := Lib.hid (hpick hW0 hM0 trivial trivial)
      clear hpick

      go_enter Try.func22, Try.ntmps22
      go_wp2_with fail
      refine hrh.out.mono ?_
      rintro e w1 ⟨rfl, hx1⟩
      obtain ⟨y0, y1, y2, y3⟩ := box4 hx1
      have hX := hx.trans hx1
      go_wp2_with fail
      go_loopw [8, 9] (fun vb vi wr => ∃ k b : Nat, k ≤ n ∧ vi = .int .i64 k ∧ vb = .int .i64 b ∧ b < n ∧ Hid ((ws M)[b]? = some (minW ltMost (ws M)[0] (((ws M).take k).drop 1))) ∧ Ext w1 wr) (fun _ vi _ => n - (intOf vi).toNat)
      case atStart => exact ⟨0, 0, Nat.zero_le _, rfl, rfl, hn0, by show _ = _; rw [List.getElem?_eq_getElem hW0]; simp [minW], Ext.refl _⟩
      case round =>
        obtain ⟨k, b, hk, rfl, rfl, hbn, hmin, hXr⟩ := hrel
        replace y1 := hXr.cell y1
        replace hX := hX.trans hXr
        by_cases hlt : k < n
        · have _t : True := trivial
          obtain ⟨bb, o, rfl, hc⟩ := hb.rd.at hn0
          have hkM : k < M.length := by rw [hlen.out]; exact hlt
          have hkW : k < (ws M).length := by rw [hwl.out]; exact hlt
          have hbM : b < M.length := by rw [hlen.out]; exact hbn
          obtain ⟨d0, d1⟩ := hc k hkM
          obtain ⟨e0, e1⟩ := hc b hbM
          replace d1 := hX.cell d1
          replace e1 := hX.cell e1
          have hl0 := World.block_lt_of_cell? wr _ d1
          have hl1 := World.block_lt_of_cell? wr _ y1
          have hmt := minW_take ltMost (ws M) hW0 k hkW
          have hmn : minW ltMost (ws M)[0] (((ws M).take k).drop 1) = M[b].1 := by
            have h1 := hmin.out
            rw [show (ws M)[b]? = some M[b].1 by unfold ws; rw [List.getElem?_map, List.getElem?_eq_getElem hbM]; rfl] at h1
            exact (Option.some.inj h1).symm
          rw [hmn, show (ws M)[k] = M[k].1 by simp [ws]] at hmt
          have hself : k = 0 → M[b].1 = M[k].1 := fun h => by
            subst h
            rw [← hmn]
            simp [minW, ws]
          have hkI : (k : Int) < (n : Int) := by omega
          have hbI : (b : Int) < (n : Int) := by omega
          have hlk := (hb.rd.2 M[k] (List.getElem_mem hkM)).len
          have hlb := (hb.rd.2 M[b] (List.getElem_mem hbM)).len
          have hmlk := hb.mem_len (List.getElem_mem hkM)
          have hmlb := hb.mem_len (List.getElem_mem hbM)
          have hwk := Lib.hid (show (ws M)[k]? = some M[k].1 by unfold ws; rw [List.getElem?_map, List.getElem?_eq_getElem hkM]; rfl)
          have hwb := Lib.hid (show (ws M)[b]? = some M[b].1 by unfold ws; rw [List.getElem?_map, List.getElem?_eq_getElem hbM]; rfl)
          obtain ⟨⟨⟨pp, pts⟩, pa, pn, pc⟩, hxe⟩ : ∃ x, M[k] = x := ⟨_, rfl⟩
          obtain ⟨⟨⟨pp2, pts2⟩, pa2, pn2, pc2⟩, hxe2⟩ : ∃ x, M[b] = x := ⟨_, rfl⟩
          rw [hxe] at d1 hmt hlk hmlk hwk hself
          rw [hxe2] at e1 hmt hlb hmlb hwb hself
          dsimp only at d1 e1 hlk hlb hmlk hmlb
          have hlm : ltMost (pp, pts) (pp2, pts2) = decide ((pn2 : Int) < (pn : Int)) := by unfold ltMost; rw [← hlk, ← hlb]
          rw [hlm] at hmt
          clear hlm
          have hs0 : k = 0 → pn2 = pn := fun h => by have h1 := hself h; injection h1 with _ h2; rw [← hlk, ← hlb, h2]
          clear hc d0 e0 hmn hxe hxe2 hself hlk hlb
          by_cases hgt : (pn2 : Int) < (pn : Int)
          · have hk1 : 1 ≤ k := by
              rcases Nat.eq_zero_or_pos k with h | h
              · have := hs0 h; omega
              · exact h
            rw [decide_eq_true hgt, if_pos ⟨rfl, hk1⟩] at hmt
            have hmth := Lib.hid hmt
            have q1 : decide ((pn2 : Int) < (pn : Int)) = true := decide_eq_true hgt
            clear hmt hs0
            go_wp2_with fail
            go_quiet (fail)
            go_wp2_with fail
            go_roundw
            case rel => exact ⟨k + 1, k, by omega, by go_num, rfl, hlt, by show _ = _; rw [hmth.out]; exact hwk.out, hXr.trans (Ext.drewN _ _)⟩
            case measure => simp [intOf]; omega
          · rw [decide_eq_false hgt, if_neg (by simp)] at hmt
            have hmth := Lib.hid hmt
            have q1 : decide ((pn2 : Int) < (pn : Int)) = false := decide_eq_false hgt
            clear hmt hs0
            go_wp2_with fail
            go_quiet (fail)
            go_wp2_with fail
            go_roundw
            case rel => exact ⟨k + 1, b, by omega, by go_num, rfl, hbn, by show _ = _; rw [hmth.out]; exact hwb.out, hXr.trans (Ext.drewN _ _)⟩
            case measure => simp [intOf]; omega
        · obtain rfl : k = n := by omega
          have hfm := hmin.out
          rw [List.take_of_length_le (by rw [hwl.out]; exact Nat.le_refl _)] at hfm
          have hbM : b < M.length := by rw [hlen.out]; exact hbn
          rw [show (ws M)[b]? = some M[b].1 by unfold ws; rw [List.getElem?_map, List.getElem?_eq_getElem hbM]; rfl] at hfm
          have hfmh := Lib.hid (Option.some.inj hfm)
          clear hfm
          have hbI : (((b : Nat) : Int)) < (k : Int) := by omega
          obtain ⟨bb, o, rfl, hc⟩ := hb.rd.at hn0
          obtain ⟨d0, _⟩ := hc b hbM
          have _t := True.intro
          replace d0 := hX.cell d0
          have hl0 := World.block_lt_of_cell? wr _ d0
          have hl1 := World.block_lt_of_cell? wr _ y1
          clear hc
          go_wp2_with fail
          go_ret2
          exact ⟨by rw [hfmh.out]; exact hpk.out, hX⟩
    · obtain rfl : n = 0 := by omega
      have hMe : M = [] := List.eq_nil_of_length_eq_zero hlen.out
      have h9 := hRh.out
      unfold chooseC at h9
      rw [if_neg (by rintro (h | h | h | h); omega; omega; omega; rw [hch.out] at h; cases h), hMe] at h9
      subst h9
      clear hRh hMe
      go_enter Try.func22, Try.ntmps22
      go_wp2_with fail
      refine hrh.out.mono ?_
      rintro e w1 ⟨rfl, hx1⟩
      obtain ⟨y0, y1, y2, y3⟩ := box4 hx1
      have hX := hx.trans hx1
      go_wp2_with fail
      go_ret2
      exact ⟨rfl, hX⟩

set_option maxRecDepth 100000 in
set_option maxHeartbeats 1600000 in
theorem rchoose_2 (m : Int) (a : Option Addr) (n c : Nat) (came dropped : Int) (M : List Wh) (num : Int) (w : World) (hb : Cw w a n c M) :
    Calls Try.prog 22 #[cav m a n c came dropped, .int .i64 2, .int .i64 num] w (ChoosePost (chooseC ⟨m, ws M, came, dropped⟩ 2 num) w) := by
  have hlen := Lib.hid hb.rd.len
  have hnb := hb.len
  have hx := Ext.alloc w (.cells #[.int .i64 m, .slice a n c, .int .i64 came, .int .i64 dropped] 24)
  have hr := (hb.ext hx).rright (m := m) (came := came) (dropped := dropped)
  have hwl := Lib.hid (show (ws M).length = n by unfold ws; rw [List.length_map]; exact hb.rd.len)
  obtain ⟨R, hR⟩ : ∃ R, chooseC ⟨m, ws M, came, dropped⟩ 2 num = R := ⟨_, rfl⟩
  rw [hR]
  have hRh := Lib.hid hR
  clear hR
  unfold cav ChoosePost at *
  cases hcc : crtC ⟨m, ws M, came, dropped⟩ with
  | false =>
    rw [hcc] at hr
    have h9 := hRh.out
    unfold chooseC at h9
    rw [if_pos (.inr (.inr (.inr hcc)))] at h9
    subst h9
    have hrh := Lib.hid hr
    clear hr hcc hRh
    go_enter Try.func22, Try.ntmps22
    go_wp2_with fail
    refine hrh.out.mono ?_
    rintro e w1 ⟨rfl, hx1⟩
    obtain ⟨y0, y1, y2, y3⟩ := box4 hx1
    have hX := hx.trans hx1
    go_wp2_with fail
    go_ret2
    exact ⟨rfl, hX⟩
  | true =>
    rw [hcc] at hr
    have hgood := crt_good hcc
    dsimp only at hgood
    have hrh := Lib.hid hr
    have hch := Lib.hid hcc
    clear hr hcc
    by_cases hn0 : 0 < n
    · have hM0 : 0 < M.length := by rw [hlen.out]; exact hn0
      have hW0 : 0 < (ws M).length := by unfold ws; rw [List.length_map]; exact hM0
      have hne0 : ((n : Int) == 0) = false := by rw [beq_eq_false_iff_ne]; omega
      have hpick : ∀ (_ : 0 < (ws M).length) (_ : 0 < M.length), True → True → Ending.returned (.tuple #[.string ⟨(M[0].1.1).toArray⟩, .int .i64 0]) = .returned (.tuple #[.string ⟨R.1.toArray⟩, .int .i64 R.2]) := fun _ _ _ _ => by
        rw [← hRh.out]
        unfold chooseC
        rw [if_neg (by rintro (h | h | h | h); omega; omega; omega; rw [hch.out] at h; cases h)]
        cases M with
        | nil => exact absurd hM0 (by simp)
        | cons x M => rfl
      have hpk := Lib.hid (hpick hW0 hM0 trivial trivial)
      clear hpick

      go_enter Try.func22, Try.ntmps22
      go_wp2_with fail
      refine hrh.out.mono ?_
      rintro e w1 ⟨rfl, hx1⟩
      obtain ⟨y0, y1, y2, y3⟩ := box4 hx1
      have hX := hx.trans hx1
      go_wp2_with fail
      go_loopw [8, 9] (fun vb vi wr => ∃ k b : Nat, k ≤ n ∧ vi = .int .i64 k ∧ vb = .int .i64 b ∧ b < n ∧ b = 0 ∧ Ext w1 wr) (fun _ vi _ => n - (intOf vi).toNat)
      case atStart => exact ⟨0, 0, Nat.zero_le _, rfl, rfl, hn0, rfl, Ext.refl _⟩
      case round =>
        obtain ⟨k, b, hk, rfl, rfl, hbn, hmin, hXr⟩ := hrel
        replace y1 := hXr.cell y1
        replace hX := hX.trans hXr
        by_cases hlt : k < n
        · have _t : True := trivial
          subst hmin
          go_wp2_with fail
          go_roundw
          case rel => exact ⟨k + 1, 0, by omega, by go_num, rfl, hbn, rfl, hXr⟩
          case measure => simp [intOf]; omega
        · obtain rfl : k = n := by omega
          subst hmin
          have hbM : 0 < M.length := hM0
          have hbI : (((0 : Nat) : Int)) < (k : Int) := by omega
          obtain ⟨bb, o, rfl, hc⟩ := hb.rd.at hn0
          obtain ⟨d0, _⟩ := hc 0 hbM
          simp only [Nat.zero_mul, Nat.add_zero] at d0
          replace d0 := hX.cell d0
          have hl0 := World.block_lt_of_cell? wr _ d0
          have hl1 := World.block_lt_of_cell? wr _ y1
          clear hc
          go_wp2_with fail
          go_ret2
          exact ⟨hpk.out, hX⟩
    · obtain rfl : n = 0 := by omega
      have hMe : M = [] := List.eq_nil_of_length_eq_zero hlen.out
      have h9 := hRh.out
      unfold chooseC at h9
      rw [if_neg (by rintro (h | h | h | h); omega; omega; omega; rw [hch.out] at h; cases h), hMe] at h9
      subst h9
      clear hRh hMe
      go_enter Try.func22, Try.ntmps22
      go_wp2_with fail
      refine hrh.out.mono ?_
      rintro e w1 ⟨rfl, hx1⟩
      obtain ⟨y0, y1, y2, y3⟩ := box4 hx1
      have hX := hx.trans hx1
      go_wp2_with fail
      go_ret2
      exact ⟨rfl, hX⟩

set_option maxRecDepth 100000 in
set_option maxHeartbeats 1600000 in
theorem rchoose_3 (m : Int) (a : Option Addr) (n c : Nat) (came dropped : Int) (M : List Wh) (num : Int) (w : World) (hb : Cw w a n c M) :
    Calls Try.prog 22 #[cav m a n c came dropped, .int .i64 3, .int .i64 num] w (ChoosePost (chooseC ⟨m, ws M, came, dropped⟩ 3 num) w) := by
  have hlen := Lib.hid hb.rd.len
  have hnb := hb.len
  have hx := Ext.alloc w (.cells #[.int .i64 m, .slice a n c, .int .i64 came, .int .i64 dropped] 24)
  have hr := (hb.ext hx).rright (m := m) (came := came) (dropped := dropped)
  have hwl := Lib.hid (show (ws M).length = n by unfold ws; rw [List.length_map]; exact hb.rd.len)
  obtain ⟨R, hR⟩ : ∃ R, chooseC ⟨m, ws M, came, dropped⟩ 3 num = R := ⟨_, rfl⟩
  rw [hR]
  have hRh := Lib.hid hR
  clear hR
  unfold cav ChoosePost at *
  cases hcc : crtC ⟨m, ws M, came, dropped⟩ with
  | false =>
    rw [hcc] at hr
    have h9 := hRh.out
    unfold chooseC at h9
    rw [if_pos (.inr (.inr (.inr hcc)))] at h9
    subst h9
    have hrh := Lib.hid hr
    clear hr hcc hRh
    go_enter Try.func22, Try.ntmps22
    go_wp2_with fail
    refine hrh.out.mono ?_
    rintro e w1 ⟨rfl, hx1⟩
    obtain ⟨y0, y1, y2, y3⟩ := box4 hx1
    have hX := hx.trans hx1
    go_wp2_with fail
    go_ret2
    exact ⟨rfl, hX⟩
  | true =>
    rw [hcc] at hr
    have hgood := crt_good hcc
    dsimp only at hgood
    have hrh := Lib.hid hr
    have hch := Lib.hid hcc
    clear hr hcc
    by_cases hn0 : 0 < n
    · have hM0 : 0 < M.length := by rw [hlen.out]; exact hn0
      have hW0 : 0 < (ws M).length := by unfold ws; rw [List.length_map]; exact hM0
      have hne0 : ((n : Int) == 0) = false := by rw [beq_eq_false_iff_ne]; omega
      have hpick : ∀ (_ : 0 < (ws M).length) (_ : 0 < M.length), True → True → Ending.returned (.tuple #[.string ⟨((minW ltEldest (ws M)[0] ((ws M).drop 1)).1).toArray⟩, .int .i64 0]) = .returned (.tuple #[.string ⟨R.1.toArray⟩, .int .i64 R.2]) := fun _ _ _ _ => by
        rw [← hRh.out]
        unfold chooseC
        rw [if_neg (by rintro (h | h | h | h); omega; omega; omega; rw [hch.out] at h; cases h)]
        cases M with
        | nil => exact absurd hM0 (by simp)
        | cons x M => rfl
      have hpk := Lib.hid (hpick hW0 hM0 trivial trivial)
      clear hpick

      go_enter Try.func22, Try.ntmps22
      go_wp2_with fail
      refine hrh.out.mono ?_
      rintro e w1 ⟨rfl, hx1⟩
      obtain ⟨y0, y1, y2, y3⟩ := box4 hx1
      have hX := hx.trans hx1
      go_wp2_with fail
      go_loopw [8, 9] (fun vb vi wr => ∃ k b : Nat, k ≤ n ∧ vi = .int .i64 k ∧ vb = .int .i64 b ∧ b < n ∧ Hid ((ws M)[b]? = some (minW ltEldest (ws M)[0] (((ws M).take k).drop 1))) ∧ Ext w1 wr) (fun _ vi _ => n - (intOf vi).toNat)
      case atStart => exact ⟨0, 0, Nat.zero_le _, rfl, rfl, hn0, by show _ = _; rw [List.getElem?_eq_getElem hW0]; simp [minW], Ext.refl _⟩
      case round =>
        obtain ⟨k, b, hk, rfl, rfl, hbn, hmin, hXr⟩ := hrel
        replace y1 := hXr.cell y1
        replace hX := hX.trans hXr
        by_cases hlt : k < n
        · have _t : True := trivial
          obtain ⟨bb, o, rfl, hc⟩ := hb.rd.at hn0
          have hkM : k < M.length := by rw [hlen.out]; exact hlt
          have hkW : k < (ws M).length := by rw [hwl.out]; exact hlt
          have hbM : b < M.length := by rw [hlen.out]; exact hbn
          obtain ⟨d0, d1⟩ := hc k hkM
          obtain ⟨e0, e1⟩ := hc b hbM
          replace d1 := hX.cell d1
          replace e1 := hX.cell e1
          have hl0 := World.block_lt_of_cell? wr _ d1
          have hl1 := World.block_lt_of_cell? wr _ y1
          have hmt := minW_take ltEldest (ws M) hW0 k hkW
          have hmn : minW ltEldest (ws M)[0] (((ws M).take k).drop 1) = M[b].1 := by
            have h1 := hmin.out
            rw [show (ws M)[b]? = some M[b].1 by unfold ws; rw [List.getElem?_map, List.getElem?_eq_getElem hbM]; rfl] at h1
            exact (Option.some.inj h1).symm
          rw [hmn, show (ws M)[k] = M[k].1 by simp [ws]] at hmt
          have hself : k = 0 → M[b].1 = M[k].1 := fun h => by
            subst h
            rw [← hmn]
            simp [minW, ws]
          have hkI : (k : Int) < (n : Int) := by omega
          have hbI : (b : Int) < (n : Int) := by omega
          have hwk := Lib.hid (show (ws M)[k]? = some M[k].1 by unfold ws; rw [List.getElem?_map, List.getElem?_eq_getElem hkM]; rfl)
          have hwb := Lib.hid (show (ws M)[b]? = some M[b].1 by unfold ws; rw [List.getElem?_map, List.getElem?_eq_getElem hbM]; rfl)
          have hnk := (hgood.named M[k].1 (List.mem_map.2 ⟨_, List.getElem_mem hkM, rfl⟩)).2
          have hnbb := (hgood.named M[b].1 (List.mem_map.2 ⟨_, List.getElem_mem hbM, rfl⟩)).2
          have hak := (hb.rd.2 M[k] (List.getElem_mem hkM)).ext hX
          have hab := (hb.rd.2 M[b] (List.getElem_mem hbM)).ext hX
          obtain ⟨⟨⟨pp, pts⟩, pa, pn, pc⟩, hxe⟩ : ∃ x, M[k] = x := ⟨_, rfl⟩
          obtain ⟨⟨⟨pp2, pts2⟩, pa2, pn2, pc2⟩, hxe2⟩ : ∃ x, M[b] = x := ⟨_, rfl⟩
          rw [hxe] at d1 hmt hwk hself hnk hak
          rw [hxe2] at e1 hmt hwb hself hnbb hab
          dsimp only at d1 e1 hnk hnbb hak hab
          have hlk := As.len hak
          have hlb := As.len hab
          obtain ⟨p, pts, rfl⟩ := List.exists_cons_of_ne_nil hnk
          obtain ⟨p2, pts2, rfl⟩ := List.exists_cons_of_ne_nil hnbb
          have hpn : 0 < pn := by rw [← hlk]; simp
          have hpn2 : 0 < pn2 := by rw [← hlb]; simp
          obtain ⟨ba, oa, rfl, hca⟩ := As.at hak hpn
          obtain ⟨ba2, oa2, rfl, hca2⟩ := As.at hab hpn2
          obtain ⟨_, _, _, g1⟩ := hca 0 (by simp)
          obtain ⟨_, _, _, g2⟩ := hca2 0 (by simp)
          simp only [Nat.zero_mul, Nat.add_zero, List.getElem_cons_zero] at g1 g2
          have hs0 : k = 0 → p2.order = p.order := fun h => by have h1 := hself h; injection h1 with _ h2; injection h2 with h3 _; rw [h3]
          have hlm : ltEldest (pp, p :: pts) (pp2, p2 :: pts2) = decide (p.order < p2.order) := rfl
          rw [hlm] at hmt
          clear hlm
          obtain ⟨O, hO⟩ : ∃ O, p.order = O := ⟨_, rfl⟩
          obtain ⟨O2, hO2⟩ : ∃ O2, p2.order = O2 := ⟨_, rfl⟩
          rw [hO] at g1 hmt hs0
          rw [hO2] at g2 hmt hs0
          have hpnI : (0 : Int) < (pn : Int) := by omega
          have hpn2I : (0 : Int) < (pn2 : Int) := by omega
          clear hc d0 e0 hmn hxe hxe2 hself hlk hlb hca hca2 hak hab hnk hnbb hO hO2
          by_cases hgt : O < O2
          · have hk1 : 1 ≤ k := by
              rcases Nat.eq_zero_or_pos k with h | h
              · have := hs0 h; omega
              · exact h
            rw [decide_eq_true hgt, if_pos ⟨rfl, hk1⟩] at hmt
            have hmth := Lib.hid hmt
            have q1 : decide (O < O2) = true := decide_eq_true hgt
            clear hmt hs0
            go_wp2_with fail
            go_quiet (fail)
            go_wp2_with fail
            go_roundw
            case rel => exact ⟨k + 1, k, by omega, by go_num, rfl, hlt, by show _ = _; rw [hmth.out]; exact hwk.out, hXr.trans (Ext.drewN _ _)⟩
            case measure => simp [intOf]; omega
          · rw [decide_eq_false hgt, if_neg (by simp)] at hmt
            have hmth := Lib.hid hmt
            have q1 : decide (O < O2) = false := decide_eq_false hgt
            clear hmt hs0
            go_wp2_with fail
            go_quiet (fail)
            go_wp2_with fail
            go_roundw
            case rel => exact ⟨k + 1, b, by omega, by go_num, rfl, hbn, by show _ = _; rw [hmth.out]; exact hwb.out, hXr.trans (Ext.drewN _ _)⟩
            case measure => simp [intOf]; omega
        · obtain rfl : k = n := by omega
          have hfm := hmin.out
          rw [List.take_of_length_le (by rw [hwl.out]; exact Nat.le_refl _)] at hfm
          have hbM : b < M.length := by rw [hlen.out]; exact hbn
          rw [show (ws M)[b]? = some M[b].1 by unfold ws; rw [List.getElem?_map, List.getElem?_eq_getElem hbM]; rfl] at hfm
          have hfmh := Lib.hid (Option.some.inj hfm)
          clear hfm
          have hbI : (((b : Nat) : Int)) < (k : Int) := by omega
          obtain ⟨bb, o, rfl, hc⟩ := hb.rd.at hn0
          obtain ⟨d0, _⟩ := hc b hbM
          have _t := True.intro
          replace d0 := hX.cell d0
          have hl0 := World.block_lt_of_cell? wr _ d0
          have hl1 := World.block_lt_of_cell? wr _ y1
          clear hc
          go_wp2_with fail
          go_ret2
          exact ⟨by rw [hfmh.out]; exact hpk.out, hX⟩
    · obtain rfl : n = 0 := by omega
      have hMe : M = [] := List.eq_nil_of_length_eq_zero hlen.out
      have h9 := hRh.out
      unfold chooseC at h9
      rw [if_neg (by rintro (h | h | h | h); omega; omega; omega; rw [hch.out] at h; cases h), hMe] at h9
      subst h9
      clear hRh hMe
      go_enter Try.func22, Try.ntmps22
      go_wp2_with fail
      refine hrh.out.mono ?_
      rintro e w1 ⟨rfl, hx1⟩
      obtain ⟨y0, y1, y2, y3⟩ := box4 hx1
      have hX := hx.trans hx1
      go_wp2_with fail
      go_ret2
      exact ⟨rfl, hX⟩

set_option maxRecDepth 100000 in
set_option maxHeartbeats 1600000 in
theorem rchoose_4 (m : Int) (a : Option Addr) (n c : Nat) (came dropped : Int) (M : List Wh) (num : Int) (w : World) (hb : Cw w a n c M) (hnum : 0 ≤ num) :
    Calls Try.prog 22 #[cav m a n c came dropped, .int .i64 4, .int .i64 num] w (ChoosePost (chooseC ⟨m, ws M, came, dropped⟩ 4 num) w) := by
  have hlen := Lib.hid hb.rd.len
  have hnb := hb.len
  have hx := Ext.alloc w (.cells #[.int .i64 m, .slice a n c, .int .i64 came, .int .i64 dropped] 24)
  have hr := (hb.ext hx).rright (m := m) (came := came) (dropped := dropped)
  have hwl := Lib.hid (show (ws M).length = n by unfold ws; rw [List.length_map]; exact hb.rd.len)
  obtain ⟨R, hR⟩ : ∃ R, chooseC ⟨m, ws M, came, dropped⟩ 4 num = R := ⟨_, rfl⟩
  rw [hR]
  have hRh := Lib.hid hR
  clear hR
  have hnum2 : ¬ num < 0 := by omega
  unfold cav ChoosePost at *
  cases hcc : crtC ⟨m, ws M, came, dropped⟩ with
  | false =>
    rw [hcc] at hr
    have h9 := hRh.out
    unfold chooseC at h9
    rw [if_pos (.inr (.inr (.inr hcc)))] at h9
    subst h9
    have hrh := Lib.hid hr
    clear hr hcc hRh
    go_enter Try.func22, Try.ntmps22
    go_wp2_with fail
    refine hrh.out.mono ?_
    rintro e w1 ⟨rfl, hx1⟩
    obtain ⟨y0, y1, y2, y3⟩ := box4 hx1
    have hX := hx.trans hx1
    go_wp2_with fail
    go_ret2
    exact ⟨rfl, hX⟩
  | true =>
    rw [hcc] at hr
    have hgood := crt_good hcc
    dsimp only at hgood
    have hrh := Lib.hid hr
    have hch := Lib.hid hcc
    clear hr hcc
    by_cases hn0 : 0 < n
    · have hM0 : 0 < M.length := by rw [hlen.out]; exact hn0
      have hW0 : 0 < (ws M).length := by unfold ws; rw [List.length_map]; exact hM0
      have hne0 : ((n : Int) == 0) = false := by rw [beq_eq_false_iff_ne]; omega
      have hpick : ∀ q (hqM : q < M.length), num % (n : Int) = (q : Int) → Ending.returned (.tuple #[.string ⟨M[q].1.1.toArray⟩, .int .i64 0]) = .returned (.tuple #[.string ⟨R.1.toArray⟩, .int .i64 R.2]) := fun q hqM hq => by
        rw [← hRh.out]
        unfold chooseC
        rw [if_neg (by rintro (h | h | h | h); omega; omega; exact absurd h.2 (by omega); rw [hch.out] at h; cases h)]
        cases M with
        | nil => exact absurd hM0 (by simp)
        | cons x M =>
          have hl := hlen.out
          show _ = Ending.returned (.tuple #[.string ⟨(pickW 4 num x.1 (ws M)).toArray⟩, .int .i64 0])
          unfold pickW
          rw [if_neg (by decide), if_neg (by decide), if_pos rfl, show ((x.1 :: ws M).length : Int) = (n : Int) by unfold ws; rw [List.length_cons, List.length_map, ← hl]; rfl, hq]
          have hg : ((x.1 :: ws M).getD (q : Int).toNat x.1) = (x :: M)[q].1 := by
            rw [Int.toNat_natCast, List.getD_eq_getElem?_getD]
            have : (x.1 :: ws M)[q]? = some (x :: M)[q].1 := by
              show ((x :: M).map (·.1))[q]? = _
              rw [List.getElem?_map, List.getElem?_eq_getElem hqM]; rfl
            rw [this]; rfl
          rw [hg]

      obtain ⟨q, hq⟩ : ∃ q : Nat, num % (n : Int) = (q : Int) := ⟨(num % (n : Int)).toNat, by have := Int.emod_nonneg num (show (n : Int) ≠ 0 by omega); omega⟩
      have hqn : q < n := by have := Int.emod_lt_of_pos num (show (0 : Int) < (n : Int) by omega); omega
      have hqM : q < M.length := by rw [hlen.out]; exact hqn
      have hqp := Lib.hid (hpick q hqM hq)
      clear hpick
      go_enter Try.func22, Try.ntmps22
      go_wp2_with fail
      refine hrh.out.mono ?_
      rintro e w1 ⟨rfl, hx1⟩
      obtain ⟨y0, y1, y2, y3⟩ := box4 hx1
      have hX := hx.trans hx1
      go_wp2_with fail
      go_loopw [8, 9] (fun vb vi wr => ∃ k b : Nat, k ≤ n ∧ vi = .int .i64 k ∧ vb = .int .i64 b ∧ b < n ∧ Hid (b = if k = 0 then 0 else q) ∧ Ext w1 wr) (fun _ vi _ => n - (intOf vi).toNat)
      case atStart => exact ⟨0, 0, Nat.zero_le _, rfl, rfl, hn0, rfl, Ext.refl _⟩
      case round =>
        obtain ⟨k, b, hk, rfl, rfl, hbn, hmin, hXr⟩ := hrel
        replace y1 := hXr.cell y1
        replace hX := hX.trans hXr
        by_cases hlt : k < n
        · have _t : True := trivial
          clear hmin
          go_wp2_with fail
          go_roundw
          case rel => exact ⟨k + 1, q, by omega, by go_num, by rw [hq], hqn, by show _ = _; rw [if_neg (by omega)], hXr⟩
          case measure => simp [intOf]; omega
        · obtain rfl : k = n := by omega
          have hfm := hmin.out
          rw [if_neg (by omega)] at hfm
          subst hfm
          have hbM := hqM
          have hbI : (((b : Nat) : Int)) < (k : Int) := by omega
          obtain ⟨bb, o, rfl, hc⟩ := hb.rd.at hn0
          obtain ⟨d0, _⟩ := hc b hbM
          have _t := True.intro
          replace d0 := hX.cell d0
          have hl0 := World.block_lt_of_cell? wr _ d0
          have hl1 := World.block_lt_of_cell? wr _ y1
          clear hc
          go_wp2_with fail
          go_ret2
          exact ⟨hqp.out, hX⟩
    · obtain rfl : n = 0 := by omega
      have hMe : M = [] := List.eq_nil_of_length_eq_zero hlen.out
      have h9 := hRh.out
      unfold chooseC at h9
      rw [if_neg (by rintro (h | h | h | h); omega; omega; exact absurd h.2 (by omega); rw [hch.out] at h; cases h), hMe] at h9
      subst h9
      clear hRh hMe
      go_enter Try.func22, Try.ntmps22
      go_wp2_with fail
      refine hrh.out.mono ?_
      rintro e w1 ⟨rfl, hx1⟩
      obtain ⟨y0, y1, y2, y3⟩ := box4 hx1
      have hX := hx.trans hx1
      go_wp2_with fail
      go_ret2
      exact ⟨rfl, hX⟩

/-- The document's Choose. -/
theorem rchoose_calls (m : Int) (a : Option Addr) (n c : Nat) (came dropped : Int) (M : List Wh) (policy num : Int) (w : World) (hb : Cw w a n c M) : Calls Try.prog 22 #[cav m a n c came dropped, .int .i64 policy, .int .i64 num] w (ChoosePost (chooseC ⟨m, ws M, came, dropped⟩ policy num) w) := by
  by_cases h : policy < 1 ∨ 4 < policy ∨ (policy = 4 ∧ num < 0)
  · have : chooseC ⟨m, ws M, came, dropped⟩ policy num = ([], 1) := by
      unfold chooseC
      rw [if_pos (by rcases h with h | h | h; exact .inl h; exact .inr (.inl h); exact .inr (.inr (.inl h)))]
    rw [this]
    exact rchoose_no m a n c came dropped M policy num w hb h
  · have h4 : policy = 1 ∨ policy = 2 ∨ policy = 3 ∨ policy = 4 := by omega
    rcases h4 with rfl | rfl | rfl | rfl
    · exact rchoose_1 m a n c came dropped M num w hb
    · exact rchoose_2 m a n c came dropped M num w hb
    · exact rchoose_3 m a n c came dropped M num w hb
    · exact rchoose_4 m a n c came dropped M num w hb (by omega)

end Go.Proofs.Ytcbjadmngkednaa
