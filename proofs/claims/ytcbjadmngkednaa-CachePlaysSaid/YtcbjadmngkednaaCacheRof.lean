/-
  Layer 20's contracts: the document's Of.
-/
import Derived.Test.YtcbjadmngkednaaCacheGreat
namespace Go.Proofs.Ytcbjadmngkednaa
open Go.RowKit

theorem findW_none {s : List UInt8} {L : List Wt} : findW s L = none ↔ ∀ w ∈ L, w.1 ≠ s := by
  unfold findW
  rw [List.find?_eq_none]
  simp
theorem findW_at {s : List UInt8} {L : List Wt} {k : Nat} (hk : k < L.length) (h : findW s (L.take k) = none) (he : L[k].1 = s) : findW s L = some L[k] := by
  have h1 : L = L.take k ++ L[k] :: L.drop (k + 1) := by rw [← List.drop_eq_getElem_cons hk, List.take_append_drop]
  unfold findW at h ⊢
  conv => lhs; rw [h1]
  rw [List.find?_append, h, List.find?_cons, show (L[k].1 == s) = true by simp [he]]
  rfl
theorem findW_more {s : List UInt8} {L : List Wt} {k : Nat} (hk : k < L.length) (h : findW s (L.take k) = none) (he : L[k].1 ≠ s) : findW s (L.take (k + 1)) = none := by
  rw [List.take_succ_eq_append_getElem hk]
  unfold findW at h ⊢
  rw [List.find?_append, h, List.find?_cons, show (L[k].1 == s) = false by simp [he]]
  rfl
set_option maxRecDepth 100000 in
set_option maxHeartbeats 800000 in
theorem rof_calls (m : Int) (a : Option Addr) (n c : Nat) (came dropped : Int) (M : List Wh) (s : List UInt8) (w : World) (hb : Cw w a n c M) :
    Calls Try.prog 26 #[cav m a n c came dropped, .string ⟨s.toArray⟩] w fun e w' => ∃ pa pc, e = .returned (.slice pa (ofC ⟨m, ws M, came, dropped⟩ s).length pc) ∧ ORow ac 4 w' w.heap.size 50 (.slice pa (ofC ⟨m, ws M, came, dropped⟩ s).length pc) (ofC ⟨m, ws M, came, dropped⟩ s) ∧ Ext w w' := by
  have hlen := Lib.hid hb.rd.len
  have hwl := Lib.hid (show (ws M).length = n by unfold ws; rw [List.length_map]; exact hb.rd.len)
  have hnb := hb.len
  have hx := Ext.alloc w (.cells #[.int .i64 m, .slice a n c, .int .i64 came, .int .i64 dropped] 24)
  have hr := (hb.ext hx).rright (m := m) (came := came) (dropped := dropped)
  obtain ⟨L, hL⟩ : ∃ L, ofC ⟨m, ws M, came, dropped⟩ s = L := ⟨_, rfl⟩
  rw [hL]
  unfold ofC at hL
  obtain ⟨r, hrr⟩ : ∃ r, crtC ⟨m, ws M, came, dropped⟩ = r := ⟨_, rfl⟩
  rw [hrr] at hr hL
  have hrh := Lib.hid hr
  have hLh := Lib.hid hL
  clear hr hL hrr
  unfold cav at *
  cases r with
  | false =>
    go_enter Try.func26, Try.ntmps26
    go_wp2_with fail
    refine hrh.out.mono ?_
    rintro e w1 ⟨rfl, hx1⟩
    go_wp2_with fail
    go_ret
    have h9 := hLh.out
    rw [if_pos (by simp)] at h9
    subst h9
    exact ⟨none, 0, rfl, World.ownsRow_nil _ _ _ _, hx.trans hx1⟩
  | true =>
    go_enter Try.func26, Try.ntmps26
    go_wp2_with fail
    refine hrh.out.mono ?_
    rintro e w1 ⟨rfl, hx1⟩
    obtain ⟨y0, y1, y2, y3⟩ := box4 hx1
    have hX := hx.trans hx1
    go_wp2_with fail
    go_loop [5] (fun i => ∃ k : Nat, k ≤ n ∧ i = .int .i64 k ∧ Hid (findW s ((ws M).take k) = none)) (fun i => n - (intOf i).toNat)
    case atStart => exact ⟨0, by omega, rfl, rfl⟩
    case round =>
      obtain ⟨k, hk, rfl, hf⟩ := hrel
      have hl1 := World.block_lt_of_cell? w1 _ y1
      by_cases hlt : k < n
      · obtain ⟨b, o, rfl, hc⟩ := hb.rd.at (by omega)
        have hkM : k < M.length := by rw [hlen.out]; exact hlt
        have hkW : k < (ws M).length := by rw [hwl.out]; exact hlt
        obtain ⟨d0, d1⟩ := hc k hkM
        replace d0 := hX.cell d0
        replace d1 := hX.cell d1
        have hl2 := World.block_lt_of_cell? w1 _ d0
        have hak := (hb.rd.2 M[k] (List.getElem_mem hkM)).ext hX
        have hml := hb.mem_len (List.getElem_mem hkM)
        have hwi : Hid ((ws M)[k] = M[k].1) := by show _ = _; simp [ws]
        obtain ⟨⟨⟨pp, pts⟩, pa, pn, pc⟩, hxe⟩ : ∃ x, M[k] = x := ⟨_, rfl⟩
        rw [hxe] at d0 d1 hak hml hwi
        dsimp only at d0 d1 hak hml
        have hpn := Lib.hid (As.len hak)
        clear hc hxe
        by_cases hps : pp = s
        · subst hps
          have hfi := Lib.hid (findW_at hkW hf.out (by rw [hwi.out]))
          have hz1 : Hid ((0 + pn) * 32 ≤ 140737488355328) := by show _ ≤ _; omega
          have hz2 : Hid (0 + pn ≤ maxLen) := by show _ ≤ _; unfold maxLen; omega
          have hz3 : Hid (w1.heap.size ≤ (w1.alloc (.cells #[] 50)).heap.size) := by show _ ≤ _; simp
          have hown := Lib.hid (owns_made w1 50 4)
          have hsrc := Lib.hid (hak.ext (Ext.alloc w1 (.cells #[] 50)))
          have hpe : (pp == pp) = true := by simp
          go_wp2_with (at_builtin; refine wpList_append_sl rfl _ _ 46 rfl w1.heap.size 50 Try.underlying46 infoAr rfl (by decide) _ _ _ rfl hown.out _ _ _ (rcells ac pts) rfl hsrc.out (ac_one pts) hz1.out hz2.out hz3.out ?_; intro v5 w5 hown5 hgrow5)
          go_ret
          have hX5 := (Ext.alloc w1 (.cells #[] 50)).grown hgrow5 (fun k e => owns_row hown.out k e)
          rw [Nat.zero_add, List.nil_append, ← hpn.out] at hown5
          obtain ⟨a5, c5, rfl, hr5⟩ := Sl.of_owns hown5
          have h9 := hLh.out
          rw [if_neg (by simp), hfi.out, hwi.out] at h9
          subst h9
          exact ⟨a5, c5, rfl, owns_mono hown5 hX.size, hX.trans hX5⟩
        · have hne : (pp == s) = false := by simp [hps]
          have hf2 := Lib.hid (findW_more hkW hf.out (by rw [hwi.out]; exact hps))
          go_wp2_with fail
          go_round
          case rel => exact ⟨k + 1, by omega, by go_num, hf2.out⟩
          case measure => simp [intOf]; omega
      · obtain rfl : n = k := by omega
        have hf2 := hf.out
        rw [List.take_of_length_le (by rw [hwl.out]; exact Nat.le_refl _)] at hf2
        have h9 := hLh.out
        rw [if_neg (by simp), hf2] at h9
        subst h9
        clear hf2
        go_wp2_with fail
        go_ret
        exact ⟨none, 0, rfl, World.ownsRow_nil _ _ _ _, hX⟩
end Go.Proofs.Ytcbjadmngkednaa
