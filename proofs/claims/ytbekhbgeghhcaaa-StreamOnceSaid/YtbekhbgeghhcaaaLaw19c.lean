/-
  Layer 19's statements: StreamOnce.
-/
import Derived.Test.YtbekhbgeghhcaaaLaw19b
namespace Go.Proofs.Ytbekhbgeghhcaaa
open Go.RowKit

theorem count_take (l : List UInt8) (k : Nat) (h : k < l.length) : (l.take (k + 1)).count 10 = (l.take k).count 10 + (if l[k] = 10 then 1 else 0) := by
  rw [List.take_succ_eq_append_getElem h, List.count_append]
  simp [List.count_cons]

set_option maxRecDepth 100000 in
set_option maxHeartbeats 3200000 in
theorem once_walk (a : Option Addr) (n c : Nat) (l : List UInt8) (o : Bool) (a2 : Option Addr) (n2 c2 : Nat) (l2 : List UInt8) (w : World) (hb : Bs w a n c l) (hb2 : Bs w a2 n2 c2 l2) :
    Calls Try.prog 4 #[cv a n c o, .slice a2 n2 c2] w fun e w' => e = .returned (.bool true) ∧ Ext w w' := by
  have hlen := Lib.hid hb.len
  have hlen2 := Lib.hid hb2.len
  have hbx := Ext.alloc w (.cells #[.slice a n c, .bool o] 24)
  have hal := alive19_calls (w.alloc (.cells #[.slice a n c, .bool o] 24))
  unfold cv at *
  by_cases g1 : (5000 : Int) < (n2 : Int)
  · go_enter Try.func4, Try.ntmps4
    go_wp2_with fail
    refine hal.mono ?_
    rintro e w1 ⟨rfl, hx1⟩
    go_wp2
    go_ret
    exact ⟨rfl, hbx.trans hx1⟩
  by_cases g2 : (5000 : Int) < (n : Int)
  · go_enter Try.func4, Try.ntmps4
    go_wp2_with fail
    refine hal.mono ?_
    rintro e w1 ⟨rfl, hx1⟩
    obtain ⟨y0, y1⟩ := box2 hx1
    go_wp2
    go_ret
    exact ⟨rfl, hbx.trans hx1⟩
  have hrr := fun w1 (h : Ext w w1) => rright_calls a n c l o w1 (hb.ext h)
  obtain ⟨r, hr⟩ : ∃ r, crt (l, o) = r := ⟨_, rfl⟩
  rw [hr] at hrr
  have hrr := Lib.hid hrr
  unfold cv at hrr
  cases r with
  | false =>
    go_enter Try.func4, Try.ntmps4
    go_wp2_with fail
    refine hal.mono ?_
    rintro e w1 ⟨rfl, hx1⟩
    obtain ⟨y0, y1⟩ := box2 hx1
    go_wp2_with fail
    refine (hrr.out w1 (hbx.trans hx1)).mono ?_
    rintro e w2 ⟨rfl, hx2⟩
    go_wp2
    go_ret
    exact ⟨rfl, (hbx.trans hx1).trans hx2⟩
  | true =>
    go_enter Try.func4, Try.ntmps4
    go_wp2_with fail
    refine hal.mono ?_
    rintro e w1 ⟨rfl, hx1⟩
    obtain ⟨y0, y1⟩ := box2 hx1
    go_wp2_with fail
    refine (hrr.out w1 (hbx.trans hx1)).mono ?_
    rintro e w2 ⟨rfl, hx2⟩
    obtain ⟨y0, y1⟩ := box2 (hx1.trans hx2)
    have hxw2 := (hbx.trans hx1).trans hx2
    clear hx1 hx2 hrr hal hbx
    go_wp2
    go_loop [5, 6] (fun f i => ∃ k : Nat, k ≤ n2 ∧ i = .int .i64 k ∧ f = .int .i64 ((l2.take k).count 10 : Nat)) (fun _ i => n2 - (intOf i).toNat)
    case atStart => exact ⟨0, by omega, rfl, by simp⟩
    case round =>
      obtain ⟨k, hk, rfl, rfl⟩ := hrel
      by_cases hlt : k < n2
      · obtain ⟨b, off, rfl, hc⟩ := hb2.at (by omega)
        have hkl : k < l2.length := by rw [hlen2.out]; exact hlt
        have hcell := hxw2.cell (hc k hkl)
        have hct := Lib.hid (count_take l2 k hkl)
        have hcb : (l2.take k).count 10 ≤ k := Nat.le_trans List.count_le_length (by simp; omega)
        obtain ⟨x, hxk⟩ : ∃ x, x = l2[k] := ⟨_, rfl⟩
        rw [← hxk] at hcell hct
        obtain ⟨f, hf⟩ : ∃ f, f = (l2.take k).count 10 := ⟨_, rfl⟩
        rw [← hf] at hct hcb ⊢
        clear hc hxk hf
        by_cases hx10 : x = 10
        · subst hx10
          go_wp2
          go_round
          case rel => exact ⟨k + 1, by omega, by go_num, by rw [hct.out, if_pos rfl]; go_num⟩
          case measure => simp [intOf]; omega
        · have hxi : ((x.toNat : Int) == 10) = false := by
            rw [beq_eq_false_iff_ne]
            intro h
            exact hx10 (UInt8.toNat_inj.1 (by show x.toNat = 10; omega))
          go_wp2
          go_round
          case rel => exact ⟨k + 1, by omega, by go_num, by rw [hct.out, if_neg hx10]; rfl⟩
          case measure => simp [intOf]; omega
      · obtain rfl : k = n2 := by omega
        have htk : l2.take k = l2 := List.take_of_length_le (by rw [hlen2.out]; exact Nat.le_refl _)
        rw [htk]
        obtain ⟨⟨⟨q, bo⟩, pl⟩, hst⟩ : ∃ st, feedR (l, o) [] l2 = st := ⟨_, rfl⟩
        have hcr := Lib.hid (feedR_crt l2 (l, o) [] hr)
        have hcn := Lib.hid (feedR_count l2 (l, o) [])
        have hpc := Lib.hid (feedR_pieces l2 (l, o) [] hr (by simp))
        rw [hst] at hcr hcn hpc
        obtain ⟨f, hf⟩ : ∃ f, f = l2.count 10 := ⟨_, rfl⟩
        rw [← hf] at hcn ⊢
        clear htk hf
        go_wp2_with fail
        refine (feed_g a n c l o a2 k c2 l2 w2 (hb.ext hxw2) (hb2.ext hxw2) hr (by omega) _ hst).mono ?_
        rintro e w3 ⟨a3, n3, c3, a4, n4, c4, rfl, hb3, hp, -, hx3⟩
        unfold cv
        dsimp only at hb3 hp ⊢
        have hpl := Lib.hid hp.len
        have hn4 : n4 = f := by have h1 := hpl.out; have h2 := hcn.out; simp at h2; omega
        subst hn4
        have hm4 := Nat.le_trans (Sl.le hp) (Sl.max hp)
        unfold maxLen at hm4
        have hxw3 := hxw2.trans hx3
        go_wp2
        go_loop [10, 11] (fun i j => ∃ k : Nat, k ≤ n4 ∧ i = .int .i64 k) (fun i _ => n4 - (intOf i).toNat)
        case atStart => exact ⟨0, by omega, rfl⟩
        case round =>
          obtain ⟨i, hi, rfl⟩ := hrel
          by_cases hlt : i < n4
          · obtain ⟨b4, o4, rfl, hc4⟩ := hp.at (by omega)
            have hil : i < pl.length := by rw [hpl.out]; exact hlt
            obtain ⟨d0, d1⟩ := hc4 i hil
            have hcrt := (crt_iff _).1 (hpc.out _ (List.getElem_mem hil))
            obtain ⟨⟨t, to⟩, htt⟩ : ∃ x, x = pl[i] := ⟨_, rfl⟩
            rw [← htt] at d0 d1 hcrt
            dsimp only at d0 d1 hcrt
            obtain ⟨ht1, ht2, ht3⟩ := hcrt
            have hlt4 := World.block_lt_of_cell? w3 _ d0
            have ht1 := Lib.hid ht1
            have ht3 := Lib.hid ht3
            clear hc4 htt
            go_wp2
            go_loop [11] (fun j => ∃ k : Nat, k ≤ t.length ∧ j = .int .i64 k) (fun j => t.length - (intOf j).toNat)
            case atStart => exact ⟨0, by omega, rfl⟩
            case round =>
              obtain ⟨k, hk, rfl⟩ := hrel
              by_cases hkt : k < t.length
              · have hne := ht1.out _ (List.getElem_mem hkt)
                have hks : k < (⟨t.toArray⟩ : ByteArray).size := by show k < t.toArray.size; simpa using hkt
                have hxi : ((((⟨t.toArray⟩ : ByteArray)[k]'hks).toNat : Int) == 10) = false := by
                  rw [beq_eq_false_iff_ne]
                  intro h
                  have h2 : (((⟨t.toArray⟩ : ByteArray)[k]'hks)) = t[k] := rfl
                  rw [h2] at h
                  exact hne (UInt8.toNat_inj.1 (by show (t[k]).toNat = 10; omega))
                clear hne
                go_wp2
                go_round
                case rel => exact ⟨k + 1, by omega, by go_num⟩
                case measure => simp [intOf]; omega
              · obtain rfl : k = t.length := by omega
                cases to with
                | true =>
                  have ht := ht3.out rfl
                  subst ht
                  go_wp2
                  go_round
                  case rel => exact ⟨i + 1, by omega, by go_num⟩
                  case measure => simp [intOf]; omega
                | false =>
                  go_wp2
                  go_round
                  case rel => exact ⟨i + 1, by omega, by go_num⟩
                  case measure => simp [intOf]; omega
          · obtain rfl : i = n4 := by omega
            have hcr3 := right_calls a3 n3 c3 q bo (w3.alloc (.cells #[.slice a3 n3 c3, .bool bo] 24)) (hb3.ext (Ext.alloc _ _))
            rw [hcr.out] at hcr3
            unfold cv at hcr3
            go_wp2_with fail
            refine hcr3.mono ?_
            rintro e w4 ⟨rfl, hx4⟩
            go_wp2
            go_ret
            exact ⟨rfl, (hxw3.trans (Ext.alloc _ _)).trans hx4⟩
end Go.Proofs.Ytbekhbgeghhcaaa
