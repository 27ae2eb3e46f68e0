/-
  The walk of CachePlays: whatever comes and is taken, what waits is what came and was not taken.
-/
import Derived.Test.YtcbjadmngkednaaPlaysMem
import Derived.Test.YtcbjadmngkednaaLaw20c
namespace Go.Proofs.Ytcbjadmngkednaa
open Go.RowKit

/-- An act of a play. -/
structure Pa where
  take : Bool
  path : Int
  value : Int
  pol : Int
def pac (x : Pa) : List Value := [.bool x.take, .int .u8 x.path, .int .i64 x.value, .int .u8 x.pol]
theorem pac_len (x : Pa) : (pac x).length = 4 := rfl
abbrev Pas (w : World) (a : Option Addr) (n c : Nat) (L : List Pa) : Prop := Row pac 4 w a n c L
theorem newC_ok {m : Int} (h1 : 1 ≤ m) (h2 : m ≤ 500) : newC m = (⟨m, [], 0, 0⟩, 0) := by
  unfold newC
  rw [if_pos ⟨h1, h2⟩]
theorem new_right {m : Int} (h1 : 1 ≤ m) (h2 : m ≤ 500) : crtC ⟨m, [], 0, 0⟩ = true := by
  rw [crtC_iff]
  refine ⟨⟨h1, h2, by simp, by simp, by simp, by simp, by simp [cnt]; omega, by simp [cnt]⟩, ⟨by simp, by simp, by simp, by simp [allO]⟩⟩

@[go_sem high] theorem slice_path (w : World) {p : Nat} (hp : p < 5) : (Instr.slice 9 (.string ⟨#[97, 98, 99, 100, 101]⟩) (some (.int .i64 (p : Int))) (some (.int .i64 ((p : Int) + 1))) none).run Try.prog w = .ok (.string ⟨#[UInt8.ofNat (97 + p)]⟩) w := by
  match p, hp with
  | 0, _ | 1, _ | 2, _ | 3, _ | 4, _ => rfl
/-- The state between two acts. -/
def PlLoop (w : World) (Bc Bv : Nat) (m : Int) (ln : Nat) (vc vd vt vi : Value) (wr : World) : Prop :=
  ∃ (k : Nat) (came dropped taken : Int) (a : Option Addr) (n c : Nat) (M : List Wh) (r : Nat → Value), k ≤ ln ∧ vi = .int .i64 k ∧ vc = .int .i64 came ∧ vd = .int .i64 dropped ∧ vt = .int .i64 taken ∧
    Hid (Pl m k ⟨m, ws M, came, dropped⟩ taken) ∧ Hid (PlS w wr Bc Bv #[.int .i64 m, .slice a n c, .int .i64 came, .int .i64 dropped] a n c M r (fun p => vals (pth p) (ws M)))

set_option maxRecDepth 100000 in
set_option maxHeartbeats 6400000 in
theorem plays_walk (most : Int) (la : Option Addr) (ln lc : Nat) (L : List Pa) (w : World) (h0 : 0 ≤ most) (h1 : most < 256) (hL : Pas w la ln lc L) (hu : ∀ x ∈ L, 0 ≤ x.path ∧ x.path < 256 ∧ 0 ≤ x.pol ∧ x.pol < 256) :
    Calls Try.prog 5 #[.int .u8 most, .slice la ln lc] w fun e w' => e = .returned (.bool true) ∧ Ext w w' := by
  have hlen : L.length = ln := Row.len pac_len (by decide) hL
  have hLh := Lib.hid hL
  have huh := Lib.hid hu
  have hmax := Nat.le_trans (Sl.le hL) (Sl.max hL)
  unfold maxLen at hmax
  clear hL hu
  by_cases hg : 300 < ln
  · go_enter Try.func5, Try.ntmps5
    go_wp2_with fail
    refine (alive20_calls _).mono ?_
    rintro e w1 ⟨rfl, hx1⟩
    go_wp2_with fail
    go_ret
    exact ⟨rfl, hx1⟩
  · obtain ⟨m, hm, hm1, hm2⟩ : ∃ m, 1 + most % 20 = m ∧ 1 ≤ m ∧ m ≤ 500 := ⟨_, rfl, by omega, by omega⟩
    have hnew := Lib.hid (fun W => new_calls m W)
    rw [newC_ok hm1 hm2] at hnew
    unfold cav at hnew
    go_enter Try.func5, Try.ntmps5
    go_wp2_with fail
    refine (alive20_calls _).mono ?_
    rintro e w1 ⟨rfl, hx1⟩
    go_wp2_with fail
    refine (hnew.out w1).mono ?_
    rintro e w2 ⟨rfl, hx2⟩
    have hX2 := hx1.trans hx2
    have hpl : Hid (Pl m 0 ⟨m, [], 0, 0⟩ 0) := ⟨new_right hm1 hm2, rfl, (fun _ h => by cases h), by simp, by simp [cnt], by simp⟩
    have hps : Hid (PlS w ((w2.alloc (.cells #[.int .i64 m, .slice none 0 0, .int .i64 0, .int .i64 0] 24)).alloc (.cells #[.slice none 0 0, .slice none 0 0, .slice none 0 0, .slice none 0 0, .slice none 0 0] 40)) w2.heap.size (w2.heap.size + 1) #[.int .i64 m, .slice none 0 0, .int .i64 0, .int .i64 0] none 0 0 [] (fun _ => .slice none 0 0) (fun p => vals (pth p) (ws []))) := by
      obtain ⟨z1, z2⟩ := two_blocks (Ext.refl ((w2.alloc (.cells #[.int .i64 m, .slice none 0 0, .int .i64 0, .int .i64 0] 24)).alloc (.cells #[.slice none 0 0, .slice none 0 0, .slice none 0 0, .slice none 0 0, .slice none 0 0] 40)))
      exact ⟨z1, z2, ⟨⟨Row.nil _ _ _, (fun _ h => by cases h)⟩, by omega, by simp [cnt], (fun _ h => by cases h)⟩, Av.nil _, Av.nil _, fun p hp => World.ownsRow_nil _ _ _ _, fun p q _ _ _ => .inl rfl, fun p _ k hk => (by cases hk), hX2.trans ((Ext.alloc _ _).trans (Ext.alloc _ _)), hX2.size, by have := hX2.size; omega⟩
    clear hx1 hx2 hnew
    obtain ⟨Bc, hBc⟩ : ∃ Bc, w2.heap.size = Bc := ⟨_, rfl⟩
    obtain ⟨Bv, hBv⟩ : ∃ Bv, Bc + 1 = Bv := ⟨_, rfl⟩
    rw [hBc, hBv] at hps
    go_wp2_with fail
    obtain ⟨W3, hW3⟩ : ∃ W3, (w2.alloc (.cells #[.int .i64 m, .slice none 0 0, .int .i64 0, .int .i64 0] 24)).alloc (.cells #[.slice none 0 0, .slice none 0 0, .slice none 0 0, .slice none 0 0, .slice none 0 0] 40) = W3 := ⟨_, rfl⟩
    rw [hW3] at hps ⊢
    clear hW3 hX2 hBc hBv
    go_loopw [7, 8, 9, 11] (fun vc vd vt vi wr => PlLoop w Bc Bv m ln vc vd vt vi wr) (fun _ _ _ vi _ => ln - (intOf vi).toNat)
    case atStart => exact ⟨0, 0, 0, 0, none, 0, 0, [], _, Nat.zero_le _, rfl, rfl, rfl, rfl, hpl, hps⟩
    case round =>
      obtain ⟨k, came, dropped, taken, a, n, c, M, r, hk, rfl, rfl, rfl, rfl, hP, hS⟩ := hrel
      clear hpl hps
      by_cases hlt : k < ln
      · obtain ⟨wo, hwo⟩ : ∃ wo : World, wr = wo := ⟨_, rfl⟩
        rw [hwo] at hS ⊢
        clear hwo
        have hkL : k < L.length := by omega
        obtain ⟨b, o, hla, hc⟩ := Row.at pac_len hLh.out (by omega : 0 < ln)
        have hEx := hS.out.ext
        have q0 := hEx.cell (hc k hkL 0 _ rfl)
        have q1 := hEx.cell (hc k hkL 1 _ rfl)
        have q2 := hEx.cell (hc k hkL 2 _ rfl)
        have q3 := hEx.cell (hc k hkL 3 _ rfl)
        have q2w := hc k hkL 2 _ rfl
        have hux := huh.out L[k] (List.getElem_mem hkL)
        obtain ⟨⟨tk, path, value, pol⟩, hx⟩ : ∃ x, L[k] = x := ⟨_, rfl⟩
        rw [hx] at q0 q1 q2 q3 q2w hux
        dsimp only at q0 q1 q2 q3 q2w hux
        have q2wh := Lib.hid q2w
        clear q2w
        rw [Nat.add_zero] at q0
        obtain ⟨p1, p2, p3, p4⟩ := hux
        subst hla
        obtain ⟨⟨y0, y1, y2, y3⟩, _⟩ := cells_four hS.out.cb
        clear hc hx
        cases tk with
        | true =>
          have hch := hP.out.choose (1 + pol % 4) path (by omega) (by omega) p1
          obtain ⟨po, hpo⟩ : ∃ po, 1 + pol % 4 = po := ⟨_, rfl⟩
          rw [hpo] at hch
          obtain ⟨R, hR⟩ : ∃ R, chooseC ⟨m, ws M, came, dropped⟩ po path = R := ⟨_, rfl⟩
          have hcc : Hid (∀ W, Ext wo W → Calls Try.prog 18 #[.agg #[.int .i64 m, .slice a n c, .int .i64 came, .int .i64 dropped], .int .i64 po, .int .i64 path] W (ChoosePost R W)) := fun W h => by
            have h1 := choose_calls m a n c came dropped M po path W (hS.out.cw.ext h)
            rw [hR] at h1
            exact h1
          rw [hR] at hch
          have hchh := Lib.hid hch
          clear hch hR
          unfold ChoosePost at hcc
          go_upto_region 12 with fail
          obtain ⟨X, iX, f, hxS0, hSx0⟩ := letters (fun w' => Ext wo w') wo (Ext.refl wo)
          have hxS := Lib.hid hxS0
          have hSx := Lib.hid hSx0
          clear hxS0 hSx0
          have u0 : ∀ x', (f x').cell? ⟨Bc, 0, none⟩ = some (.int .i64 m) := fun x' => (hxS.out x').cell y0
          have u1 : ∀ x', (f x').cell? ⟨Bc, 1, none⟩ = some (.slice a n c) := fun x' => (hxS.out x').cell y1
          have u2 : ∀ x', (f x').cell? ⟨Bc, 2, none⟩ = some (.int .i64 came) := fun x' => (hxS.out x').cell y2
          have u3 : ∀ x', (f x').cell? ⟨Bc, 3, none⟩ = some (.int .i64 dropped) := fun x' => (hxS.out x').cell y3
          have v1 : ∀ x', (f x').cell? ⟨b, o + k * 4 + 1, none⟩ = some (.int .u8 path) := fun x' => (hxS.out x').cell q1
          have v3 : ∀ x', (f x').cell? ⟨b, o + k * 4 + 3, none⟩ = some (.int .u8 pol) := fun x' => (hxS.out x').cell q3
          have hk1 : Hid (∀ x', Calls Try.prog 18 #[.agg #[.int .i64 m, .slice a n c, .int .i64 came, .int .i64 dropped], .int .i64 po, .int .i64 path] (f x') fun e w'' => e = .returned (.tuple #[.string ⟨R.1.toArray⟩, .int .i64 R.2]) ∧ ∃ y, w'' = f y) := fun x' =>
            (hcc.out (f x') (hxS.out x')).mono (fun e w'' ⟨he, hx2⟩ => ⟨he, hSx.out w'' ((hxS.out x').trans hx2)⟩)
          refine region_class (fun w' => ∃ x' : X, w' = f x') (by kernel_rfl) (by kernel_rfl) (hSx.out _ (Ext.drewN wo 1)) ?_
          repeat (go_big_quiet_step ((go_at_call 18; exact (hk1.out _))))
          refine wpQuiet_nil ?_
          rintro _ ⟨x1, rfl⟩
          have hxA := hxS.out x1
          obtain ⟨wA, hwA⟩ : ∃ wA, f x1 = wA := ⟨_, rfl⟩
          rw [hwA] at hxA ⊢
          have hSA := Lib.hid (hS.out.more hxA)
          clear u0 u1 u2 u3 v1 v3 hk1 hxS hSx hwA iX hcc y0 y1 y2 y3
          obtain ⟨⟨y0, y1, y2, y3⟩, _⟩ := cells_four hSA.out.cb
          rcases hchh.out with ⟨hRe, hcz⟩ | ⟨p, x, hp, hRe, hf, htk, hvs, hP2, hxl, hva⟩
          · subst hRe
            have hct : Hid (Calls Try.prog 19 #[.agg #[.int .i64 m, .slice a n c, .int .i64 came, .int .i64 dropped]] wA fun e w'' => e = .returned (.int .i64 0) ∧ Ext wA w'') := by
              have h1 := count_calls m a n c came dropped M wA hSA.out.cw
              rw [if_pos hP.out.right, show cnt (ws M) = 0 from hcz] at h1
              exact h1
            clear hchh
            go_wp2_with fail
            refine hct.out.mono ?_
            rintro e wB ⟨rfl, hxB⟩
            have hSB := hSA.out.more hxB
            clear hct hcz
            go_wp2_with fail
            go_roundw
            case rel => exact ⟨k + 1, came, dropped, taken, a, n, c, M, r, by omega, by go_num, rfl, rfl, rfl, hP.out.more, hSB⟩
            case measure => simp [intOf]; omega
          · rw [hRe]
            (try dsimp only)
            obtain ⟨ub, hub⟩ : ∃ ub, UInt8.ofNat (97 + p) = ub := ⟨_, rfl⟩
            have hub2 : ub.toNat = 97 + p := by rw [← hub]; simp; omega
            have hpth : pth p = [ub] := by unfold pth; rw [hub]
            have hbi : (⟨#[ub]⟩ : ByteArray)[0]'(Nat.zero_lt_one) = ub := rfl
            have htc : Hid (Calls Try.prog 20 #[.agg #[.int .i64 m, .slice a n c, .int .i64 came, .int .i64 dropped], .string ⟨[ub].toArray⟩] wA fun e w' => ∃ a2 n2 c2 M2 pa pn pc, e = .returned (.tuple #[.agg #[.int .i64 m, .slice a2 n2 c2, .int .i64 came, .int .i64 dropped], .slice pa pn pc, .int .i64 0]) ∧
                Ws w' a2 n2 c2 M2 ∧ ws M2 = ((ws M).filter fun x => x.1 != pth p) ∧ As w' pa pn pc x.2 ∧ (∀ B, B < wA.heap.size → Av B a M → Av B a2 M2 ∧ ∀ x, pa = some x → x.block ≠ B) ∧ Ext wA w') := by
              have h1 := take_calls m a n c came dropped M (pth p) wA hSA.out.cw
              rw [htk, hpth] at h1
              rw [hpth]
              exact h1
            rw [hpth]
            have hP2h := Lib.hid hP2
            have hvah := Lib.hid hva
            have hvsh := Lib.hid hvs
            have hph := Lib.hid hP
            clear hchh hRe hf htk hP2 hva hvs hP hub
            go_wp2_with fail
            refine htc.out.mono ?_
            rintro e wB ⟨a2, n2, c2, M2, pa, pn, pc, rfl, hws2, hwe2, hpts, hav2, hxB⟩
            have hplen : x.2.length = pn := As.len hpts
            have hSB := hSA.out.hand hxB (cw_right (m := m) (came := came) (dropped := dropped) hws2 (by rw [hwe2]; exact hP2h.out.right)) (fun B hB h => (hav2 B hB h).1)
            have hptsh := Lib.hid hpts
            have hwe2h := Lib.hid hwe2
            clear htc hws2 hpts hav2 hwe2 y0 y1 y2 y3
            go_upto_region 17 with fail
            have hxC := Ext.alloc wB (.cells #[.int .i64 m, .slice a2 n2 c2, .int .i64 came, .int .i64 dropped] 24)
            have hbC := heap_alloc_new wB (.cells #[.int .i64 m, .slice a2 n2 c2, .int .i64 came, .int .i64 dropped] 24)
            obtain ⟨B4, hB4⟩ : ∃ B4, wB.heap.size = B4 := ⟨_, rfl⟩
            obtain ⟨WC, hWC⟩ : ∃ WC, wB.alloc (.cells #[.int .i64 m, .slice a2 n2 c2, .int .i64 came, .int .i64 dropped] 24) = WC := ⟨_, rfl⟩
            rw [hWC] at hxC
            rw [hWC, hB4] at hbC ⊢
            have hSC := Lib.hid (hSB.more hxC)
            have hptC := Lib.hid (hptsh.out.ext hxC)
            clear hWC hB4 hSB hptsh hxC hxB
            obtain ⟨vl, hvl⟩ : ∃ vl, vals (pth p) (ws M) = vl := ⟨_, rfl⟩
            have hvsh2 : Hid (x.2.map (·.value) = vl) := hvsh.out.trans hvl
            have hvlen : vl.length = pn := by rw [← hvsh2.out, List.length_map]; exact hplen
            obtain ⟨ra, rc, hrp, hrsl⟩ := Sl.of_owns (hSC.out.own p hp)
            have hrow := PlS.row (h := hSC.out) hp
            rw [hrp] at hrow
            (try dsimp only at hrow)
            rw [hvl, hvlen] at hrow
            have hrB := hrsl
            (try dsimp only at hrB)
            rw [hvl, hvlen] at hrB
            have hrBh : Hid (Row qc 1 WC ra pn rc vl) := hrB
            clear hrsl hrB hvsh hvl hrp
            have hlBv := World.block_lt_of_cell? WC _ hrow
            go_upto_region 22 with fail
            go_wp2_with fail
            go_loopw [18] (fun vi wx => ∃ j : Nat, j ≤ pn ∧ vi = .int .i64 j ∧ Ext WC wx) (fun vi _ => pn - (intOf vi).toNat)
            case atStart => exact ⟨0, Nat.zero_le _, rfl, Ext.refl _⟩
            case round =>
              obtain ⟨j, hj, rfl, hxj⟩ := hrel
              by_cases hlj : j < pn
              · obtain ⟨pb, po2, hpa, hcp⟩ := As.at hptC.out (by omega)
                obtain ⟨rb, ro, hra, hcr⟩ := Row.at qc_len hrBh.out (by omega)
                have hjx : j < x.2.length := by omega
                have hjv : j < vl.length := by omega
                have z1 := hxj.cell (hcp j hjx).2.1
                have z2 := hxj.cell (hcr j hjv 0 _ rfl)
                have hve : vl[j] = (x.2[j]).value := by
                  have h1 := hvsh2.out
                  subst h1
                  simp
                obtain ⟨va, hva⟩ : ∃ va, (x.2[j]).value = va := ⟨_, rfl⟩
                rw [hva] at z1 hve
                rw [hve, Nat.add_zero, Nat.mul_one] at z2
                subst hpa hra
                clear hcp hcr hva hve hrow q0 q1 q2 q3
                go_wp2_with fail
                go_region
                go_wp2_with fail
                go_roundw
                case rel => exact ⟨j + 1, by omega, by go_num, hxj.trans (Ext.drewN _ 1)⟩
                case measure => simp [intOf]; omega
              · have hSD := Lib.hid (hSC.out.more hxj)
                obtain ⟨wD, hwD⟩ : ∃ wD : World, wr = wD := ⟨_, rfl⟩
                rw [hwD] at hSD hxj ⊢
                clear hwD hrow q0 q1 q2 q3 hSC hptC
                have hbD := (hxj.block _ (lt_of_block hbC)).trans hbC
                have hrow := PlS.row (h := hSD.out) hp
                have hlBv := World.block_lt_of_cell? wD _ hrow
                have hlBc := lt_of_block hSD.out.cb
                obtain ⟨⟨d0, d1, d2, d3⟩, _⟩ := cells_four hbD
                have hlB4 := lt_of_block hbD
                have htk0 : 0 ≤ taken := hph.out.tk
                have htk1 : came = (cnt (ws M) : Int) + taken + dropped := hph.out.sum
                have htk2 : came ≤ k := hph.out.came
                have htk3 : 0 ≤ dropped := ((crtC_iff _).1 hph.out.right).1.2.2.2.2.2.1
                rw [hplen] at hxl
                have hwt : IntKind.i64.wrap (taken + (pn : Int)) = taken + (pn : Int) := by rw [IntKind.wrap_i64]; omega
                have hfz := hSD.out.thaw p
                have hcb := hSD.out.cb
                clear htk0 htk1 htk2 htk3
                go_upto_region 29 with fail
                have hSE := Lib.hid (hSD.out.setnil hp)
                have hbE := ((put_grownBy wD Bv p (.slice none 0 0)).block _ hlB4 (fun e => by
                  have h1 := hSD.out.vb
                  cases e
                  rw [hbD] at h1
                  injection h1 with h2
                  injection h2 with _ h3
                  exact absurd h3 (by decide))).trans hbD
                obtain ⟨wE, hwE⟩ : ∃ wE, wD.setCell ⟨Bv, p, none⟩ (.slice none 0 0) = wE := ⟨_, rfl⟩
                rw [hwE] at hSE hbE ⊢
                clear hwE hSD d0 d1 d2 d3 hlB4 hlBc hlBv hbD hrow hfz hcb
                obtain ⟨⟨d0, d1, d2, d3⟩, _⟩ := cells_four hbE
                obtain ⟨⟨y0, y1, y2, y3⟩, ⟨i0, i1, i2, i3⟩⟩ := cells_four hSE.out.cb
                have hlB4 := lt_of_block hbE
                have hlBc := lt_of_block hSE.out.cb
                go_wp2_with fail
                have hSF := hSE.out.put (.int .i64 m) (.slice a2 n2 c2) (.int .i64 came) (.int .i64 dropped)
                go_roundw
                case rel =>
                  refine ⟨k + 1, came, dropped, taken + (pn : Int), a2, n2, c2, M2, rput r p (.slice none 0 0), by omega, by go_num, rfl, rfl, rfl, ?_, ?_⟩
                  · show Pl _ _ _ _
                    have h1 := hP2h.out
                    rw [← hwe2h.out, hplen] at h1
                    exact h1
                  · refine PlS.recast hSF (fun q hq => ?_)
                    rw [hwe2h.out]
                    exact hvah.out q hq
                case measure => simp [intOf]; omega
        | false =>
          obtain ⟨p, hpp, hp⟩ : ∃ p : Nat, path % 5 = (p : Int) ∧ p < 5 := ⟨(path % 5).toNat, by omega, by omega⟩
          obtain ⟨ub, hub⟩ : ∃ ub, UInt8.ofNat (97 + p) = ub := ⟨_, rfl⟩
          have hpth : pth p = [ub] := by unfold pth; rw [hub]
          obtain ⟨⟨mx, W2, came2, dropped2⟩, kept, hadd, hkp, hP2, hcm2, hdr2, hkn2, hv2⟩ := hP.out.add (by omega) hp value k
          have hmx : m = mx := hP2.max.symm
          subst hmx
          dsimp only at hkp hcm2 hdr2 hkn2 hv2
          have had : Hid (∀ W, Ext wo W → Calls Try.prog 11 #[.agg #[.int .i64 m, .slice a n c, .int .i64 came, .int .i64 dropped], .agg #[.string ⟨#[ub]⟩, .int .i64 value, .int .i64 0], .int .i64 k] W fun e w' => ∃ a2 n2 c2 M2, e = .returned (.tuple #[.agg #[.int .i64 m, .slice a2 n2 c2, .int .i64 came2, .int .i64 dropped2], .bool kept, .int .i64 0]) ∧
              Hid (Ws w' a2 n2 c2 M2 ∧ ws M2 = W2 ∧ ∀ B, B < W.heap.size → Av B a M → Av B a2 M2) ∧ Ext W w') := fun W h => by
            have h1 := add_calls m a n c came dropped M (pth p) value 0 k W (hS.out.cw.ext h) (by rw [hpth, List.length_singleton]; omega)
            rw [hadd, hpth] at h1
            exact h1.mono (fun e w' ⟨a2, n2, c2, M2, he, h2, h3, h4, h5⟩ => ⟨a2, n2, c2, M2, he, ⟨h2, h3, h4⟩, h5⟩)
          cases kept with
          | false =>
            subst hcm2
            simp only [Bool.false_eq_true, if_false] at hdr2
            have hdr3 := hdr2.symm
            clear hdr2
            subst hdr3
            have hP2h := Lib.hid hP2
            have hvh := Lib.hid hv2
            have hkph := Lib.hid hkp
            have hknh := Lib.hid hkn2
            have hph := Lib.hid hP
            have hrow := PlS.row (h := hS.out) hp
            clear hadd hP2 hv2 hkp hkn2 hP
            have HX := Lib.hid (Ext.refl wo)
            have hw1 : IntKind.i64.wrap ((p : Int) + 1) = (p : Int) + 1 := by rw [IntKind.wrap_i64]; omega
            go_upto_region 31 with fail
            rw [hpp]
            have hd1 : Hid (Ext wo wo.drew) := Ext.drewN _ 1
            have hd2 : Hid (Ext wo (wo.alloc (.cells #[.int .i64 0, .slice none 0 0, .int .i64 0, .int .i64 0] 24)).drew) := (Ext.alloc wo _).trans (Ext.drewN _ 1)
            have had1 := Lib.hid (had.out wo.drew hd1.out)
            have had2 := Lib.hid (had.out (wo.alloc (.cells #[.int .i64 0, .slice none 0 0, .int .i64 0, .int .i64 0] 24)).drew hd2.out)
            have HA : Hid (Ext wo (wo.alloc (.cells #[.int .i64 0, .slice none 0 0, .int .i64 0, .int .i64 0] 24))) := Ext.alloc wo _
            have HP : Hid (∀ W, Ext wo W → W.cell? ⟨Bc, 0, none⟩ = some (.int .i64 m) ∧ W.cell? ⟨Bc, 1, none⟩ = some (.slice a n c) ∧ W.cell? ⟨Bc, 2, none⟩ = some (.int .i64 came) ∧ W.cell? ⟨Bc, 3, none⟩ = some (.int .i64 dropped) ∧ W.cell? ⟨b, o + k * 4 + 2, none⟩ = some (.int .i64 value)) := fun W h => ⟨h.cell y0, h.cell y1, h.cell y2, h.cell y3, h.cell q2⟩
            have HS : Hid (∀ W, Ext wo W → ∀ ua ub uc ud, Ext wo ((((W.setCell ⟨wo.heap.size, 0, none⟩ ua).setCell ⟨wo.heap.size, 1, none⟩ ub).setCell ⟨wo.heap.size, 2, none⟩ uc).setCell ⟨wo.heap.size, 3, none⟩ ud)) := fun W h ua ub uc ud =>
              h.grown (put4_grownBy W wo.heap.size ua ub uc ud) (fun k e => by cases e; exact Nat.le_refl _)
            go_region_held3 (fun w' => w'.cell? ⟨Bc, 0, none⟩ = some (.int .i64 m) ∧ w'.cell? ⟨Bc, 1, none⟩ = some (.slice a n c) ∧ w'.cell? ⟨Bc, 2, none⟩ = some (.int .i64 came) ∧ w'.cell? ⟨Bc, 3, none⟩ = some (.int .i64 dropped) ∧ w'.cell? ⟨b, o + k * 4 + 2, none⟩ = some (.int .i64 value))
              (first
                | with_reducible exact HP.out _ HX.out
                | with_reducible exact HP.out _ hd1.out
                | with_reducible exact HP.out _ hd2.out
                | with_reducible exact HP.out _ HA.out
                | with_reducible exact HP.out _ (HX.out.trans (Ext.alloc _ _))
                | with_reducible exact HP.out _ (HS.out _ HX.out _ _ _ _)
                | (trace_state; fail))
              (first
                | (go_at_call 11; refine Calls.mono had1.out ?_; rintro e w' ⟨a2, n2, c2, M2, rfl, hw2h, hxx⟩; have HX := Lib.hid (hd1.out.trans hxx); clear hxx)
                | (go_at_call 11; refine Calls.mono had2.out ?_; rintro e w' ⟨a2, n2, c2, M2, rfl, hw2h, hxx⟩; have hBX := (hxx.block wo.heap.size (by simp)).trans (heap_alloc_new wo (.cells #[.int .i64 0, .slice none 0 0, .int .i64 0, .int .i64 0] 24)); obtain ⟨⟨v0, v1, v2, v3⟩, ⟨f0, f1, f2, f3⟩⟩ := cells_four hBX; have HX := Lib.hid (hd2.out.trans hxx); clear hxx))
            all_goals first
              | (obtain ⟨B, W, hBd, hWd⟩ : ∃ B W, w'.heap.size = B ∧ w'.alloc (.cells #[.int .i64 m, .slice a2 n2 c2, .int .i64 (came + 1), .int .i64 (dropped + 1)] 24) = W := ⟨_, _, rfl, rfl⟩
                 have hBW : W.heap[B]? = some (.cells #[.int .i64 m, .slice a2 n2 c2, .int .i64 (came + 1), .int .i64 (dropped + 1)] 24 (0, 0)) := by rw [← hWd, ← hBd]; exact heap_alloc_new _ _
                 have hXW : Ext wo W := by rw [← hWd]; exact HX.out.trans (Ext.alloc _ _)
                 have hWW : Hid (Ws W a2 n2 c2 M2) := by rw [← hWd]; exact hw2h.out.1.ext (Ext.alloc _ _)
                 have hAW : Hid (∀ B, B < wo.heap.size → Av B a M → Av B a2 M2) := fun B hB h => hw2h.out.2.2 B (by simpa using hB) h
                 have hwe2h : Hid (ws M2 = W2) := hw2h.out.2.1
                 rw [hWd, hBd])
              | (obtain ⟨B, W, hBd, hWd⟩ : ∃ B W, wo.heap.size = B ∧ (((w'.setCell ⟨wo.heap.size, 0, none⟩ (.int .i64 m)).setCell ⟨wo.heap.size, 1, none⟩ (.slice a2 n2 c2)).setCell ⟨wo.heap.size, 2, none⟩ (.int .i64 (came + 1))).setCell ⟨wo.heap.size, 3, none⟩ (.int .i64 (dropped + 1)) = W := ⟨_, _, rfl, rfl⟩
                 have hg4 := put4_grownBy w' wo.heap.size (.int .i64 m) (.slice a2 n2 c2) (.int .i64 (came + 1)) (.int .i64 (dropped + 1))
                 have hBW : W.heap[B]? = some (.cells #[.int .i64 m, .slice a2 n2 c2, .int .i64 (came + 1), .int .i64 (dropped + 1)] 24 (0, 0)) := by rw [← hWd, ← hBd]; exact put4_block hBX _ _ _ _
                 have hXW : Ext wo W := by rw [← hWd]; exact HX.out.grown hg4 (fun k e => by cases e; exact Nat.le_refl _)
                 have hWW : Hid (Ws W a2 n2 c2 M2) := by rw [← hWd]; exact hw2h.out.1.past_cache hBX hg4
                 have hAW : Hid (∀ B, B < wo.heap.size → Av B a M → Av B a2 M2) := fun B hB h => hw2h.out.2.2 B (by simp; omega) h
                 have hwe2h : Hid (ws M2 = W2) := hw2h.out.2.1
                 rw [hWd, hBd])
            all_goals
              (try clear v0 v1 v2 v3 f0 f1 f2 f3 hBX hg4)
              clear hBd hWd hw2h HX had1 had2 hd1 hd2 HA HP HS
              have y0 := hXW.cell y0
              have y1 := hXW.cell y1
              have y2 := hXW.cell y2
              have y3 := hXW.cell y3
              obtain ⟨cn, hcn⟩ : ∃ cn, cnt (ws M) = cn := ⟨_, rfl⟩
              have hcq : ((cn : Int) == m) = true := by
                have h1 := hkph.out
                rw [← hcn]
                simpa using h1
              have hct : Hid (∀ W', Ext W W' → Calls Try.prog 19 #[.agg #[.int .i64 m, .slice a n c, .int .i64 came, .int .i64 dropped]] W' fun e w'' => e = .returned (.int .i64 (cn : Nat)) ∧ Ext W' w'') := fun W' h => by
                have h1 := count_calls m a n c came dropped M W' (hS.out.cw.ext (hXW.trans h))
                rw [if_pos hph.out.right, hcn] at h1
                exact h1
              have hdp : 0 ≤ dropped := ((crtC_iff _).1 hph.out.right).1.2.2.2.2.2.1
              have hcp : 0 ≤ came := ((crtC_iff _).1 hph.out.right).1.2.2.2.1
              have hck : came ≤ k := hph.out.came
              have hdc : dropped ≤ came - (cnt (ws M) : Int) := ((crtC_iff _).1 hph.out.right).1.2.2.2.2.2.2.2
              have hw2 : IntKind.i64.wrap (came + 1) = came + 1 := by rw [IntKind.wrap_i64]; omega
              have hw3 : IntKind.i64.wrap (dropped + 1) = dropped + 1 := by rw [IntKind.wrap_i64]; omega
              clear hdp hcp hck hdc hcn
              obtain ⟨X, iX, f, hxS0, hSx0⟩ := letters (fun w' => Ext W w') W (Ext.refl W)
              have hxS := Lib.hid hxS0
              have hSx := Lib.hid hSx0
              clear hxS0 hSx0
              have u0 : ∀ x', (f x').cell? ⟨Bc, 0, none⟩ = some (.int .i64 m) := fun x' => (hxS.out x').cell y0
              have u1 : ∀ x', (f x').cell? ⟨Bc, 1, none⟩ = some (.slice a n c) := fun x' => (hxS.out x').cell y1
              have u2 : ∀ x', (f x').cell? ⟨Bc, 2, none⟩ = some (.int .i64 came) := fun x' => (hxS.out x').cell y2
              have u3 : ∀ x', (f x').cell? ⟨Bc, 3, none⟩ = some (.int .i64 dropped) := fun x' => (hxS.out x').cell y3
              have hk1 : Hid (∀ x', Calls Try.prog 19 #[.agg #[.int .i64 m, .slice a n c, .int .i64 came, .int .i64 dropped]] (f x') fun e w'' => e = .returned (.int .i64 (cn : Nat)) ∧ ∃ y, w'' = f y) := fun x' =>
                (hct.out (f x') (hxS.out x')).mono (fun e w'' ⟨he, hx2⟩ => ⟨he, hSx.out w'' ((hxS.out x').trans hx2)⟩)
              go_upto_region 32 with fail
              refine region_class (fun w' => ∃ x' : X, w' = f x') (by kernel_rfl) (by kernel_rfl) (hSx.out _ (Ext.drewN W 1)) ?_
              repeat (go_big_quiet_step ((go_at_call 19; exact (hk1.out _))))
              refine wpQuiet_nil ?_
              rintro _ ⟨x1, rfl⟩
              have hxA := hxS.out x1
              obtain ⟨wA, hwA⟩ : ∃ wA, f x1 = wA := ⟨_, rfl⟩
              rw [hwA] at hxA ⊢
              have hSA := Lib.hid (hS.out.hand (hXW.trans hxA) (cw_right (m := m) (came := came + 1) (dropped := (dropped + 1)) (hWW.out.ext hxA) (by rw [hwe2h.out]; exact hP2h.out.right)) hAW.out)
              have hbA := (hxA.block _ (lt_of_block hBW)).trans hBW
              clear u0 u1 u2 u3 hk1 hxS hSx hwA iX hct y0 y1 y2 y3 q0 q1 q3 hrow hcq
              obtain ⟨⟨y0, y1, y2, y3⟩, ⟨i0, i1, i2, i3⟩⟩ := cells_four hSA.out.cb
              obtain ⟨⟨d0, d1, d2, d3⟩, _⟩ := cells_four hbA
              have hlB := lt_of_block hbA
              have hlBc := lt_of_block hSA.out.cb
              go_wp2_with fail
              have hSF := hSA.out.put (.int .i64 m) (.slice a2 n2 c2) (.int .i64 (came + 1)) (.int .i64 (dropped + 1))
              go_roundw
              case rel =>
                refine ⟨k + 1, came + 1, dropped + 1, taken, a2, n2, c2, M2, r, by omega, by go_num, rfl, rfl, rfl, ?_, ?_⟩
                · show Pl _ _ _ _
                  rw [hwe2h.out]
                  exact hP2h.out
                · refine PlS.recast hSF (fun q hq => ?_)
                  rw [hwe2h.out]
                  simpa using hvh.out q hq
              case measure => simp [intOf]; omega
          | true =>
            subst hcm2
            simp only [if_true] at hdr2
            have hdr3 := hdr2.symm
            clear hdr2
            subst hdr3
            have hP2h := Lib.hid hP2
            have hvh := Lib.hid hv2
            have hkph := Lib.hid hkp
            have hknh := Lib.hid hkn2
            have hph := Lib.hid hP
            have hrow := PlS.row (h := hS.out) hp
            clear hadd hP2 hv2 hkp hkn2 hP
            have HX := Lib.hid (Ext.refl wo)
            have hw1 : IntKind.i64.wrap ((p : Int) + 1) = (p : Int) + 1 := by rw [IntKind.wrap_i64]; omega
            go_upto_region 31 with fail
            rw [hpp]
            have hd1 : Hid (Ext wo wo.drew) := Ext.drewN _ 1
            have hd2 : Hid (Ext wo (wo.alloc (.cells #[.int .i64 0, .slice none 0 0, .int .i64 0, .int .i64 0] 24)).drew) := (Ext.alloc wo _).trans (Ext.drewN _ 1)
            have had1 := Lib.hid (had.out wo.drew hd1.out)
            have had2 := Lib.hid (had.out (wo.alloc (.cells #[.int .i64 0, .slice none 0 0, .int .i64 0, .int .i64 0] 24)).drew hd2.out)
            have HA : Hid (Ext wo (wo.alloc (.cells #[.int .i64 0, .slice none 0 0, .int .i64 0, .int .i64 0] 24))) := Ext.alloc wo _
            have HP : Hid (∀ W, Ext wo W → W.cell? ⟨Bc, 0, none⟩ = some (.int .i64 m) ∧ W.cell? ⟨Bc, 1, none⟩ = some (.slice a n c) ∧ W.cell? ⟨Bc, 2, none⟩ = some (.int .i64 came) ∧ W.cell? ⟨Bc, 3, none⟩ = some (.int .i64 dropped) ∧ W.cell? ⟨b, o + k * 4 + 2, none⟩ = some (.int .i64 value)) := fun W h => ⟨h.cell y0, h.cell y1, h.cell y2, h.cell y3, h.cell q2⟩
            have HS : Hid (∀ W, Ext wo W → ∀ ua ub uc ud, Ext wo ((((W.setCell ⟨wo.heap.size, 0, none⟩ ua).setCell ⟨wo.heap.size, 1, none⟩ ub).setCell ⟨wo.heap.size, 2, none⟩ uc).setCell ⟨wo.heap.size, 3, none⟩ ud)) := fun W h ua ub uc ud =>
              h.grown (put4_grownBy W wo.heap.size ua ub uc ud) (fun k e => by cases e; exact Nat.le_refl _)
            go_region_held3 (fun w' => w'.cell? ⟨Bc, 0, none⟩ = some (.int .i64 m) ∧ w'.cell? ⟨Bc, 1, none⟩ = some (.slice a n c) ∧ w'.cell? ⟨Bc, 2, none⟩ = some (.int .i64 came) ∧ w'.cell? ⟨Bc, 3, none⟩ = some (.int .i64 dropped) ∧ w'.cell? ⟨b, o + k * 4 + 2, none⟩ = some (.int .i64 value))
              (first
                | with_reducible exact HP.out _ HX.out
                | with_reducible exact HP.out _ hd1.out
                | with_reducible exact HP.out _ hd2.out
                | with_reducible exact HP.out _ HA.out
                | with_reducible exact HP.out _ (HX.out.trans (Ext.alloc _ _))
                | with_reducible exact HP.out _ (HS.out _ HX.out _ _ _ _)
                | (trace_state; fail))
              (first
                | (go_at_call 11; refine Calls.mono had1.out ?_; rintro e w' ⟨a2, n2, c2, M2, rfl, hw2h, hxx⟩; have HX := Lib.hid (hd1.out.trans hxx); clear hxx)
                | (go_at_call 11; refine Calls.mono had2.out ?_; rintro e w' ⟨a2, n2, c2, M2, rfl, hw2h, hxx⟩; have hBX := (hxx.block wo.heap.size (by simp)).trans (heap_alloc_new wo (.cells #[.int .i64 0, .slice none 0 0, .int .i64 0, .int .i64 0] 24)); obtain ⟨⟨v0, v1, v2, v3⟩, ⟨f0, f1, f2, f3⟩⟩ := cells_four hBX; have HX := Lib.hid (hd2.out.trans hxx); clear hxx))
            all_goals first
              | (obtain ⟨B, W, hBd, hWd⟩ : ∃ B W, w'.heap.size = B ∧ w'.alloc (.cells #[.int .i64 m, .slice a2 n2 c2, .int .i64 (came + 1), .int .i64 dropped] 24) = W := ⟨_, _, rfl, rfl⟩
                 have hBW : W.heap[B]? = some (.cells #[.int .i64 m, .slice a2 n2 c2, .int .i64 (came + 1), .int .i64 dropped] 24 (0, 0)) := by rw [← hWd, ← hBd]; exact heap_alloc_new _ _
                 have hXW : Ext wo W := by rw [← hWd]; exact HX.out.trans (Ext.alloc _ _)
                 have hWW : Hid (Ws W a2 n2 c2 M2) := by rw [← hWd]; exact hw2h.out.1.ext (Ext.alloc _ _)
                 have hAW : Hid (∀ B, B < wo.heap.size → Av B a M → Av B a2 M2) := fun B hB h => hw2h.out.2.2 B (by simpa using hB) h
                 have hwe2h : Hid (ws M2 = W2) := hw2h.out.2.1
                 rw [hWd, hBd])
              | (obtain ⟨B, W, hBd, hWd⟩ : ∃ B W, wo.heap.size = B ∧ (((w'.setCell ⟨wo.heap.size, 0, none⟩ (.int .i64 m)).setCell ⟨wo.heap.size, 1, none⟩ (.slice a2 n2 c2)).setCell ⟨wo.heap.size, 2, none⟩ (.int .i64 (came + 1))).setCell ⟨wo.heap.size, 3, none⟩ (.int .i64 dropped) = W := ⟨_, _, rfl, rfl⟩
                 have hg4 := put4_grownBy w' wo.heap.size (.int .i64 m) (.slice a2 n2 c2) (.int .i64 (came + 1)) (.int .i64 dropped)
                 have hBW : W.heap[B]? = some (.cells #[.int .i64 m, .slice a2 n2 c2, .int .i64 (came + 1), .int .i64 dropped] 24 (0, 0)) := by rw [← hWd, ← hBd]; exact put4_block hBX _ _ _ _
                 have hXW : Ext wo W := by rw [← hWd]; exact HX.out.grown hg4 (fun k e => by cases e; exact Nat.le_refl _)
                 have hWW : Hid (Ws W a2 n2 c2 M2) := by rw [← hWd]; exact hw2h.out.1.past_cache hBX hg4
                 have hAW : Hid (∀ B, B < wo.heap.size → Av B a M → Av B a2 M2) := fun B hB h => hw2h.out.2.2 B (by simp; omega) h
                 have hwe2h : Hid (ws M2 = W2) := hw2h.out.2.1
                 rw [hWd, hBd])
            all_goals
              (try clear v0 v1 v2 v3 f0 f1 f2 f3 hBX hg4)
              clear hBd hWd hw2h HX had1 had2 hd1 hd2 HA HP HS
              have y0 := hXW.cell y0
              have y1 := hXW.cell y1
              have y2 := hXW.cell y2
              have y3 := hXW.cell y3
              obtain ⟨cn, hcn⟩ : ∃ cn, cnt (ws M) = cn := ⟨_, rfl⟩
              have hcq : ((cn : Int) == m) = false := by
                have h1 := hkph.out
                rw [← hcn]
                simpa using h1
              have hct : Hid (∀ W', Ext W W' → Calls Try.prog 19 #[.agg #[.int .i64 m, .slice a n c, .int .i64 came, .int .i64 dropped]] W' fun e w'' => e = .returned (.int .i64 (cn : Nat)) ∧ Ext W' w'') := fun W' h => by
                have h1 := count_calls m a n c came dropped M W' (hS.out.cw.ext (hXW.trans h))
                rw [if_pos hph.out.right, hcn] at h1
                exact h1
              have hdp : 0 ≤ dropped := ((crtC_iff _).1 hph.out.right).1.2.2.2.2.2.1
              have hcp : 0 ≤ came := ((crtC_iff _).1 hph.out.right).1.2.2.2.1
              have hck : came ≤ k := hph.out.came
              have hdc : dropped ≤ came - (cnt (ws M) : Int) := ((crtC_iff _).1 hph.out.right).1.2.2.2.2.2.2.2
              have hw2 : IntKind.i64.wrap (came + 1) = came + 1 := by rw [IntKind.wrap_i64]; omega
              have hw3 : IntKind.i64.wrap (dropped + 1) = dropped + 1 := by rw [IntKind.wrap_i64]; omega
              clear hdp hcp hck hdc hcn
              obtain ⟨X, iX, f, hxS0, hSx0⟩ := letters (fun w' => Ext W w') W (Ext.refl W)
              have hxS := Lib.hid hxS0
              have hSx := Lib.hid hSx0
              clear hxS0 hSx0
              have u0 : ∀ x', (f x').cell? ⟨Bc, 0, none⟩ = some (.int .i64 m) := fun x' => (hxS.out x').cell y0
              have u1 : ∀ x', (f x').cell? ⟨Bc, 1, none⟩ = some (.slice a n c) := fun x' => (hxS.out x').cell y1
              have u2 : ∀ x', (f x').cell? ⟨Bc, 2, none⟩ = some (.int .i64 came) := fun x' => (hxS.out x').cell y2
              have u3 : ∀ x', (f x').cell? ⟨Bc, 3, none⟩ = some (.int .i64 dropped) := fun x' => (hxS.out x').cell y3
              have hk1 : Hid (∀ x', Calls Try.prog 19 #[.agg #[.int .i64 m, .slice a n c, .int .i64 came, .int .i64 dropped]] (f x') fun e w'' => e = .returned (.int .i64 (cn : Nat)) ∧ ∃ y, w'' = f y) := fun x' =>
                (hct.out (f x') (hxS.out x')).mono (fun e w'' ⟨he, hx2⟩ => ⟨he, hSx.out w'' ((hxS.out x').trans hx2)⟩)
              go_upto_region 32 with fail
              refine region_class (fun w' => ∃ x' : X, w' = f x') (by kernel_rfl) (by kernel_rfl) (hSx.out _ (Ext.drewN W 1)) ?_
              repeat (go_big_quiet_step ((go_at_call 19; exact (hk1.out _))))
              refine wpQuiet_nil ?_
              rintro _ ⟨x1, rfl⟩
              have hxA := hxS.out x1
              obtain ⟨wA, hwA⟩ : ∃ wA, f x1 = wA := ⟨_, rfl⟩
              rw [hwA] at hxA ⊢
              have hSA := Lib.hid (hS.out.hand (hXW.trans hxA) (cw_right (m := m) (came := came + 1) (dropped := dropped) (hWW.out.ext hxA) (by rw [hwe2h.out]; exact hP2h.out.right)) hAW.out)
              have hbA := (hxA.block _ (lt_of_block hBW)).trans hBW
              clear u0 u1 u2 u3 hk1 hxS hSx hwA iX hct y0 y1 y2 y3 q0 q1 q3 hrow hcq
              obtain ⟨vl, hvl⟩ : ∃ vl, vals (pth p) (ws M) = vl := ⟨_, rfl⟩
              have hvb : vl.length ≤ 500 := by
                have h1 := vals_len (pth p) (ws M)
                have h2 : (cnt (ws M) : Int) ≤ m := ((crtC_iff _).1 hph.out.right).1.2.2.2.2.2.2.1
                rw [hvl] at h1
                omega
              obtain ⟨ra, rc, hrp, hrow, hown⟩ := hSA.out.slice hp hvl
              have hownh := Lib.hid hown
              have hrph := Lib.hid hrp
              have hvlh := Lib.hid hvl
              have hvbh := Lib.hid hvb
              have hq2 := (hXW.trans hxA).cell q2
              clear hown hrp hvl hvb q2
              obtain ⟨ql, hql⟩ : ∃ ql, vl.length = ql := ⟨_, rfl⟩
              rw [hql] at hrow hownh hrph hvbh
              have hqlh := Lib.hid hql
              clear hql
              go_upto_region 36 with fail
              obtain ⟨X, iX, f, hxS0, hSx0⟩ := letters (fun w' => w'.cell? ⟨Bv, p, none⟩ = some (.slice ra ql rc) ∧ w'.cell? ⟨b, o + k * 4 + 2, none⟩ = some (.int .i64 value)) wA ⟨hrow, hq2⟩
              have v1 : ∀ x', (f x').cell? ⟨Bv, p, none⟩ = some (.slice ra ql rc) := fun x' => (hxS0 x').1
              have v2 : ∀ x', (f x').cell? ⟨b, o + k * 4 + 2, none⟩ = some (.int .i64 value) := fun x' => (hxS0 x').2
              have hSx := Lib.hid hSx0
              clear hxS0 hSx0
              refine region_plan 11 [.quiet [0, 1, 2, 3, 4, 5, 6, 7, 8], .act 9, .act 10] (fun w' => ∃ x' : X, w' = f x') (by kernel_rfl) (by kernel_rfl) (hSx.out _ ⟨(Ext.drewN wA 1).cell hrow, (Ext.drewN wA 1).cell hq2⟩) ?_
              intro Q1 hQ1
              refine plan_quiet ?_
              simp only [sel, List.getElem?_toArray, List.getElem?_cons_zero, List.getElem?_cons_succ]
              repeat (go_big_quiet_step (fail))
              refine wpQuiet_nil ?_
              refine plan_act ?_
              intro Q2 hQ2
              simp only [sel, List.getElem?_toArray, List.getElem?_cons_zero, List.getElem?_cons_succ]
              have hxB : Hid (Ext wA ((wA.alloc (.cells #[.int .i64 value] 2)).drew)) := (Ext.alloc wA _).trans (Ext.drewN _ 1)
              have hsrc : Hid (Sl ((wA.alloc (.cells #[.int .i64 value] 2)).drew) (some ⟨wA.heap.size, 0, none⟩) 1 1 1 (qc value)) := sl_block (heap_alloc_new wA _) rfl (by decide)
              go_wp2_with fail
              refine hQ2 _ _ (hSx.out _ ⟨hxB.out.cell hrow, hxB.out.cell hq2⟩) ?_
              refine plan_act ?_
              intro Q3 hQ3
              simp only [sel, List.getElem?_toArray, List.getElem?_cons_zero, List.getElem?_cons_succ]
              have hSB := Lib.hid (hSA.out.more hxB.out)
              have hownB := Lib.hid (hownh.out.ext hxB.out)
              unfold IRow ORow at hownB
              rw [hqlh.out] at hownB
              have hz1 : Hid ((ql + 1) * 8 ≤ 140737488355328) := by show _ ≤ _; have := hvbh.out; omega
              have hz2 : Hid (ql + 1 ≤ maxLen) := by show _ ≤ _; have := hvbh.out; unfold maxLen; omega
              have hz3 : Hid (w.heap.size ≤ ((wA.alloc (.cells #[.int .i64 value] 2)).drew).heap.size) := by show _ ≤ _; exact hSB.out.ext.size
              go_wp2_with (at_builtin; refine wpList_append_sl_at rfl _ _ 39 rfl w.heap.size 2 Try.underlying39 infoI64 rfl (by decide) _ _ _ rfl hownB.out _ _ _ (qc value) rfl hsrc.out (by intro u hu; simp [qc] at hu; subst hu; rfl) hz1.out hz2.out hz3.out ?_; intro v8 w8 hown8 hgrow8 hat8; obtain ⟨a8, c8, hv8, _⟩ := Sl.of_owns hown8; subst hv8)
              have hvb8 := block_beside hownB.out hgrow8 hSB.out.vb (by decide)
              have hcb8 := block_beside hownB.out hgrow8 ((hxB.out.block _ (lt_of_block hbA)).trans hbA) (by decide)
              have hXw8 : Ext w w8 := hSB.out.ext.grown hgrow8 (fun k e => owns_row hownB.out k e)
              have hq28 := hXw8.cell q2wh.out
              have hrow8 := (World.cell?_of_block (a := ⟨Bv, p, none⟩) (hvb8.trans hSB.out.vb.symm)).trans (hxB.out.cell hrow)
              refine hQ3 _ _ (hSx.out _ ⟨hrow8, hq28⟩) ?_
              refine plan_tail ?_
              simp only [List.drop_succ_cons, List.drop_zero]
              have hfz8 : w8.frozen? ⟨Bv, p, none⟩ = false := by simp [World.frozen?, hvb8]
              have hlv8 := lt_of_block hvb8
              go_upto_region 38 with fail
              have hown9 : w8.ownsRow w.heap.size 2 1 (.slice a8 (ql + 1) c8) (vl.length + 1) (rcells qc vl ++ qc value) := by rw [hqlh.out]; exact hown8
              have hSF := Lib.hid (hSB.out.app hp (l := vl) (fun e => hknh.out (by trivial) (by rw [← hwe2h.out, e]; rfl)) (crt_full (m := m) (came := came + 1) (dropped := dropped) (by rw [hwe2h.out]; exact hP2h.out.right)) hrph.out hown9 hgrow8 hat8)
              have hb9 := ((put_grownBy w8 Bv p (.slice a8 (ql + 1) c8)).block _ (lt_of_block hcb8) (fun e => by
                cases e
                rw [hcb8] at hvb8
                injection hvb8 with h2
                injection h2 with _ h3
                exact absurd h3 (by decide))).trans hcb8
              obtain ⟨w9, hw9⟩ : ∃ w9, w8.setCell ⟨Bv, p, none⟩ (.slice a8 (ql + 1) c8) = w9 := ⟨_, rfl⟩
              rw [hw9] at hSF hb9 ⊢
              clear hw9 hown9 hown8 hgrow8 hat8 hvb8 hcb8 hXw8 hq28 hrow8 hfz8 hlv8 hz1 hz2 hz3 hownB hSB hsrc hxB hrow hq2 v1 v2 hSx iX hbA
              obtain ⟨⟨y0, y1, y2, y3⟩, ⟨i0, i1, i2, i3⟩⟩ := cells_four hSF.out.cb
              obtain ⟨⟨d0, d1, d2, d3⟩, _⟩ := cells_four hb9
              have hlB := lt_of_block hb9
              have hlBc := lt_of_block hSF.out.cb
              go_wp2_with fail
              have hSG := hSF.out.put (.int .i64 m) (.slice a2 n2 c2) (.int .i64 (came + 1)) (.int .i64 dropped)
              go_roundw
              case rel =>
                refine ⟨k + 1, came + 1, dropped, taken, a2, n2, c2, M2, rput r p (.slice a8 (ql + 1) c8), by omega, by go_num, rfl, rfl, rfl, ?_, ?_⟩
                · show Pl _ _ _ _
                  rw [hwe2h.out]
                  exact hP2h.out
                · refine PlS.recast hSG (fun q hq => ?_)
                  rw [hwe2h.out]
                  have h1 := hvh.out q hq
                  unfold vput
                  rw [h1]
                  by_cases hqp : q = p
                  · rw [if_pos ⟨hqp, (by trivial)⟩, if_pos hqp, hqp, hvlh.out]
                  · rw [if_neg (fun e => hqp e.1), if_neg hqp]
              case measure => simp [intOf]; omega
      · obtain ⟨wo, hwo⟩ : ∃ wo : World, wr = wo := ⟨_, rfl⟩
        rw [hwo] at hS ⊢
        clear hwo
        have hkn : k = ln := by omega
        go_upto_region 39 with fail
        have P := hP.out
        have hr1 : Hid (∀ W, Ext wo W → Calls Try.prog 14 #[.agg #[.int .i64 m, .slice a n c, .int .i64 came, .int .i64 dropped]] W fun e w'' => e = .returned (.bool true) ∧ Ext W w'') := fun W h => by
          have h1 := (hS.out.cw.ext h).right (m := m) (came := came) (dropped := dropped)
          rw [P.right] at h1
          exact h1
        have hc1 : Hid (∀ W, Ext wo W → Calls Try.prog 19 #[.agg #[.int .i64 m, .slice a n c, .int .i64 came, .int .i64 dropped]] W fun e w'' => e = .returned (.int .i64 (cnt (ws M) : Nat)) ∧ Ext W w'') := fun W h => by
          have h1 := count_calls m a n c came dropped M W (hS.out.cw.ext h)
          rw [if_pos P.right] at h1
          exact h1
        obtain ⟨cn, hcn⟩ : ∃ cn, cnt (ws M) = cn := ⟨_, rfl⟩
        have hsum : came = (cn : Int) + taken + dropped := by rw [← hcn]; exact P.sum
        have hle : (cn : Int) ≤ m := by rw [← hcn]; exact ((crtC_iff _).1 P.right).1.2.2.2.2.2.2.1
        have hdr : 0 ≤ dropped := ((crtC_iff _).1 P.right).1.2.2.2.2.2.1
        have htk := P.tk
        have hcm : came ≤ k := P.came
        rw [hcn] at hc1
        have hs1 : (cn : Int) + taken + dropped = came := hsum.symm
        have hX9 := hS.out.ext
        obtain ⟨⟨y0, y1, y2, y3⟩, _⟩ := cells_four hS.out.cb
        clear hP P hcn hsum
        obtain ⟨X, iX, f, hxS0, hSx0⟩ := letters (fun w' => Ext wo w') wo (Ext.refl wo)
        have hxS := Lib.hid hxS0
        have hSx := Lib.hid hSx0
        clear hxS0 hSx0
        have u0 : ∀ x', (f x').cell? ⟨Bc, 0, none⟩ = some (.int .i64 m) := fun x' => (hxS.out x').cell y0
        have u1 : ∀ x', (f x').cell? ⟨Bc, 1, none⟩ = some (.slice a n c) := fun x' => (hxS.out x').cell y1
        have u2 : ∀ x', (f x').cell? ⟨Bc, 2, none⟩ = some (.int .i64 came) := fun x' => (hxS.out x').cell y2
        have u3 : ∀ x', (f x').cell? ⟨Bc, 3, none⟩ = some (.int .i64 dropped) := fun x' => (hxS.out x').cell y3
        clear y0 y1 y2 y3
        have hk1 : Hid (∀ x', Calls Try.prog 14 #[.agg #[.int .i64 m, .slice a n c, .int .i64 came, .int .i64 dropped]] (f x') fun e w'' => e = .returned (.bool true) ∧ ∃ y, w'' = f y) := fun x' =>
          (hr1.out (f x') (hxS.out x')).mono (fun e w'' ⟨he, hx2⟩ => ⟨he, hSx.out w'' ((hxS.out x').trans hx2)⟩)
        have hk2 : Hid (∀ x', Calls Try.prog 19 #[.agg #[.int .i64 m, .slice a n c, .int .i64 came, .int .i64 dropped]] (f x') fun e w'' => e = .returned (.int .i64 (cn : Nat)) ∧ ∃ y, w'' = f y) := fun x' =>
          (hc1.out (f x') (hxS.out x')).mono (fun e w'' ⟨he, hx2⟩ => ⟨he, hSx.out w'' ((hxS.out x').trans hx2)⟩)
        have e1 : (came == came) = true := by simp
        have e2 : (dropped == dropped) = true := by simp
        have e3 : decide ((cn : Int) ≤ m) = true := decide_eq_true hle
        have g1 : IntKind.i64.wrap ((cn : Int) + taken) = (cn : Int) + taken := by
          rw [IntKind.wrap_i64]; omega
        have g2 : IntKind.i64.wrap ((cn : Int) + taken + dropped) = came := by
          rw [hs1, IntKind.wrap_i64]; omega
        clear hs1 hr1 hc1
        refine region_class (fun w' => ∃ x' : X, w' = f x') (by kernel_rfl) (by kernel_rfl) (hSx.out _ (Ext.drewN wo 1)) ?_
        repeat (go_big_quiet_step ((first | (go_at_call 14; exact (hk1.out _)) | (go_at_call 19; exact (hk2.out _)))))
        refine wpQuiet_nil ?_
        rintro _ ⟨x1, rfl⟩
        have hx9 := hxS.out x1
        go_wp2_with fail
        go_ret
        exact ⟨rfl, hX9.trans hx9⟩
end Go.Proofs.Ytcbjadmngkednaa
