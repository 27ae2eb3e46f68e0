/-
  Layer 20's contracts: is it a cache as it must be? (the document's answer)
-/
import Derived.Test.YtcbjadmngkednaaCacheRight
import Derived.Deep.DeepCutAuto
namespace Go.Proofs.Ytcbjadmngkednaa
open Go.RowKit

/-- A number's cell. -/
def ic (z : Int) : List Value := [.int .i64 z]
theorem ic_len (z : Int) : (ic z).length = 1 := rfl
theorem ic_one (l : List Int) : ∀ u ∈ rcells ic l, u.oneCell' = true := by
  intro u hu
  unfold rcells at hu
  rw [List.mem_flatMap] at hu
  obtain ⟨x, _, hx⟩ := hu
  simp [ic] at hx
  subst hx; rfl
/-- A block of other cells than the row's is as it was behind an append. -/
theorem block_beside {w w' : World} {base : Nat} {e e2 : TypeId} {size : Nat} {v : Value} {n : Nat} {xs : List Value} (h : w.ownsRow base e size v n xs) (hg : w.grownBy w' v.ownBlock) {p : Nat} {cur : Array Value} {fr : Nat × Nat}
    (hp : w.heap[p]? = some (.cells cur e2 fr)) (hne : e ≠ e2) : w'.heap[p]? = some (.cells cur e2 fr) := by
  refine (hg.block p (lt_of_block hp) (fun hk => ?_)).trans hp
  obtain ⟨c2, f2, h2⟩ := owns_block h p hk.symm
  rw [hp] at h2
  cases h2
  exact hne rfl
def prevW (M : List Wh) (k : Nat) : Option (List UInt8) := if k = 0 then none else ((ws M)[k - 1]?).map (·.1)
theorem infoI : (Try.prog.info? 3).map (fun i => (i.zero, i.size, i.bytes)) = some (some (.int .i64 0), 1, 8) := by kernel_rfl
theorem cells_two {w : World} {p : Nat} {v0 v1 : Value} {t : TypeId} (h : w.heap[p]? = some (.cells #[v0, v1] t (0, 0))) : w.cell? ⟨p, 0, none⟩ = some v0 ∧ w.cell? ⟨p, 1, none⟩ = some v1 :=
  ⟨by simp [World.cell?, h], by simp [World.cell?, h]⟩

set_option maxRecDepth 100000 in
set_option maxHeartbeats 3200000 in
theorem rright_calls (m : Int) (a : Option Addr) (n c : Nat) (came dropped : Int) (M : List Wh) (w : World) (hb : Ws w a n c M) (hs : cnt (ws M) ≤ 10000) (hp : ∀ x ∈ M, x.1.1.length ≤ 140737488355328) :
    Calls Try.prog 15 #[cav m a n c came dropped] w fun e w' => e = .returned (.bool (crtC ⟨m, ws M, came, dropped⟩)) ∧ Ext w w' := by
  have hlen := Lib.hid hb.len
  have hm := Nat.le_trans (Sl.le hb.1) (Sl.max hb.1)
  unfold maxLen at hm
  have hwl : (ws M).length = n := by unfold ws; rw [List.length_map]; exact hlen.out
  obtain ⟨r, hr⟩ : ∃ r, crtC ⟨m, ws M, came, dropped⟩ = r := ⟨_, rfl⟩
  have hhead := crtC_head ⟨m, ws M, came, dropped⟩
  dsimp only at hhead
  rw [hr, hwl] at hhead
  rw [hr]
  have hx := Ext.alloc w (.cells #[.int .i64 m, .slice a n c, .int .i64 came, .int .i64 dropped] 24)
  have hcnt0 := fun W (h : Ext w W) => rcount_calls m a n c came dropped M W (hb.ext h) (by omega)
  obtain ⟨W0, hW0⟩ : ∃ W0, w.alloc (.cells #[.int .i64 m, .slice a n c, .int .i64 came, .int .i64 dropped] 24) = W0 := ⟨_, rfl⟩
  obtain ⟨X, iX, f, hxS0, hSx0⟩ := letters (fun w' => Ext W0 w') W0 (Ext.refl W0)
  have hxS := Lib.hid hxS0
  have hSx := Lib.hid hSx0
  have hS0 := Lib.hid (hSx0 _ (Ext.drewN W0 1))
  clear hxS0 hSx0
  rw [hW0] at hx
  have y0 : ∀ x, (f x).cell? ⟨w.heap.size, 0, none⟩ = some (.int .i64 m) := fun x => (box4 (by rw [hW0]; exact hxS.out x)).1
  have y1 : ∀ x, (f x).cell? ⟨w.heap.size, 1, none⟩ = some (.slice a n c) := fun x => (box4 (by rw [hW0]; exact hxS.out x)).2.1
  have y2 : ∀ x, (f x).cell? ⟨w.heap.size, 2, none⟩ = some (.int .i64 came) := fun x => (box4 (by rw [hW0]; exact hxS.out x)).2.2.1
  have y3 : ∀ x, (f x).cell? ⟨w.heap.size, 3, none⟩ = some (.int .i64 dropped) := fun x => (box4 (by rw [hW0]; exact hxS.out x)).2.2.2
  obtain ⟨s, hsd⟩ : ∃ s, cnt (ws M) = s := ⟨_, rfl⟩
  rw [hsd] at hhead hs hcnt0
  have hcount : Hid (∀ x, Calls Try.prog 23 #[.agg #[.int .i64 m, .slice a n c, .int .i64 came, .int .i64 dropped]] (f x) fun e w'' => e = .returned (.int .i64 (s : Nat)) ∧ ∃ y, w'' = f y) := fun x =>
    (hcnt0 _ (hx.trans (hxS.out x))).mono (fun e w'' ⟨he, hx2⟩ => ⟨he, hSx.out w'' ((hxS.out x).trans hx2)⟩)
  clear hcnt0
  unfold cav
  by_cases q0 : m < 1
  · obtain rfl := hhead (fun h => by omega)
    have e0 : decide (m < 1) = true := decide_eq_true q0
    clear hhead hr hwl
    go_enter Try.func15, Try.ntmps15
    go_wp2_with fail
    clear hW0
    refine region_class (fun w' => ∃ x : X, w' = f x) (by kernel_rfl) (by kernel_rfl) hS0.out ?_
    repeat (go_big_quiet_step ((go_at_call 23; exact (hcount.out _))))
    refine wpQuiet_nil ?_
    rintro _ ⟨x1, rfl⟩
    have hx1 := hxS.out x1
    go_wp2_with fail
    go_ret
    exact ⟨rfl, hx.trans hx1⟩
  have e0 : decide (m < 1) = false := decide_eq_false q0
  by_cases q1 : 500 < m
  · obtain rfl := hhead (fun h => by omega)
    have e1 : decide (500 < m) = true := decide_eq_true q1
    clear hhead hr hwl
    go_enter Try.func15, Try.ntmps15
    go_wp2_with fail
    clear hW0
    refine region_class (fun w' => ∃ x : X, w' = f x) (by kernel_rfl) (by kernel_rfl) hS0.out ?_
    repeat (go_big_quiet_step ((go_at_call 23; exact (hcount.out _))))
    refine wpQuiet_nil ?_
    rintro _ ⟨x1, rfl⟩
    have hx1 := hxS.out x1
    go_wp2_with fail
    go_ret
    exact ⟨rfl, hx.trans hx1⟩
  have e1 : decide (500 < m) = false := decide_eq_false q1
  by_cases q2 : (500 : Int) < (n : Int)
  · obtain rfl := hhead (fun h => by omega)
    have e2 : decide ((500 : Int) < (n : Int)) = true := decide_eq_true q2
    clear hhead hr hwl
    go_enter Try.func15, Try.ntmps15
    go_wp2_with fail
    clear hW0
    refine region_class (fun w' => ∃ x : X, w' = f x) (by kernel_rfl) (by kernel_rfl) hS0.out ?_
    repeat (go_big_quiet_step ((go_at_call 23; exact (hcount.out _))))
    refine wpQuiet_nil ?_
    rintro _ ⟨x1, rfl⟩
    have hx1 := hxS.out x1
    go_wp2_with fail
    go_ret
    exact ⟨rfl, hx.trans hx1⟩
  have e2 : decide ((500 : Int) < (n : Int)) = false := decide_eq_false q2
  by_cases q3 : came < 0
  · obtain rfl := hhead (fun h => by omega)
    have e3 : decide (came < 0) = true := decide_eq_true q3
    clear hhead hr hwl
    go_enter Try.func15, Try.ntmps15
    go_wp2_with fail
    clear hW0
    refine region_class (fun w' => ∃ x : X, w' = f x) (by kernel_rfl) (by kernel_rfl) hS0.out ?_
    repeat (go_big_quiet_step ((go_at_call 23; exact (hcount.out _))))
    refine wpQuiet_nil ?_
    rintro _ ⟨x1, rfl⟩
    have hx1 := hxS.out x1
    go_wp2_with fail
    go_ret
    exact ⟨rfl, hx.trans hx1⟩
  have e3 : decide (came < 0) = false := decide_eq_false q3
  by_cases q4 : 1099511627776 < came
  · obtain rfl := hhead (fun h => by omega)
    have e4 : decide (1099511627776 < came) = true := decide_eq_true q4
    clear hhead hr hwl
    go_enter Try.func15, Try.ntmps15
    go_wp2_with fail
    clear hW0
    refine region_class (fun w' => ∃ x : X, w' = f x) (by kernel_rfl) (by kernel_rfl) hS0.out ?_
    repeat (go_big_quiet_step ((go_at_call 23; exact (hcount.out _))))
    refine wpQuiet_nil ?_
    rintro _ ⟨x1, rfl⟩
    have hx1 := hxS.out x1
    go_wp2_with fail
    go_ret
    exact ⟨rfl, hx.trans hx1⟩
  have e4 : decide (1099511627776 < came) = false := decide_eq_false q4
  by_cases q5 : dropped < 0
  · obtain rfl := hhead (fun h => by omega)
    have e5 : decide (dropped < 0) = true := decide_eq_true q5
    clear hhead hr hwl
    go_enter Try.func15, Try.ntmps15
    go_wp2_with fail
    clear hW0
    refine region_class (fun w' => ∃ x : X, w' = f x) (by kernel_rfl) (by kernel_rfl) hS0.out ?_
    repeat (go_big_quiet_step ((go_at_call 23; exact (hcount.out _))))
    refine wpQuiet_nil ?_
    rintro _ ⟨x1, rfl⟩
    have hx1 := hxS.out x1
    go_wp2_with fail
    go_ret
    exact ⟨rfl, hx.trans hx1⟩
  have e5 : decide (dropped < 0) = false := decide_eq_false q5
  by_cases q6 : m < (s : Int)
  · obtain rfl := hhead (fun h => by omega)
    have e6 : decide (m < (s : Int)) = true := decide_eq_true q6
    clear hhead hr hwl
    go_enter Try.func15, Try.ntmps15
    go_wp2_with fail
    clear hW0
    refine region_class (fun w' => ∃ x : X, w' = f x) (by kernel_rfl) (by kernel_rfl) hS0.out ?_
    repeat (go_big_quiet_step ((go_at_call 23; exact (hcount.out _))))
    refine wpQuiet_nil ?_
    rintro _ ⟨x1, rfl⟩
    have hx1 := hxS.out x1
    go_wp2_with fail
    go_ret
    exact ⟨rfl, hx.trans hx1⟩
  have e6 : decide (m < (s : Int)) = false := decide_eq_false q6
  by_cases q7 : came - (s : Int) < dropped
  · obtain rfl := hhead (fun h => by omega)
    have e7 : decide (came - (s : Int) < dropped) = true := decide_eq_true q7
    clear hhead hr hwl
    go_enter Try.func15, Try.ntmps15
    go_wp2_with fail
    clear hW0
    refine region_class (fun w' => ∃ x : X, w' = f x) (by kernel_rfl) (by kernel_rfl) hS0.out ?_
    repeat (go_big_quiet_step ((go_at_call 23; exact (hcount.out _))))
    refine wpQuiet_nil ?_
    rintro _ ⟨x1, rfl⟩
    have hx1 := hxS.out x1
    go_wp2_with fail
    go_ret
    exact ⟨rfl, hx.trans hx1⟩
  have e7 : decide (came - (s : Int) < dropped) = false := decide_eq_false q7
  have hok : Hid (okWts came none [] (ws M) = r) := by
    show _ = _
    rw [← hr]
    unfold crtC
    dsimp only
    rw [decide_eq_true ⟨by omega, by omega, by rw [hwl]; omega, by omega, by omega, by omega, by rw [hsd]; omega, by rw [hsd]; omega⟩, Bool.true_and]
  clear hhead hr hwl
  go_enter Try.func15, Try.ntmps15
  go_wp2_with fail
  clear hW0
  refine region_class (fun w' => ∃ x : X, w' = f x) (by kernel_rfl) (by kernel_rfl) hS0.out ?_
  repeat (go_big_quiet_step ((go_at_call 23; exact (hcount.out _))))
  refine wpQuiet_nil ?_
  rintro _ ⟨x1, rfl⟩
  have hx1 := hxS.out x1
  replace y0 := y0 x1
  replace y1 := y1 x1
  replace y2 := y2 x1
  replace y3 := y3 x1
  obtain ⟨w1, hw1⟩ : ∃ w1, f x1 = w1 := ⟨_, rfl⟩
  rw [hw1] at y0 y1 y2 y3 hx1 ⊢
  clear hcount hS0 hSx hxS hw1
  go_wp2_with fail
  go_loopw [3, 4] (fun vo vi wr => ∃ (k : Nat) (met : List Int), k ≤ n ∧ vi = .int .i64 k ∧ Hid (okWts came (prevW M k) met ((ws M).drop k) = r) ∧ Hid (ORow ic 1 wr w1.heap.size 3 vo met) ∧ met.length ≤ cnt (ws (M.take k)) ∧ Ext w1 wr) (fun _ vi _ => n - (intOf vi).toNat)
  case atStart => exact ⟨0, [], Nat.zero_le _, rfl, by show _ = _; simpa [prevW] using hok.out, World.ownsRow_nil _ _ _ _, by simp, Ext.refl _⟩
  case round =>
    obtain ⟨k, met, hk, rfl, hokk, hown, hmet, hX⟩ := hrel
    have Y0 := Lib.hid y0
    have Y1 := Lib.hid y1
    have Y2 := Lib.hid y2
    replace y0 := hX.cell y0
    replace y1 := hX.cell y1
    replace y2 := hX.cell y2
    replace y3 := hX.cell y3
    have hyl := World.block_lt_of_cell? wr _ y1
    by_cases hlt : k < n
    · obtain ⟨b2, o2, rfl, hc⟩ := hb.at (by omega)
      have hkM : k < M.length := by rw [hlen.out]; exact hlt
      have hkW : k < (ws M).length := by unfold ws; rw [List.length_map]; exact hkM
      have HX := (hx.trans hx1).trans hX
      obtain ⟨d0, d1⟩ := hc k hkM
      replace d0 := HX.cell d0
      replace d1 := HX.cell d1
      have hb2l := World.block_lt_of_cell? wr _ d0
      have hdr : (ws M).drop k = M[k].1 :: (ws M).drop (k + 1) := by
        rw [List.drop_eq_getElem_cons hkW]; simp [ws]
      have hok2 := hokk.out
      rw [hdr, okWts] at hok2
      have hpk := hp M[k] (List.getElem_mem hkM)
      have hak := (hb.2 M[k] (List.getElem_mem hkM)).ext HX
      have hctk := Lib.hid (cnt_take_succ M k hkM)
      have hctl := cnt_take_le M (k + 1)
      obtain ⟨⟨⟨pp, pts⟩, pa, pn, pc⟩, hxe⟩ : ∃ x, M[k] = x := ⟨_, rfl⟩
      rw [hxe] at d0 d1 hok2 hpk hak hctk
      dsimp only at d0 d1 hok2 hpk hak hctk
      have hxe2 := Lib.hid hxe
      have hnm := fun W => rnamed_calls pp W hpk
      have hpvn : prevW M (k + 1) = some pp := by
        unfold prevW
        rw [if_neg (by omega), Nat.add_sub_cancel, List.getElem?_eq_getElem hkW]
        unfold ws
        rw [Option.map_some, List.getElem_map, hxe2.out]
      clear hdr hxe hokk
      have hpn := Lib.hid (As.len hak)
      have hpm := Nat.le_trans (Sl.le hak) (Sl.max hak)
      unfold maxLen at hpm
      have hak0 := Lib.hid ((hb.2 _ (List.getElem_mem hkM)).ext (hx.trans hx1))
      rw [hxe2.out] at hak0
      have hfail : ∀ (_ : nmd pp = false ∨ pts = [] ∨ ∃ q ∈ prevW M k, bl q pp = false), r = false := fun h => by
        rw [← hok2, if_pos h]
      obtain ⟨R1, hR1⟩ : ∃ R1, okPts came none met pts = R1 := ⟨_, rfl⟩
      have hpass : ∀ (_ : ¬ (nmd pp = false ∨ pts = [] ∨ ∃ q ∈ prevW M k, bl q pp = false)), (R1 = none → r = false) ∧ ∀ m', R1 = some m' → okWts came (prevW M (k + 1)) m' ((ws M).drop (k + 1)) = r := fun h => by
        rw [if_neg h, hR1] at hok2
        rw [hpvn]
        constructor
        · intro h2; subst h2; exact hok2.symm
        · intro m' h2; subst h2; exact hok2
      clear hok2 hpvn
      have hR1h := Lib.hid hR1
      clear hR1
      obtain ⟨wo, hwo⟩ : ∃ wo : World, wr = wo := ⟨_, rfl⟩
      rw [hwo] at y0 y1 y2 y3 hyl d0 d1 hb2l hown hX HX ⊢
      clear hwo
      obtain ⟨bad, hbad⟩ : ∃ bad : Bool, decide (nmd pp = false ∨ pts = [] ∨ ∃ q ∈ prevW M k, bl q pp = false) = bad := ⟨_, rfl⟩
      have hbadh := Lib.hid hbad
      clear hbad
      go_upto_region 8 with fail
      go_cut [92] (fun s wx => s = .bool bad ∧ Ext wo wx ∧ wx.heap[wo.heap.size]? = some (.cells #[.string ⟨pp.toArray⟩, .slice pa pn pc] 59 (0, 0)))
      case first =>
        have hE : ∀ q, Ext wo ((wo.alloc (.cells #[.string ⟨pp.toArray⟩, .slice pa pn pc] 59)).drewN q) := fun q => (Ext.alloc _ _).trans (Ext.drewN _ _)
        have hB : ∀ q, ((wo.alloc (.cells #[.string ⟨pp.toArray⟩, .slice pa pn pc] 59)).drewN q).heap[wo.heap.size]? = some (.cells #[.string ⟨pp.toArray⟩, .slice pa pn pc] 59 (0, 0)) := fun q => heap_alloc_new _ _
        have hEh := Lib.hid hE
        have hBh := Lib.hid hB
        clear hE hB hfail hpass
        cases hnn : nmd pp with
        | false =>
          obtain rfl : bad = true := by rw [← hbadh.out]; simp [hnn]
          rw [hnn] at hnm
          have hnmh := Lib.hid hnm
          clear hnm hnn
          go_quiet ((go_at_call 33; exact Calls.quiet_of_same (hnmh.out _)))
          go_wp2
          go_meet
          exact ⟨rfl, hEh.out _, hBh.out _⟩
        | true =>
          rw [hnn] at hnm
          have hnmh := Lib.hid hnm
          clear hnm
          by_cases hp0 : pn = 0
          · have hpe : pts = [] := List.eq_nil_of_length_eq_zero (by rw [hpn.out]; exact hp0)
            obtain rfl : bad = true := by rw [← hbadh.out]; simp [hpe]
            subst hp0
            clear hnn hpe
            go_quiet ((go_at_call 33; exact Calls.quiet_of_same (hnmh.out _)))
            go_wp2
            go_meet
            exact ⟨rfl, hEh.out _, hBh.out _⟩
          · have hp1 : ((pn : Int) == 0) = false := by rw [beq_eq_false_iff_ne]; omega
            have hpe : pts ≠ [] := fun h => hp0 (by rw [← hpn.out, h]; rfl)
            cases k with
            | zero =>
              obtain rfl : bad = false := by rw [← hbadh.out]; simp [hnn, hpe, prevW]
              simp only [Nat.zero_mul, Nat.add_zero] at d0 d1
              clear hnn hpe
              go_quiet ((go_at_call 33; exact Calls.quiet_of_same (hnmh.out _)))
              go_wp2
              go_meet
              exact ⟨rfl, hEh.out _, hBh.out _⟩
            | succ j =>
              have hjM : j < M.length := by omega
              have hjW : j < (ws M).length := by omega
              have hpq : prevW M (j + 1) = some M[j].1.1 := by
                unfold prevW
                rw [if_neg (by omega), Nat.add_sub_cancel, List.getElem?_eq_getElem hjW]
                simp [ws]
              obtain ⟨f0, f1⟩ := hc j hjM
              replace f0 := HX.cell f0
              obtain ⟨q, hq⟩ : ∃ q, M[j].1.1 = q := ⟨_, rfl⟩
              have hbq : decide (nmd pp = false ∨ pts = [] ∨ ∃ q' ∈ some q, bl q' pp = false) = bad := by rw [← hbadh.out, hpq, hq]
              rw [hq] at f0
              clear hpq hq hc f1
              cases hqp : bl q pp with
              | false =>
                obtain rfl : bad = true := by rw [← hbq]; simp [hqp]
                have hqp1 : Op.bytesLess q pp = false := hqp
                clear hqp hnn hpe hbq
                go_quiet ((go_at_call 33; exact Calls.quiet_of_same (hnmh.out _)))
                go_wp2
                go_meet
                exact ⟨rfl, hEh.out _, hBh.out _⟩
              | true =>
                obtain rfl : bad = false := by rw [← hbq]; simp [hqp, hnn, hpe]
                have hqp1 : Op.bytesLess q pp = true := hqp
                clear hqp hnn hpe hbq
                go_quiet ((go_at_call 33; exact Calls.quiet_of_same (hnmh.out _)))
                go_wp2
                go_meet
                exact ⟨rfl, hEh.out _, hBh.out _⟩
      case rest =>
        obtain ⟨rfl, hX3, hblk⟩ := hcut
        clear hnm d0 d1 hc
        cases bad with
        | true =>
          obtain rfl := hfail (by simpa using hbadh.out)
          clear hfail hpass hok
          go_wp2
          go_ret
          exact ⟨rfl, HX.trans hX3⟩
        | false =>
          have hpass2 := Lib.hid (hpass (by simpa using hbadh.out))
          clear hfail hpass
          obtain ⟨w3, hw3⟩ : ∃ w3, wc = w3 := ⟨_, rfl⟩
          rw [hw3] at hX3 hblk ⊢
          clear hw3
          have v1 := hX3.cell y1
          go_wp2_with fail
          go_loopw [3, 6] (fun vo vk wr => ∃ (q : Nat) (met2 : List Int), q ≤ pn ∧ vk = .int .i64 q ∧ Hid (okPts came (prevO pts q) met2 (pts.drop q) = R1) ∧ Hid (ORow ic 1 wr w1.heap.size 3 vo met2) ∧ met2.length ≤ met.length + q ∧ Ext w1 wr ∧ wr.heap[wo.heap.size]? = some (.cells #[.string ⟨pp.toArray⟩, .slice pa pn pc] 59 (0, 0))) (fun _ vk _ => pn - (intOf vk).toNat)
          case atStart => exact ⟨0, met, Nat.zero_le _, rfl, by show _ = _; simpa [prevO] using hR1h.out, hown.out.ext hX3, by omega, hX.trans hX3, hblk⟩
          case round =>
            obtain ⟨q3, met2, hq3, rfl, hokp, hown2, hmet2, hXq, hbq⟩ := hrel
            obtain ⟨z0, z1⟩ := cells_two hbq
            have u0 := hXq.cell Y0.out
            have u1 := hXq.cell Y1.out
            have u2 := hXq.cell Y2.out
            have hul := World.block_lt_of_cell? wr _ u1
            have hzl := World.block_lt_of_cell? wr _ z1
            have hm2b : met2.length ≤ 20000 := by have h1 := hctk.out; rw [hpn.out] at h1; omega
            by_cases hlt3 : q3 < pn
            · obtain ⟨b3, o3, rfl, hc3⟩ := As.at hak0.out (by omega)
              have hqp3 : q3 < pts.length := by rw [hpn.out]; exact hlt3
              obtain ⟨_, _, _, e3⟩ := hc3 q3 hqp3
              replace e3 := hXq.cell e3
              have hb3l := World.block_lt_of_cell? wr _ e3
              have hokp2 := hokp.out
              rw [List.drop_eq_getElem_cons hqp3, okPts] at hokp2
              have hpv : prevO pts (q3 + 1) = some pts[q3].order := by simp [prevO, hqp3]
              obtain ⟨o, ho⟩ : ∃ o, pts[q3].order = o := ⟨_, rfl⟩
              rw [ho] at e3 hokp2 hpv
              have hR0 : ∀ (_ : o < 0 ∨ came ≤ o ∨ o ∈ met2 ∨ ∃ q ∈ prevO pts q3, o ≤ q), r = false := fun h => by
                rw [if_pos h] at hokp2
                exact hpass2.out.1 hokp2.symm
              have hRn : ∀ (_ : ¬ (o < 0 ∨ came ≤ o ∨ o ∈ met2 ∨ ∃ q ∈ prevO pts q3, o ≤ q)), okPts came (prevO pts (q3 + 1)) (met2 ++ [o]) (pts.drop (q3 + 1)) = R1 := fun h => by
                rw [if_neg h] at hokp2
                rw [hpv]; exact hokp2
              clear hokp hokp2 hpv ho
              obtain ⟨bad2, hbad2⟩ : ∃ bad2 : Bool, decide (o < 0 ∨ came ≤ o ∨ ∃ q ∈ prevO pts q3, o ≤ q) = bad2 := ⟨_, rfl⟩
              have hbad2h := Lib.hid hbad2
              clear hbad2
              obtain ⟨ao, co, hvo, hrow⟩ := hown2.out.row
              subst hvo
              have hrowh := Lib.hid hrow
              clear hrow
              obtain ⟨wn, hwn⟩ : ∃ wn : World, wr = wn := ⟨_, rfl⟩
              rw [hwn] at hown2 hXq hbq z0 z1 u0 u1 u2 hul hzl e3 hb3l hrowh ⊢
              clear hwn
              go_upto_region 14 with fail
              go_cut [128] (fun s wx => s = .bool bad2 ∧ wx = wn)
              case first =>
                clear hR0 hRn
                by_cases c1 : o < 0
                · obtain rfl : bad2 = true := by rw [← hbad2h.out]; simp [c1]
                  have q11 : decide (o < 0) = true := by simp [c1]
                  go_wp2_with fail
                  go_meet
                  exact ⟨rfl, rfl⟩
                have q11 : decide (o < 0) = false := by simp [c1]
                by_cases c2 : came ≤ o
                · obtain rfl : bad2 = true := by rw [← hbad2h.out]; simp [c2]
                  have q12 : decide (came ≤ o) = true := by simp [c2]
                  go_wp2_with fail
                  go_meet
                  exact ⟨rfl, rfl⟩
                have q12 : decide (came ≤ o) = false := by simp [c2]
                cases q3 with
                | zero =>
                  obtain rfl : bad2 = false := by rw [← hbad2h.out]; simp [c1, c2, prevO]
                  go_wp2_with fail
                  go_meet
                  exact ⟨rfl, rfl⟩
                | succ i3 =>
                  have hi3 : i3 < pts.length := by omega
                  have hpo : prevO pts (i3 + 1) = some pts[i3].order := by simp [prevO, hi3]
                  obtain ⟨_, _, _, g3⟩ := hc3 i3 hi3
                  replace g3 := hXq.cell g3
                  obtain ⟨o', ho'⟩ : ∃ o', pts[i3].order = o' := ⟨_, rfl⟩
                  have hbq2 : decide (o < 0 ∨ came ≤ o ∨ ∃ q' ∈ some o', o ≤ q') = bad2 := by rw [← hbad2h.out, hpo, ho']
                  rw [ho'] at g3
                  clear hpo ho' hc3
                  by_cases c3 : o ≤ o'
                  · obtain rfl : bad2 = true := by rw [← hbq2]; simp [c3]
                    have q13 : decide (o ≤ o') = true := by simp [c3]
                    clear hbq2
                    go_wp2_with fail
                    go_meet
                    exact ⟨rfl, rfl⟩
                  · obtain rfl : bad2 = false := by rw [← hbq2]; simp [c1, c2]; omega
                    have q13 : decide (o ≤ o') = false := by simp [c3]
                    clear hbq2
                    go_wp2_with fail
                    go_meet
                    exact ⟨rfl, rfl⟩
              case rest =>
                obtain ⟨rfl, hwc⟩ := hcut
                have hwc2 := hwc.symm
                clear hwc
                subst hwc2
                clear hc3
                cases bad2 with
                | true =>
                  have hb3 := hbad2h.out
                  rw [decide_eq_true_eq] at hb3
                  obtain rfl := hR0 (by rcases hb3 with h | h | h; exact .inl h; exact .inr (.inl h); exact .inr (.inr (.inr h)))
                  clear hR0 hRn hok hb3
                  go_wp2_with fail
                  go_ret
                  exact ⟨rfl, (hx.trans hx1).trans hXq⟩
                | false =>
                  have hb3 := Lib.hid hbad2h.out
                  have hR0h := Lib.hid hR0
                  have hRnh := Lib.hid hRn
                  clear hR0 hRn hbad2h
                  go_wp2_with fail
                  go_loop [8] (fun vj => ∃ j : Nat, j ≤ met2.length ∧ vj = .int .i64 j ∧ Hid (o ∉ met2.take j)) (fun vj => met2.length - (intOf vj).toNat)
                  case atStart => exact ⟨0, Nat.zero_le _, rfl, by show ¬ _; simp⟩
                  case round =>
                    obtain ⟨j3, hj3, rfl, hno⟩ := hrel
                    by_cases hlt4 : j3 < met2.length
                    · obtain ⟨bo, oo, rfl, hco⟩ := Row.at ic_len hrowh.out (by omega)
                      have hcj := hco j3 hlt4 0 _ rfl
                      rw [Nat.mul_one, Nat.add_zero] at hcj
                      have hbol := World.block_lt_of_cell? _ _ hcj
                      have hsn4 : Hid (met2.take (j3 + 1) = met2.take j3 ++ [met2[j3]]) := List.take_succ_eq_append_getElem hlt4
                      have hmem : Hid (met2[j3] ∈ met2) := List.getElem_mem hlt4
                      obtain ⟨x, hxj⟩ : ∃ x, met2[j3] = x := ⟨_, rfl⟩
                      rw [hxj] at hcj hsn4 hmem
                      clear hco hxj
                      by_cases hxo : x = o
                      · subst hxo
                        obtain rfl := hR0h.out (.inr (.inr (.inl hmem.out)))
                        have qe : (x == x) = true := by simp
                        clear hok
                        go_wp2
                        go_ret
                        exact ⟨rfl, (hx.trans hx1).trans hXq⟩
                      · have qe : (x == o) = false := by simp [hxo]
                        go_wp2
                        go_round
                        case rel => exact ⟨j3 + 1, by omega, by go_num, by show ¬ _; rw [hsn4.out]; simp; exact ⟨hno.out, fun h => hxo h.symm⟩⟩
                        case measure => simp [intOf]; omega
                    · obtain rfl : j3 = met2.length := by omega
                      have hnm3 := hno.out
                      rw [List.take_of_length_le (Nat.le_refl _)] at hnm3
                      have hnx3 := Lib.hid (hRnh.out (by
                        have h0 := hb3.out
                        rw [decide_eq_false_iff_not] at h0
                        rintro (h | h | h | h)
                        · exact h0 (.inl h)
                        · exact h0 (.inr (.inl h))
                        · exact hnm3 h
                        · exact h0 (.inr (.inr h))))
                      clear hnm3 hno
                      have hz1 : Hid ((met2.length + 1) * 8 ≤ 140737488355328) := by show _ ≤ _; omega
                      have hz2 : Hid (met2.length + 1 ≤ maxLen) := by show _ ≤ _; unfold maxLen; omega
                      have hz3 : Hid (w1.heap.size ≤ (wn.alloc (.cells #[.int .i64 o] 3)).heap.size) := by
                        show _ ≤ _
                        have := hXq.size
                        simp; omega
                      have hown4 := Lib.hid (ORow.ext hown2.out (Ext.alloc wn (.cells #[.int .i64 o] 3)))
                      have hblk4 := Lib.hid (((Ext.alloc wn (.cells #[.int .i64 o] 3)).block _ (lt_of_block hbq)).trans hbq)
                      go_wp2_with (at_builtin; refine wpList_append_sl rfl _ _ 68 rfl w1.heap.size 3 Try.underlying68 infoI rfl (by decide) _ _ _ rfl hown4.out _ _ _ (ic o) rfl (Sl.one wn (.int .i64 o) 3) (by intro u hu; simp [ic] at hu; subst hu; rfl) hz1.out hz2.out hz3.out ?_; intro v' w5 hown5 hgrow)
                      have hX5 := Lib.hid ((hXq.trans (Ext.alloc wn (.cells #[.int .i64 o] 3))).grown hgrow (owns_row hown4.out))
                      have hbq5 := Lib.hid (block_beside hown4.out hgrow hblk4.out (by decide))
                      have hown6 : Hid (ORow ic 1 w5 w1.heap.size 3 v' (met2 ++ [o])) := by
                        show _
                        unfold ORow
                        rw [rcells_append, List.length_append]
                        exact hown5
                      clear hown5 hgrow hown4 hblk4
                      go_wp2
                      go_roundw
                      case rel => exact ⟨q3 + 1, met2 ++ [o], by omega, by go_num, hnx3.out, hown6, by rw [List.length_append, List.length_singleton]; omega, hX5.out, hbq5.out⟩
                      case measure => simp [intOf]; omega
            · obtain rfl : q3 = pn := by omega
              have hfin := hokp.out
              rw [List.drop_of_length_le (by rw [hpn.out]; exact Nat.le_refl _), okPts] at hfin
              subst hfin
              have hnx := Lib.hid (hpass2.out.2 met2 rfl)
              have hct := hctk.out
              rw [hpn.out] at hct
              have hctk3 := Lib.hid hct
              clear hct hokp
              go_wp2
              go_roundw
              case rel => exact ⟨k + 1, met2, by omega, by go_num, hnx.out, hown2, by rw [hctk3.out]; omega, hXq⟩
              case measure => simp [intOf]; omega
    · obtain rfl : n = k := by omega
      have hfin := hokk.out
      rw [List.drop_of_length_le (by unfold ws; rw [List.length_map, hlen.out]; exact Nat.le_refl _), okWts] at hfin
      subst hfin
      clear hokk hok
      go_wp2
      go_ret
      exact ⟨rfl, (hx.trans hx1).trans hX⟩
end Go.Proofs.Ytcbjadmngkednaa
