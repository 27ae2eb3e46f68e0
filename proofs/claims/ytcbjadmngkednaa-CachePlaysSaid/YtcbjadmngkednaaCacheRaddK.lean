/-
  Layer 20's contracts: the document's Add, where the point is kept.
-/
import Derived.Test.YtcbjadmngkednaaCacheRaddS
namespace Go.Proofs.Ytcbjadmngkednaa
open Go.RowKit

def RaddLoop (w : World) (sv rv xc pc : Array Value) (xs : Value) (base B P : Nat) (M M3 : List Wh) (n : Nat) (s : List UInt8) (p : Ar) (vo vp vi : Value) (wr : World) : Prop :=
  ∃ (k : Nat) (put : Bool) (out : List Wh) (av : Option Addr) (cv : Nat), k ≤ n ∧ vi = .int .i64 k ∧ vp = .bool put ∧ vo = .slice av out.length cv ∧ Hid (out.length ≤ 2 * k) ∧ Hid (ws out ++ restW s p put ((ws M).drop k) = addW s p (ws M)) ∧ Hid (put = true → ∀ y ∈ (ws M).drop k, bl s y.1 = true) ∧
    Hid (RS w wr sv rv xc pc xs base B P M3 out (M3.drop k) (.slice av out.length cv))

set_option maxRecDepth 100000 in
set_option maxHeartbeats 3200000 in
theorem radd_kept (m : Int) (a : Option Addr) (n c : Nat) (came dropped : Int) (M : List Wh) (s : List UInt8) (val tim now : Int) (w : World) (hb : Cw w a n c M) (hs : s.length ≤ 140737488355328) (hn : nmd s = true) (hc : crtC ⟨m, ws M, came, dropped⟩ = true) (hq : ¬ came = 1099511627776) (hf : ¬ (cnt (ws M) : Int) = m) :
    Calls Try.prog 12 #[cav m a n c came dropped, .agg #[.string ⟨s.toArray⟩, .int .i64 val, .int .i64 tim], .int .i64 now] w (RaddPost m ((⟨m, addW s (⟨tim, val, now, came⟩ : Ar) (ws M), came + 1, dropped⟩, true), 0) w) := by
  obtain ⟨⟨g1, g2, g3, g4, g5, g6, g7, g8⟩, hgood⟩ := (crtC_iff _).1 hc
  dsimp only at g1 g2 g3 g4 g5 g6 g7 g8 hgood
  have hx : Ext w (((w.alloc (.cells #[.int .i64 m, .slice a n c, .int .i64 came, .int .i64 dropped] 24)).alloc (.cells #[.string ⟨s.toArray⟩, .int .i64 val, .int .i64 tim] 26)).alloc (.cells #[.int .i64 0, .slice none 0 0, .int .i64 0, .int .i64 0] 24)) := ((Ext.alloc w _).trans (Ext.alloc _ _)).trans (Ext.alloc _ _)
  obtain ⟨hbox, hsb, hres⟩ := three_blocks (Ext.refl (((w.alloc (.cells #[.int .i64 m, .slice a n c, .int .i64 came, .int .i64 dropped] 24)).alloc (.cells #[.string ⟨s.toArray⟩, .int .i64 val, .int .i64 tim] 26)).alloc (.cells #[.int .i64 0, .slice none 0 0, .int .i64 0, .int .i64 0] 24)))
  have hr := (hb.ext hx).rright (m := m) (came := came) (dropped := dropped)
  obtain ⟨W0, hW0⟩ : ∃ W0, ((w.alloc (.cells #[.int .i64 m, .slice a n c, .int .i64 came, .int .i64 dropped] 24)).alloc (.cells #[.string ⟨s.toArray⟩, .int .i64 val, .int .i64 tim] 26)).alloc (.cells #[.int .i64 0, .slice none 0 0, .int .i64 0, .int .i64 0] 24) = W0 := ⟨_, rfl⟩
  rw [hW0] at hx hbox hsb hres hr
  obtain ⟨⟨y0, y1, y2, y3⟩, _⟩ := cells_four hbox
  obtain ⟨x0, x1, x2⟩ := cells_three hsb
  have hnmh := Lib.hid (fun W => rnamed_calls s W hs)
  rw [hn] at hnmh
  rw [hc] at hr
  have hrh := Lib.hid hr
  have hgoodh := Lib.hid hgood
  have hch := Lib.hid hc
  clear hr hn hc hgood
  unfold cav at *
  go_enter Try.func12, Try.ntmps12
  go_wp2_with fail
  refine hrh.out.mono ?_
  rintro e w1 ⟨rfl, hx1⟩
  clear hW0
  replace hres := (hx1.block _ (lt_of_block hres)).trans hres
  replace hbox := (hx1.block _ (lt_of_block hbox)).trans hbox
  replace hsb := (hx1.block _ (lt_of_block hsb)).trans hsb
  have hX := hx.trans hx1
  clear y0 y1 y2 y3 x0 x1 x2
  obtain ⟨⟨y0, y1, y2, y3⟩, ⟨u0, u1, u2, u3⟩⟩ := cells_four hbox
  obtain ⟨x0, x1, x2⟩ := cells_three hsb
  go_wp2_with fail
  refine (hnmh.out _).mono ?_
  rintro e w2 ⟨rfl, rfl⟩

  have hq1 : (came == 1099511627776) = false := by rw [beq_eq_false_iff_ne]; exact hq
  have hcph := Lib.hid (rcopy_calls m a n c came dropped M w2 (hb.rd.ext hX) (by have := hb.len; omega) (by have := hb.tot; omega))
  unfold cav at hcph
  go_wp2_with fail
  refine hcph.out.mono ?_
  rintro e w3 ⟨a3, c3, M3, rfl, hws3, hown3, hwo3, hx3⟩
  clear hcph
  have hws3h := Lib.hid hws3
  have hown3h := Lib.hid hown3
  have hwo3h := Lib.hid hwo3
  clear hws3 hown3 hwo3
  replace hbox := (hx3.block _ (lt_of_block hbox)).trans hbox
  replace hres := (hx3.block _ (lt_of_block hres)).trans hres
  replace hsb := (hx3.block _ (lt_of_block hsb)).trans hsb
  clear y0 y1 y2 y3 u0 u1 u2 u3 x0 x1 x2
  obtain ⟨⟨y0, y1, y2, y3⟩, ⟨u0, u1, u2, u3⟩⟩ := cells_four hbox
  obtain ⟨x0, x1, x2⟩ := cells_three hsb
  have hX3 := hX.trans hx3
  have hl0 := lt_of_block hbox
  have hl1 := lt_of_block hsb
  have hl2 := lt_of_block hres
  go_upto_region 7 with fail
  have hx34 := Ext.alloc w3 (.cells #[.int .i64 m, .slice a3 n c3, .int .i64 (came + 1), .int .i64 dropped] 24)
  have hv3 := heap_alloc_new w3 (.cells #[.int .i64 m, .slice a3 n c3, .int .i64 (came + 1), .int .i64 dropped] 24)
  obtain ⟨W4, hW4⟩ : ∃ W4, w3.alloc (.cells #[.int .i64 m, .slice a3 n c3, .int .i64 (came + 1), .int .i64 dropped] 24) = W4 := ⟨_, rfl⟩
  rw [hW4] at hx34 hv3 ⊢
  clear hW4
  replace hbox := (hx34.block _ (lt_of_block hbox)).trans hbox
  replace hres := (hx34.block _ (lt_of_block hres)).trans hres
  replace hsb := (hx34.block _ (lt_of_block hsb)).trans hsb
  replace hown3h := Lib.hid (ORow.ext hown3h.out hx34)
  replace hwo3h := Lib.hid (Wo.ext hwo3h.out hx34)
  have hX4 := hX3.trans hx34
  obtain ⟨B, hB⟩ : ∃ B, w3.heap.size = B := ⟨_, rfl⟩
  rw [hB] at hv3 hl0 hl1 hl2 ⊢
  have hBs : w2.heap.size ≤ B := by rw [← hB]; exact hx3.size
  have hBv : Hid (∀ k, (Value.slice a3 n c3).ownBlock = some k → k < W4.heap.size) := fun k hk => (World.ownsRow.lt hown3h.out k hk).2
  clear hB hx34 y0 y1 y2 y3 u0 u1 u2 u3 x0 x1 x2 hx3
  obtain ⟨X, iX, f, hxS0, hSx0⟩ := letters (fun w' => Ext W4 w') W4 (Ext.refl W4)
  have hxS := Lib.hid hxS0
  have hSx := Lib.hid hSx0
  clear hxS0 hSx0
  have y0 : ∀ x, (f x).cell? ⟨w.heap.size, 0, none⟩ = some (.int .i64 m) := fun x => (hxS.out x).cell (cells_four hbox).1.1
  have y1 : ∀ x, (f x).cell? ⟨w.heap.size, 1, none⟩ = some (.slice a n c) := fun x => (hxS.out x).cell (cells_four hbox).1.2.1
  have y2 : ∀ x, (f x).cell? ⟨w.heap.size, 2, none⟩ = some (.int .i64 came) := fun x => (hxS.out x).cell (cells_four hbox).1.2.2.1
  have y3 : ∀ x, (f x).cell? ⟨w.heap.size, 3, none⟩ = some (.int .i64 dropped) := fun x => (hxS.out x).cell (cells_four hbox).1.2.2.2
  have hcount : Hid (∀ x, Calls Try.prog 23 #[.agg #[.int .i64 m, .slice a n c, .int .i64 came, .int .i64 dropped]] (f x) fun e w'' => e = .returned (.int .i64 (cnt (ws M) : Nat)) ∧ ∃ y, w'' = f y) := fun x =>
    (rcount_calls m a n c came dropped M (f x) (hb.rd.ext (hX4.trans (hxS.out x))) (by have := hb.tot; omega)).mono (fun e w'' ⟨he, hx2⟩ => ⟨he, hSx.out w'' ((hxS.out x).trans hx2)⟩)
  have hq7 : ((cnt (ws M) : Int) == m) = false := by simp [hf]
  refine region_class (fun w' => ∃ x : X, w' = f x) (by kernel_rfl) (by kernel_rfl) (hSx.out _ (Ext.drewN W4 1)) ?_
  repeat (go_big_quiet_step ((go_at_call 23; exact (hcount.out _))))
  refine wpQuiet_nil ?_
  rintro _ ⟨x1, rfl⟩
  have hx4 := hxS.out x1
  obtain ⟨w4, hw4⟩ : ∃ w4, f x1 = w4 := ⟨_, rfl⟩
  rw [hw4] at hx4 ⊢
  replace hbox := (hx4.block _ (lt_of_block hbox)).trans hbox
  replace hres := (hx4.block _ (lt_of_block hres)).trans hres
  replace hsb := (hx4.block _ (lt_of_block hsb)).trans hsb
  replace hv3 := (hx4.block _ (lt_of_block hv3)).trans hv3
  replace hown3h := Lib.hid (ORow.ext hown3h.out hx4)
  replace hwo3h := Lib.hid (Wo.ext hwo3h.out hx4)
  replace hX4 := hX4.trans hx4
  replace hBv : Hid (∀ k, (Value.slice a3 n c3).ownBlock = some k → k < w4.heap.size) := fun k hk => Nat.lt_of_lt_of_le (hBv.out k hk) hx4.size
  clear y0 y1 y2 y3 hcount hxS hSx hw4 hx4
  obtain ⟨⟨y0, y1, y2, y3⟩, ⟨u0, u1, u2, u3⟩⟩ := cells_four hbox
  obtain ⟨x0, x1, x2⟩ := cells_three hsb
  obtain ⟨⟨v0, v1, v2, v3⟩, ⟨d0, d1, d2, d3⟩⟩ := cells_four hv3
  have hlB := lt_of_block hv3
  have hnb := hb.len
  have hlen3 := Lib.hid (show M3.length = n by have h1 := congrArg List.length hws3h.out; unfold ws at h1; rw [List.length_map, List.length_map] at h1; rw [h1]; exact hb.rd.len)
  go_upto_region 11 with fail
  have hx45 := Ext.alloc w4 (.cells #[.int .i64 tim, .int .i64 val, .int .i64 now, .int .i64 came] 50)
  have hp5 := heap_alloc_new w4 (.cells #[.int .i64 tim, .int .i64 val, .int .i64 now, .int .i64 came] 50)
  obtain ⟨w5, hw5⟩ : ∃ w5, w4.alloc (.cells #[.int .i64 tim, .int .i64 val, .int .i64 now, .int .i64 came] 50) = w5 := ⟨_, rfl⟩
  rw [hw5] at hx45 hp5 ⊢
  clear hw5
  obtain ⟨P, hP⟩ : ∃ P, w4.heap.size = P := ⟨_, rfl⟩
  rw [hP] at hp5 hlB ⊢
  have hX5 := hX4.trans hx45
  have hRS : Hid (RS w w5 #[.string ⟨s.toArray⟩, .int .i64 val, .int .i64 tim] #[.int .i64 0, .slice none 0 0, .int .i64 0, .int .i64 0] #[.int .i64 m, .slice a3 n c3, .int .i64 (came + 1), .int .i64 dropped] #[.int .i64 tim, .int .i64 val, .int .i64 now, .int .i64 came] (.slice a3 n c3) w2.heap.size B P M3 [] M3 (.slice none 0 0)) :=
    ⟨(hx45.block _ (lt_of_block hsb)).trans hsb, (hx45.block _ (lt_of_block hres)).trans hres, (hx45.block _ (lt_of_block hv3)).trans hv3, hp5, ORow.ext hown3h.out hx45,
      fun k hk => by have := hBv.out k hk; omega, World.ownsRow_nil _ _ _ _, Wo.ext hwo3h.out hx45, fun x hx he => by have := (World.ownsRow.lt (hwo3h.out.own x hx) _ he).2; omega, hX5, lt_of_block hp5, hX.size, by omega⟩
  clear hx45 hp5 hbox hres hsb hv3 hown3h hwo3h hBv hX4 hX5 hP y0 y1 y2 y3 u0 u1 u2 u3 x0 x1 x2 v0 v1 v2 v3 d0 d1 d2 d3 hX3
  go_wp2_with fail
  go_loopw [11, 12, 13] (fun vo vp vi wr => RaddLoop w #[.string ⟨s.toArray⟩, .int .i64 val, .int .i64 tim] #[.int .i64 0, .slice none 0 0, .int .i64 0, .int .i64 0] #[.int .i64 m, .slice a3 n c3, .int .i64 (came + 1), .int .i64 dropped] #[.int .i64 tim, .int .i64 val, .int .i64 now, .int .i64 came] (.slice a3 n c3) w2.heap.size B P M M3 n s (⟨tim, val, now, came⟩ : Ar) vo vp vi wr) (fun _ _ vi _ => n - (intOf vi).toNat)
  case atStart => exact ⟨0, false, [], none, 0, Nat.zero_le _, rfl, rfl, rfl, Nat.zero_le _, rfl, (fun h => by cases h), hRS.out⟩
  case round =>
    obtain ⟨k, put, out, av, cv, hk, rfl, rfl, rfl, hol, hws, hpt, hS⟩ := hrel
    clear hRS
    by_cases hlt : k < n
    · have S := hS.out
      obtain ⟨⟨y0, y1, y2, y3⟩, _⟩ := cells_four S.xb
      obtain ⟨x0, x1, x2⟩ := cells_three S.sb
      obtain ⟨⟨p0, p1, p2, p3⟩, _⟩ := cells_four S.pb
      have hkM : k < M3.length := by rw [hlen3.out]; exact hlt
      obtain ⟨g, cap, cur, hv, hcur⟩ := own_block S.row (by omega)
      injection hv with e1 e2 e3
      clear e2 e3
      subst e1
      have d0 := own_cell wc_len S.row k hkM 0 _ rfl
      have d1 := own_cell wc_len S.row k hkM 1 _ rfl
      rw [Nat.add_zero] at d0
      have hlx := World.block_lt_of_cell? wr _ y1
      have hls := World.block_lt_of_cell? wr _ x0
      have hlp := World.block_lt_of_cell? wr _ p0
      have hlg := World.block_lt_of_cell? wr _ d0
      have hdr : Hid (M3.drop k = M3[k] :: M3.drop (k + 1)) := List.drop_eq_getElem_cons hkM
      have hct : M3[k].1.2.length ≤ 500 := by
        have h1 := cnt_take_succ M3 k hkM
        have h2 := cnt_take_le M3 (k + 1)
        have h3 : cnt (ws M3) = cnt (ws M) := by rw [hws3h.out]
        omega
      obtain ⟨⟨⟨sp, pts⟩, pa, pn, pc⟩, hMk⟩ : ∃ x, M3[k] = x := ⟨_, rfl⟩
      rw [hMk] at d0 d1 hdr hct
      dsimp only at d0 d1 hct
      rw [hdr.out] at hS
      have hdW : (ws M).drop k = (sp, pts) :: (ws M).drop (k + 1) := by
        rw [← hws3h.out]
        unfold ws
        rw [← List.map_drop, ← List.map_drop, hdr.out]
        rfl
      have hri := hgoodh.out.rising.sublist ((List.drop_sublist k (ws M)).map _)
      rw [hdW] at hri
      have hws2 := hws.out
      have hpt2 := hpt.out
      rw [hdW] at hws2 hpt2
      have hon := hS.out.wo.own ((sp, pts), (pa, pn, pc)) (by simp)
      have hpn : pn = pts.length := by
        obtain ⟨_, _, h1, _⟩ := ORow.row hon
        injection h1
      subst hpn
      have hrih := Lib.hid hri
      have hws2h := Lib.hid hws2
      have hpt2h := Lib.hid hpt2
      clear hri hws2 hpt2 hws hpt hdW hMk hon S hcur
      go_upto_region 17 with fail
      have hx1 := Ext.alloc wr (.cells #[.string ⟨sp.toArray⟩, .slice pa pts.length pc] 59)
      have hbx := heap_alloc_new wr (.cells #[.string ⟨sp.toArray⟩, .slice pa pts.length pc] 59)
      obtain ⟨w1, hw1⟩ : ∃ w1, wr.alloc (.cells #[.string ⟨sp.toArray⟩, .slice pa pts.length pc] 59) = w1 := ⟨_, rfl⟩
      rw [hw1] at hx1 hbx ⊢
      clear hw1
      have hS1 := Lib.hid (hS.out.more hx1)
      have hPb := hS.out.sz
      have hob : Hid ((Value.slice av out.length cv).ownBlock ≠ some wr.heap.size) := fun he => by have := (World.ownsRow.lt hS.out.own _ he).2; omega
      replace x0 := hx1.cell x0
      replace y1 := hx1.cell y1
      replace p0 := hx1.cell p0
      replace p1 := hx1.cell p1
      replace p2 := hx1.cell p2
      replace p3 := hx1.cell p3
      clear x1 x2 y0 y2 y3 d0 d1 hlx hls hlp hlg
      have hlx := World.block_lt_of_cell? w1 _ y1
      have hls := World.block_lt_of_cell? w1 _ x0
      have hlp := World.block_lt_of_cell? w1 _ p0
      have hlb := lt_of_block hbx
      have b0 : w1.cell? ⟨wr.heap.size, 0, none⟩ = some (.string ⟨sp.toArray⟩) := by simp [World.cell?, hbx]
      have b1 : w1.cell? ⟨wr.heap.size, 1, none⟩ = some (.slice pa pts.length pc) := by simp [World.cell?, hbx]
      by_cases hps : sp = s
      · have hps2 : s = sp := hps.symm
        clear hps
        subst hps2
        have hne2 : (s == s) = true := by simp
        obtain ⟨hput, hr1, hr2⟩ := restW_found (p := (⟨tim, val, now, came⟩ : Ar)) (put := put) (x := (s, pts)) rfl hpt2h.out hrih.out
        subst hput
        have hr1h := Lib.hid hr1
        have hr2h := Lib.hid hr2
        clear hr1 hr2
        have hx2 := Ext.alloc w1 (.cells #[.int .i64 tim, .int .i64 val, .int .i64 now, .int .i64 came] 50)
        have hS2 := Lib.hid (hS1.out.more hx2)
        have hown2 := Lib.hid (hS2.out.wo.own ((s, pts), (pa, pts.length, pc)) (by simp))
        have hsrc2 : Hid (Sl (w1.alloc (.cells #[.int .i64 tim, .int .i64 val, .int .i64 now, .int .i64 came] 50)) (some ⟨w1.heap.size, 0, none⟩) 1 1 4 (ac (⟨tim, val, now, came⟩ : Ar))) := sl_block (heap_alloc_new _ _) rfl (by decide)
        have hbx2 := Lib.hid ((hx2.block _ hlb).trans hbx)
        have hz1 : Hid ((pts.length + 1) * 32 ≤ 140737488355328) := by show _ ≤ _; omega
        have hz2 : Hid (pts.length + 1 ≤ maxLen) := by show _ ≤ _; unfold maxLen; omega
        have hz3 : Hid (w2.heap.size ≤ (w1.alloc (.cells #[.int .i64 tim, .int .i64 val, .int .i64 now, .int .i64 came] 50)).heap.size) := by show _ ≤ _; have := hS2.out.sz; have := hS2.out.hp; omega
        go_upto_region 23 with (at_builtin; refine wpList_append_sl_at rfl _ _ 46 rfl w2.heap.size 50 Try.underlying46 infoAr rfl (by decide) _ _ _ rfl hown2.out _ _ _ (ac (⟨tim, val, now, came⟩ : Ar)) rfl hsrc2.out (by intro u hu; simp [ac] at hu; rcases hu with rfl | rfl | rfl | rfl <;> rfl) hz1.out hz2.out hz3.out ?_; intro v8 w8 hown8 hgrow8 hat8; obtain ⟨a8, c8, hv8, _⟩ := Sl.of_owns hown8; subst hv8; have hb8 := block_beside hown2.out hgrow8 hbx2.out (by decide); have g80 : w8.cell? ⟨wr.heap.size, 0, none⟩ = some (.string ⟨s.toArray⟩) := (by simp [World.cell?, hb8]); have g81 : w8.cell? ⟨wr.heap.size, 1, none⟩ = some (.slice pa pts.length pc) := (by simp [World.cell?, hb8]); have f81 : w8.frozen? ⟨wr.heap.size, 1, none⟩ = false := (by simp [World.frozen?, hb8]))
        have hS8 : Hid (RS w w8 #[.string ⟨s.toArray⟩, .int .i64 val, .int .i64 tim] #[.int .i64 0, .slice none 0 0, .int .i64 0, .int .i64 0] #[.int .i64 m, .slice (some ⟨g, 0, none⟩) n c3, .int .i64 (came + 1), .int .i64 dropped] #[.int .i64 tim, .int .i64 val, .int .i64 now, .int .i64 came] (.slice (some ⟨g, 0, none⟩) n c3) w2.heap.size B P M3 out (((s, pts ++ [(⟨tim, val, now, came⟩ : Ar)]), (a8, pts.length + 1, c8)) :: M3.drop (k + 1)) (.slice av out.length cv)) :=
          hS2.out.replace (x' := ((s, pts ++ [(⟨tim, val, now, came⟩ : Ar)]), (a8, pts.length + 1, c8))) (by
            show ORow ac 4 w8 w2.heap.size 50 (.slice a8 (pts.length + 1) c8) (pts ++ [(⟨tim, val, now, came⟩ : Ar)])
            unfold ORow
            rw [rcells_append, show rcells ac [((⟨tim, val, now, came⟩ : Ar) : Ar)] = ac (⟨tim, val, now, came⟩ : Ar) by simp [rcells], List.length_append]
            exact hown8) hgrow8 hat8
        have hS9 := Lib.hid (hS8.out.boxed hb8 hPb hob.out 1 (.slice a8 (pts.length + 1) c8))
        have hb9 := at_setCell hb8 1 (.slice a8 (pts.length + 1) c8)
        replace hb9 : (w8.setCell ⟨wr.heap.size, 1, none⟩ (.slice a8 (pts.length + 1) c8)).heap[wr.heap.size]? = some (.cells #[.string ⟨s.toArray⟩, .slice a8 (pts.length + 1) c8] 59 (0, 0)) := by simpa using hb9
        obtain ⟨w9, hw9⟩ : ∃ w9, w8.setCell ⟨wr.heap.size, 1, none⟩ (.slice a8 (pts.length + 1) c8) = w9 := ⟨_, rfl⟩
        rw [hw9] at hS9 hb9 ⊢
        clear hw9 hS8 hb8 g80 g81 f81 hat8 hgrow8 hown8 hz1 hz2 hz3 hbx2 hsrc2 hown2 hS2 hx2 b0 b1 hlb hlp hls hlx x0 y1 p0 p1 p2 p3
        have b0 : w9.cell? ⟨wr.heap.size, 0, none⟩ = some (.string ⟨s.toArray⟩) := by simp [World.cell?, hb9]
        have b1 : w9.cell? ⟨wr.heap.size, 1, none⟩ = some (.slice a8 (pts.length + 1) c8) := by simp [World.cell?, hb9]
        have hx10 := Ext.alloc w9 (.cells #[.string ⟨s.toArray⟩, .slice a8 (pts.length + 1) c8] 59)
        have hS10 := Lib.hid (hS9.out.more hx10)
        have hown10 : Hid (ORow wc 2 (w9.alloc (.cells #[.string ⟨s.toArray⟩, .slice a8 (pts.length + 1) c8] 59)) (P + 1) 59 (.slice av (out).length cv) (out)) := hS10.out.own
        have hsrc10 : Hid (Sl (w9.alloc (.cells #[.string ⟨s.toArray⟩, .slice a8 (pts.length + 1) c8] 59)) (some ⟨w9.heap.size, 0, none⟩) 1 1 2 (wc ((s, pts ++ [(⟨tim, val, now, came⟩ : Ar)]), (a8, pts.length + 1, c8)))) := sl_block (heap_alloc_new _ _) rfl (by decide)
        have hz4 : Hid (((out).length + 1) * 40 ≤ 140737488355328) := by show _ ≤ _; have := hol.out; have := hb.len; (try simp only [List.length_append, List.length_cons, List.length_nil]); omega
        have hz5 : Hid ((out).length + 1 ≤ maxLen) := by show _ ≤ _; have := hol.out; have := hb.len; unfold maxLen; (try simp only [List.length_append, List.length_cons, List.length_nil]); omega
        have hz6 : Hid (P + 1 ≤ (w9.alloc (.cells #[.string ⟨s.toArray⟩, .slice a8 (pts.length + 1) c8] 59)).heap.size) := hS10.out.sz
        go_wp2_with (at_builtin; refine wpList_append_sl rfl _ _ 22 rfl (P + 1) 59 Try.underlying22 infoWt rfl (by decide) _ _ _ rfl hown10.out _ _ _ _ rfl hsrc10.out (wc_one1 _) hz4.out hz5.out hz6.out ?_; intro v11 w11 hown11 hgrow11; obtain ⟨a11, c11, hv11, _⟩ := Sl.of_owns hown11; subst hv11)
        have hnl : (out).length + 1 = (out ++ [(((s, pts ++ [(⟨tim, val, now, came⟩ : Ar)]), (a8, pts.length + 1, c8)) : Wh)]).length := by simp
        have hS11 := hS10.out.snoc hown11 hgrow11
        go_roundw
        case rel =>
          refine ⟨k + 1, true, out ++ [((s, pts ++ [(⟨tim, val, now, came⟩ : Ar)]), (a8, pts.length + 1, c8))], a11, c11, by omega, by go_num, rfl, by rw [← hnl], ?_, ?_, fun _ => hr2h.out, ?_⟩
          · show _ ≤ _
            have := hol.out
            rw [← hnl]; omega
          · show _ = _
            have h1 := hws2h.out
            rw [hr1h.out] at h1
            rw [← h1]
            simp [ws]
          · rw [← hnl]
            exact hS11
        case measure => simp [intOf]; omega
      · have hne2 : (sp == s) = false := by simp [hps]
        cases put with
        | true =>
          go_upto_region 23 with fail
          have hS9 := hS1
          have hx10 := Ext.alloc w1 (.cells #[.string ⟨sp.toArray⟩, .slice pa pts.length pc] 59)
          have hS10 := Lib.hid (hS9.out.more hx10)
          have hown10 : Hid (ORow wc 2 (w1.alloc (.cells #[.string ⟨sp.toArray⟩, .slice pa pts.length pc] 59)) (P + 1) 59 (.slice av (out).length cv) (out)) := hS10.out.own
          have hsrc10 : Hid (Sl (w1.alloc (.cells #[.string ⟨sp.toArray⟩, .slice pa pts.length pc] 59)) (some ⟨w1.heap.size, 0, none⟩) 1 1 2 (wc ((sp, pts), (pa, pts.length, pc)))) := sl_block (heap_alloc_new _ _) rfl (by decide)
          have hz4 : Hid (((out).length + 1) * 40 ≤ 140737488355328) := by show _ ≤ _; have := hol.out; have := hb.len; (try simp only [List.length_append, List.length_cons, List.length_nil]); omega
          have hz5 : Hid ((out).length + 1 ≤ maxLen) := by show _ ≤ _; have := hol.out; have := hb.len; unfold maxLen; (try simp only [List.length_append, List.length_cons, List.length_nil]); omega
          have hz6 : Hid (P + 1 ≤ (w1.alloc (.cells #[.string ⟨sp.toArray⟩, .slice pa pts.length pc] 59)).heap.size) := hS10.out.sz
          go_wp2_with (at_builtin; refine wpList_append_sl rfl _ _ 22 rfl (P + 1) 59 Try.underlying22 infoWt rfl (by decide) _ _ _ rfl hown10.out _ _ _ _ rfl hsrc10.out (wc_one1 _) hz4.out hz5.out hz6.out ?_; intro v11 w11 hown11 hgrow11; obtain ⟨a11, c11, hv11, _⟩ := Sl.of_owns hown11; subst hv11)
          have hnl : (out).length + 1 = (out ++ [(((sp, pts), (pa, pts.length, pc)) : Wh)]).length := by simp
          have hS11 := hS10.out.snoc hown11 hgrow11
          go_roundw
          case rel =>
            refine ⟨k + 1, true, out ++ [((sp, pts), (pa, pts.length, pc))], a11, c11, by omega, by go_num, rfl, (by rw [← hnl]; try simp), ?_, ?_, fun _ y hy => hpt2h.out rfl y (by simp [hy]), ?_⟩
            · show _ ≤ _
              have := hol.out
              (try simp only [List.length_append, List.length_cons, List.length_nil])
              omega
            · show _ = _
              have h1 := hws2h.out
              rw [restW_put] at h1
              rw [← h1]
              simp [ws]
            · rw [← hnl]
              exact hS11
          case measure => simp [intOf]; omega
        | false =>
          cases hbl : bl s sp with
          | false =>
            have hbl1 : Op.bytesLess sp s = true := by
              rcases bl_total sp s with h | h | h
              · exact h
              · exact absurd h hps
              · rw [hbl] at h; cases h
            have hlaw := Lib.hid (restW_past (p := (⟨tim, val, now, came⟩ : Ar)) (x := (sp, pts)) (r := (ws M).drop (k + 1)) hps hbl)
            clear hbl
            go_upto_region 23 with fail
            have hS9 := hS1
            have hx10 := Ext.alloc w1 (.cells #[.string ⟨sp.toArray⟩, .slice pa pts.length pc] 59)
            have hS10 := Lib.hid (hS9.out.more hx10)
            have hown10 : Hid (ORow wc 2 (w1.alloc (.cells #[.string ⟨sp.toArray⟩, .slice pa pts.length pc] 59)) (P + 1) 59 (.slice av (out).length cv) (out)) := hS10.out.own
            have hsrc10 : Hid (Sl (w1.alloc (.cells #[.string ⟨sp.toArray⟩, .slice pa pts.length pc] 59)) (some ⟨w1.heap.size, 0, none⟩) 1 1 2 (wc ((sp, pts), (pa, pts.length, pc)))) := sl_block (heap_alloc_new _ _) rfl (by decide)
            have hz4 : Hid (((out).length + 1) * 40 ≤ 140737488355328) := by show _ ≤ _; have := hol.out; have := hb.len; (try simp only [List.length_append, List.length_cons, List.length_nil]); omega
            have hz5 : Hid ((out).length + 1 ≤ maxLen) := by show _ ≤ _; have := hol.out; have := hb.len; unfold maxLen; (try simp only [List.length_append, List.length_cons, List.length_nil]); omega
            have hz6 : Hid (P + 1 ≤ (w1.alloc (.cells #[.string ⟨sp.toArray⟩, .slice pa pts.length pc] 59)).heap.size) := hS10.out.sz
            go_wp2_with (at_builtin; refine wpList_append_sl rfl _ _ 22 rfl (P + 1) 59 Try.underlying22 infoWt rfl (by decide) _ _ _ rfl hown10.out _ _ _ _ rfl hsrc10.out (wc_one1 _) hz4.out hz5.out hz6.out ?_; intro v11 w11 hown11 hgrow11; obtain ⟨a11, c11, hv11, _⟩ := Sl.of_owns hown11; subst hv11)
            have hnl : (out).length + 1 = (out ++ [(((sp, pts), (pa, pts.length, pc)) : Wh)]).length := by simp
            have hS11 := hS10.out.snoc hown11 hgrow11
            go_roundw
            case rel =>
              refine ⟨k + 1, false, out ++ [((sp, pts), (pa, pts.length, pc))], a11, c11, by omega, by go_num, rfl, (by rw [← hnl]; try simp), ?_, ?_, (fun h => by cases h), ?_⟩
              · show _ ≤ _
                have := hol.out
                (try simp only [List.length_append, List.length_cons, List.length_nil])
                omega
              · show _ = _
                have h1 := hws2h.out
                rw [hlaw.out] at h1
                rw [← h1]
                simp [ws]
              · rw [← hnl]
                exact hS11
            case measure => simp [intOf]; omega
          | true =>
            have hbl1 : Op.bytesLess sp s = false := bl_asymm _ _ hbl
            obtain ⟨hr1, hr2⟩ := restW_before (p := (⟨tim, val, now, came⟩ : Ar)) (x := (sp, pts)) hps hbl hrih.out
            have hr1h := Lib.hid hr1
            have hr2h := Lib.hid hr2
            clear hr1 hr2 hbl
            have hxA := Ext.alloc w1 (.cells #[.int .i64 tim, .int .i64 val, .int .i64 now, .int .i64 came] 50)
            have hoA : Hid (ORow ac 4 (w1.alloc (.cells #[.int .i64 tim, .int .i64 val, .int .i64 now, .int .i64 came] 50)) w1.heap.size 50 (.slice (some ⟨w1.heap.size, 0, none⟩) 1 1) [(⟨tim, val, now, came⟩ : Ar)]) := World.ownsRow_lit w1 #[.int .i64 tim, .int .i64 val, .int .i64 now, .int .i64 came] 1 (Nat.le_refl _) (by decide) rfl
            have hSA := Lib.hid (hS1.out.insert hxA (x := ((s, [(⟨tim, val, now, came⟩ : Ar)]), (some ⟨w1.heap.size, 0, none⟩, 1, 1))) hoA.out)
            have hxB := Ext.alloc (w1.alloc (.cells #[.int .i64 tim, .int .i64 val, .int .i64 now, .int .i64 came] 50)) (.cells #[.string ⟨s.toArray⟩, .slice (some ⟨w1.heap.size, 0, none⟩) 1 1] 59)
            have hSB := Lib.hid (hSA.out.more hxB)
            have hownB := Lib.hid hSB.out.own
            have hsrcB : Hid (Sl ((w1.alloc (.cells #[.int .i64 tim, .int .i64 val, .int .i64 now, .int .i64 came] 50)).alloc (.cells #[.string ⟨s.toArray⟩, .slice (some ⟨w1.heap.size, 0, none⟩) 1 1] 59)) (some ⟨w1.heap.size + 1, 0, none⟩) 1 1 2 (wc ((s, [(⟨tim, val, now, came⟩ : Ar)]), (some ⟨w1.heap.size, 0, none⟩, 1, 1)))) := by
              have h1 := sl_block (n := 1) (s := 2) (cs := wc ((s, [(⟨tim, val, now, came⟩ : Ar)]), (some ⟨w1.heap.size, 0, none⟩, 1, 1))) (heap_alloc_new (w1.alloc (.cells #[.int .i64 tim, .int .i64 val, .int .i64 now, .int .i64 came] 50)) (.cells #[.string ⟨s.toArray⟩, .slice (some ⟨w1.heap.size, 0, none⟩) 1 1] 59)) rfl (by decide)
              rw [show (w1.alloc (.cells #[.int .i64 tim, .int .i64 val, .int .i64 now, .int .i64 came] 50)).heap.size = w1.heap.size + 1 by simp] at h1
              exact h1
            have hz1 : Hid ((out.length + 1) * 40 ≤ 140737488355328) := by show _ ≤ _; have := hol.out; omega
            have hz2 : Hid (out.length + 1 ≤ maxLen) := by show _ ≤ _; have := hol.out; unfold maxLen; omega
            have hz3 : Hid (P + 1 ≤ ((w1.alloc (.cells #[.int .i64 tim, .int .i64 val, .int .i64 now, .int .i64 came] 50)).alloc (.cells #[.string ⟨s.toArray⟩, .slice (some ⟨w1.heap.size, 0, none⟩) 1 1] 59)).heap.size) := hSB.out.sz
            have hbxB := Lib.hid (((hxA.trans hxB).block _ hlb).trans hbx)
            go_upto_region 23 with (at_builtin; refine wpList_append_sl rfl _ _ 22 rfl (P + 1) 59 Try.underlying22 infoWt rfl (by decide) _ _ _ rfl hownB.out _ _ _ _ rfl hsrcB.out (wc_one1 _) hz1.out hz2.out hz3.out ?_; intro v8 w8 hown8 hgrow8; obtain ⟨a8, c8, hv8, _⟩ := Sl.of_owns hown8; subst hv8)
            have hS8 := Lib.hid (hSB.out.snoc hown8 hgrow8)
            have hon8 : out.length + 1 = (out ++ [(((s, [(⟨tim, val, now, came⟩ : Ar)]), (some ⟨w1.heap.size, 0, none⟩, 1, 1)) : Wh)]).length := by simp
            have hb8 := (hgrow8.block _ (lt_of_block hbxB.out) (Ne.symm hob.out)).trans hbxB.out
            rw [hon8] at hS8 ⊢
            have b80 : w8.cell? ⟨wr.heap.size, 0, none⟩ = some (.string ⟨sp.toArray⟩) := by simp [World.cell?, hb8]
            have b81 : w8.cell? ⟨wr.heap.size, 1, none⟩ = some (.slice pa pts.length pc) := by simp [World.cell?, hb8]
            have hS9 := hS8
            clear hown8 hgrow8 hz1 hz2 hz3 hbxB hsrcB hownB hSB hxB hSA hoA hxA b0 b1 hlb hlp hls hlx x0 y1 p0 p1 p2 p3 hbl1 hon8
            have hx10 := Ext.alloc w8 (.cells #[.string ⟨sp.toArray⟩, .slice pa pts.length pc] 59)
            have hS10 := Lib.hid (hS9.out.more hx10)
            have hown10 : Hid (ORow wc 2 (w8.alloc (.cells #[.string ⟨sp.toArray⟩, .slice pa pts.length pc] 59)) (P + 1) 59 (.slice a8 ((out ++ [(((s, [(⟨tim, val, now, came⟩ : Ar)]), (some ⟨w1.heap.size, 0, none⟩, 1, 1)) : Wh)])).length c8) ((out ++ [(((s, [(⟨tim, val, now, came⟩ : Ar)]), (some ⟨w1.heap.size, 0, none⟩, 1, 1)) : Wh)]))) := hS10.out.own
            have hsrc10 : Hid (Sl (w8.alloc (.cells #[.string ⟨sp.toArray⟩, .slice pa pts.length pc] 59)) (some ⟨w8.heap.size, 0, none⟩) 1 1 2 (wc ((sp, pts), (pa, pts.length, pc)))) := sl_block (heap_alloc_new _ _) rfl (by decide)
            have hz4 : Hid ((((out ++ [(((s, [(⟨tim, val, now, came⟩ : Ar)]), (some ⟨w1.heap.size, 0, none⟩, 1, 1)) : Wh)])).length + 1) * 40 ≤ 140737488355328) := by show _ ≤ _; have := hol.out; have := hb.len; (try simp only [List.length_append, List.length_cons, List.length_nil]); omega
            have hz5 : Hid (((out ++ [(((s, [(⟨tim, val, now, came⟩ : Ar)]), (some ⟨w1.heap.size, 0, none⟩, 1, 1)) : Wh)])).length + 1 ≤ maxLen) := by show _ ≤ _; have := hol.out; have := hb.len; unfold maxLen; (try simp only [List.length_append, List.length_cons, List.length_nil]); omega
            have hz6 : Hid (P + 1 ≤ (w8.alloc (.cells #[.string ⟨sp.toArray⟩, .slice pa pts.length pc] 59)).heap.size) := hS10.out.sz
            go_wp2_with (at_builtin; refine wpList_append_sl rfl _ _ 22 rfl (P + 1) 59 Try.underlying22 infoWt rfl (by decide) _ _ _ rfl hown10.out _ _ _ _ rfl hsrc10.out (wc_one1 _) hz4.out hz5.out hz6.out ?_; intro v11 w11 hown11 hgrow11; obtain ⟨a11, c11, hv11, _⟩ := Sl.of_owns hown11; subst hv11)
            have hnl : ((out ++ [(((s, [(⟨tim, val, now, came⟩ : Ar)]), (some ⟨w1.heap.size, 0, none⟩, 1, 1)) : Wh)])).length + 1 = ((out ++ [(((s, [(⟨tim, val, now, came⟩ : Ar)]), (some ⟨w1.heap.size, 0, none⟩, 1, 1)) : Wh)]) ++ [(((sp, pts), (pa, pts.length, pc)) : Wh)]).length := by simp
            have hS11 := hS10.out.snoc hown11 hgrow11
            go_roundw
            case rel =>
              refine ⟨k + 1, true, out ++ [((s, [(⟨tim, val, now, came⟩ : Ar)]), (some ⟨w1.heap.size, 0, none⟩, 1, 1))] ++ [((sp, pts), (pa, pts.length, pc))], a11, c11, by omega, by go_num, rfl, (by rw [← hnl]; try simp), ?_, ?_, fun _ => hr2h.out, ?_⟩
              · show _ ≤ _
                have := hol.out
                (try simp only [List.length_append, List.length_cons, List.length_nil])
                omega
              · show _ = _
                have h1 := hws2h.out
                rw [hr1h.out] at h1
                rw [← h1]
                simp [ws]
              · rw [← hnl]
                exact hS11
            case measure => simp [intOf]; omega

    · have hkn : n = k := by omega
      have hd1 : M3.drop k = [] := List.drop_of_length_le (by rw [hlen3.out]; omega)
      have hd2 : (ws M).drop k = [] := List.drop_of_length_le (by rw [← hws3h.out]; unfold ws; rw [List.length_map, hlen3.out]; omega)
      have hws2 := hws.out
      rw [hd2] at hws2
      rw [hd1] at hS
      clear hd1 hd2 hws hpt hkn
      have S := hS.out
      obtain ⟨⟨y0, y1, y2, y3⟩, _⟩ := cells_four S.xb
      obtain ⟨x0, x1, x2⟩ := cells_three S.sb
      obtain ⟨⟨p0, p1, p2, p3⟩, _⟩ := cells_four S.pb
      have hlx := World.block_lt_of_cell? wr _ y1
      have hls := World.block_lt_of_cell? wr _ x0
      have hlp := World.block_lt_of_cell? wr _ p0
      obtain ⟨wo, hwo⟩ : ∃ wo : World, wr = wo := ⟨_, rfl⟩
      rw [hwo] at hS y0 y1 y2 y3 x0 x1 x2 p0 p1 p2 p3 hlx hls hlp ⊢
      clear S hwo
      cases put with
      | true =>
        have hws3 : Hid (ws out = addW s (⟨tim, val, now, came⟩ : Ar) (ws M)) := by show _ = _; rw [← hws2]; simp [restW]
        clear hws2
        go_upto_region 26 with fail
        have hS9 := hS
        clear x0 x1 x2 y0 y1 y2 y3 p0 p1 p2 p3 hlx hls hlp
        have S9 := hS9.out
        have hres9 := S9.res
        have hxb9 := S9.xb
        have hown9 := Lib.hid S9.own
        have hwo9 := Lib.hid S9.wo
        have hX9 := S9.ext
        obtain ⟨⟨v0, v1, v2, v3⟩, ⟨d0, d1, d2, d3⟩⟩ := cells_four hxb9
        obtain ⟨⟨z0, z1, z2, z3⟩, ⟨f0, f1, f2, f3⟩⟩ := cells_four hres9
        have hlB := lt_of_block hxb9
        have hlR := lt_of_block hres9
        clear S9
        go_wp2_with fail
        have hg5 := put_grownBy wo B 1 (.slice av out.length cv)
        have hres5 := (hg5.block _ hlR (by simp; omega)).trans hres9
        have hX5 := hX9.grown hg5 (fun k e => by cases e; omega)
        have hown5 := owns_beside hown9.out (owns_other hown9.out hxb9 (by decide)) hg5
        have hwo5 := Wo.beside hwo9.out hxb9 (by decide) hg5
        have hw9 : put4 (wo.setCell ⟨B, 1, none⟩ (.slice av out.length cv)) (w.heap.size + 1 + 1) (.int .i64 m) (.slice av out.length cv) (.int .i64 (came + 1)) (.int .i64 dropped) = ((((wo.setCell ⟨B, 1, none⟩ (.slice av out.length cv)).setCell ⟨w.heap.size + 1 + 1, 0, none⟩ (.int .i64 m)).setCell ⟨w.heap.size + 1 + 1, 1, none⟩ (.slice av out.length cv)).setCell ⟨w.heap.size + 1 + 1, 2, none⟩ (.int .i64 (came + 1))).setCell ⟨w.heap.size + 1 + 1, 3, none⟩ (.int .i64 dropped) := rfl
        have hg9 := put4_grownBy (wo.setCell ⟨B, 1, none⟩ (.slice av out.length cv)) (w.heap.size + 1 + 1) (.int .i64 m) (.slice av out.length cv) (.int .i64 (came + 1)) (.int .i64 dropped)
        have hh9 := put4_block hres5 (.int .i64 m) (.slice av out.length cv) (.int .i64 (came + 1)) (.int .i64 dropped)
        rw [← hw9]
        obtain ⟨w9, hw9e⟩ : ∃ w9, put4 (wo.setCell ⟨B, 1, none⟩ (.slice av out.length cv)) (w.heap.size + 1 + 1) (.int .i64 m) (.slice av out.length cv) (.int .i64 (came + 1)) (.int .i64 dropped) = w9 := ⟨_, rfl⟩
        rw [hw9e] at hg9 hh9 ⊢
        obtain ⟨⟨q0, q1, q2, q3⟩, _⟩ := cells_four hh9
        refine bodyPost_ret (v := .tuple #[.agg #[.int .i64 m, .slice av out.length cv, .int .i64 (came + 1), .int .i64 dropped], .bool true, .int .i64 0]) (by simp [results, Try.results12, go_sem, q0, q1, q2, q3]) rfl ?_
        have hX6 := hX5.grown hg9 (fun k e => by cases e; omega)
        have hown6 := owns_beside hown5 (owns_other hown5 hres5 (by decide)) hg9
        have hwo6 := Wo.beside hwo5 hres5 (by decide) hg9
        rw [List.append_nil] at hwo6
        exact ⟨_, _, _, out, rfl, hwo6.ws hown6, hws3.out, hX6⟩

      | false =>
        have hws3 : Hid (ws out ++ [(s, [(⟨tim, val, now, came⟩ : Ar)])] = addW s (⟨tim, val, now, came⟩ : Ar) (ws M)) := by show _ = _; rw [← hws2]; simp [restW, addW]
        clear hws2
        have hxA := Ext.alloc wo (.cells #[.int .i64 tim, .int .i64 val, .int .i64 now, .int .i64 came] 50)
        have hoA : Hid (ORow ac 4 (wo.alloc (.cells #[.int .i64 tim, .int .i64 val, .int .i64 now, .int .i64 came] 50)) wo.heap.size 50 (.slice (some ⟨wo.heap.size, 0, none⟩) 1 1) [(⟨tim, val, now, came⟩ : Ar)]) := World.ownsRow_lit wo #[.int .i64 tim, .int .i64 val, .int .i64 now, .int .i64 came] 1 (Nat.le_refl _) (by decide) rfl
        have hSA := Lib.hid (hS.out.insert hxA (x := ((s, [(⟨tim, val, now, came⟩ : Ar)]), (some ⟨wo.heap.size, 0, none⟩, 1, 1))) hoA.out)
        have hxB := Ext.alloc (wo.alloc (.cells #[.int .i64 tim, .int .i64 val, .int .i64 now, .int .i64 came] 50)) (.cells #[.string ⟨s.toArray⟩, .slice (some ⟨wo.heap.size, 0, none⟩) 1 1] 59)
        have hSB := Lib.hid (hSA.out.more hxB)
        have hownB := Lib.hid hSB.out.own
        have hsrcB : Hid (Sl ((wo.alloc (.cells #[.int .i64 tim, .int .i64 val, .int .i64 now, .int .i64 came] 50)).alloc (.cells #[.string ⟨s.toArray⟩, .slice (some ⟨wo.heap.size, 0, none⟩) 1 1] 59)) (some ⟨wo.heap.size + 1, 0, none⟩) 1 1 2 (wc ((s, [(⟨tim, val, now, came⟩ : Ar)]), (some ⟨wo.heap.size, 0, none⟩, 1, 1)))) := by
          have h1 := sl_block (n := 1) (s := 2) (cs := wc ((s, [(⟨tim, val, now, came⟩ : Ar)]), (some ⟨wo.heap.size, 0, none⟩, 1, 1))) (heap_alloc_new (wo.alloc (.cells #[.int .i64 tim, .int .i64 val, .int .i64 now, .int .i64 came] 50)) (.cells #[.string ⟨s.toArray⟩, .slice (some ⟨wo.heap.size, 0, none⟩) 1 1] 59)) rfl (by decide)
          rw [show (wo.alloc (.cells #[.int .i64 tim, .int .i64 val, .int .i64 now, .int .i64 came] 50)).heap.size = wo.heap.size + 1 by simp] at h1
          exact h1
        have hz1 : Hid ((out.length + 1) * 40 ≤ 140737488355328) := by show _ ≤ _; have := hol.out; omega
        have hz2 : Hid (out.length + 1 ≤ maxLen) := by show _ ≤ _; have := hol.out; unfold maxLen; omega
        have hz3 : Hid (P + 1 ≤ ((wo.alloc (.cells #[.int .i64 tim, .int .i64 val, .int .i64 now, .int .i64 came] 50)).alloc (.cells #[.string ⟨s.toArray⟩, .slice (some ⟨wo.heap.size, 0, none⟩) 1 1] 59)).heap.size) := hSB.out.sz
        go_upto_region 26 with (at_builtin; refine wpList_append_sl rfl _ _ 22 rfl (P + 1) 59 Try.underlying22 infoWt rfl (by decide) _ _ _ rfl hownB.out _ _ _ _ rfl hsrcB.out (wc_one1 _) hz1.out hz2.out hz3.out ?_; intro v8 w8 hown8 hgrow8; obtain ⟨a8, c8, hv8, _⟩ := Sl.of_owns hown8; subst hv8)
        have hS9 := Lib.hid (hSB.out.snoc hown8 hgrow8)
        have hon8 : out.length + 1 = (out ++ [(((s, [(⟨tim, val, now, came⟩ : Ar)]), (some ⟨wo.heap.size, 0, none⟩, 1, 1)) : Wh)]).length := by simp
        rw [hon8] at hS9 ⊢
        obtain ⟨out2, hout2⟩ : ∃ o, out ++ [(((s, [(⟨tim, val, now, came⟩ : Ar)]), (some ⟨wo.heap.size, 0, none⟩, 1, 1)) : Wh)] = o := ⟨_, rfl⟩
        have hws4 : Hid (ws out2 = addW s (⟨tim, val, now, came⟩ : Ar) (ws M)) := by show _ = _; rw [← hws3.out, ← hout2]; simp [ws]
        rw [hout2] at hS9 ⊢
        clear hown8 hgrow8 hz1 hz2 hz3 hsrcB hownB hSB hxB hSA hoA hxA hlp hls hlx x0 x1 x2 y0 y1 y2 y3 p0 p1 p2 p3 hon8 hout2 hws3
        have S9 := hS9.out
        have hres9 := S9.res
        have hxb9 := S9.xb
        have hown9 := Lib.hid S9.own
        have hwo9 := Lib.hid S9.wo
        have hX9 := S9.ext
        obtain ⟨⟨v0, v1, v2, v3⟩, ⟨d0, d1, d2, d3⟩⟩ := cells_four hxb9
        obtain ⟨⟨z0, z1, z2, z3⟩, ⟨f0, f1, f2, f3⟩⟩ := cells_four hres9
        have hlB := lt_of_block hxb9
        have hlR := lt_of_block hres9
        clear S9
        go_wp2_with fail
        have hg5 := put_grownBy w8 B 1 (.slice a8 out2.length c8)
        have hres5 := (hg5.block _ hlR (by simp; omega)).trans hres9
        have hX5 := hX9.grown hg5 (fun k e => by cases e; omega)
        have hown5 := owns_beside hown9.out (owns_other hown9.out hxb9 (by decide)) hg5
        have hwo5 := Wo.beside hwo9.out hxb9 (by decide) hg5
        have hw9 : put4 (w8.setCell ⟨B, 1, none⟩ (.slice a8 out2.length c8)) (w.heap.size + 1 + 1) (.int .i64 m) (.slice a8 out2.length c8) (.int .i64 (came + 1)) (.int .i64 dropped) = ((((w8.setCell ⟨B, 1, none⟩ (.slice a8 out2.length c8)).setCell ⟨w.heap.size + 1 + 1, 0, none⟩ (.int .i64 m)).setCell ⟨w.heap.size + 1 + 1, 1, none⟩ (.slice a8 out2.length c8)).setCell ⟨w.heap.size + 1 + 1, 2, none⟩ (.int .i64 (came + 1))).setCell ⟨w.heap.size + 1 + 1, 3, none⟩ (.int .i64 dropped) := rfl
        have hg9 := put4_grownBy (w8.setCell ⟨B, 1, none⟩ (.slice a8 out2.length c8)) (w.heap.size + 1 + 1) (.int .i64 m) (.slice a8 out2.length c8) (.int .i64 (came + 1)) (.int .i64 dropped)
        have hh9 := put4_block hres5 (.int .i64 m) (.slice a8 out2.length c8) (.int .i64 (came + 1)) (.int .i64 dropped)
        rw [← hw9]
        obtain ⟨w9, hw9e⟩ : ∃ w9, put4 (w8.setCell ⟨B, 1, none⟩ (.slice a8 out2.length c8)) (w.heap.size + 1 + 1) (.int .i64 m) (.slice a8 out2.length c8) (.int .i64 (came + 1)) (.int .i64 dropped) = w9 := ⟨_, rfl⟩
        rw [hw9e] at hg9 hh9 ⊢
        obtain ⟨⟨q0, q1, q2, q3⟩, _⟩ := cells_four hh9
        refine bodyPost_ret (v := .tuple #[.agg #[.int .i64 m, .slice a8 out2.length c8, .int .i64 (came + 1), .int .i64 dropped], .bool true, .int .i64 0]) (by simp [results, Try.results12, go_sem, q0, q1, q2, q3]) rfl ?_
        have hX6 := hX5.grown hg9 (fun k e => by cases e; omega)
        have hown6 := owns_beside hown5 (owns_other hown5 hres5 (by decide)) hg9
        have hwo6 := Wo.beside hwo5 hres5 (by decide) hg9
        rw [List.append_nil] at hwo6
        exact ⟨_, _, _, out2, rfl, hwo6.ws hown6, hws4.out, hX6⟩




theorem radd_calls (m : Int) (a : Option Addr) (n c : Nat) (came dropped : Int) (M : List Wh) (s : List UInt8) (val tim now : Int) (w : World) (hb : Cw w a n c M) (hs : s.length ≤ 140737488355328) :
    Calls Try.prog 12 #[cav m a n c came dropped, .agg #[.string ⟨s.toArray⟩, .int .i64 val, .int .i64 tim], .int .i64 now] w (RaddPost m (addC ⟨m, ws M, came, dropped⟩ s tim val now) w) := by
  unfold addC
  by_cases h1 : nmd s = false ∨ crtC ⟨m, ws M, came, dropped⟩ = false
  · rw [if_pos h1]
    exact radd_no m a n c came dropped M s val tim now w hb hs h1
  · rw [if_neg h1]
    simp only [not_or, Bool.not_eq_false] at h1
    by_cases h2 : came = 1099511627776
    · rw [if_pos h2]
      exact radd_range m a n c came dropped M s val tim now w hb hs h1.1 h1.2 h2
    · rw [if_neg h2]
      by_cases h3 : (cnt (ws M) : Int) = m
      · rw [if_pos h3]
        exact radd_full m a n c came dropped M s val tim now w hb hs h1.1 h1.2 h2 h3
      · rw [if_neg h3]
        exact radd_kept m a n c came dropped M s val tim now w hb hs h1.1 h1.2 h2 h3

end Go.Proofs.Ytcbjadmngkednaa
