/-
  TopSlipped: the walk of delayed.
-/
import Derived.Test.YtempbknidpmncaaDoorSlI
namespace Go.Proofs.YtempbknidpmncaaDoor
open Go.RowKit

attribute [local go_sem] Oper.semAt_some maxB_two

def upd (f : Nat → Nat) (j v : Nat) : Nat → Nat := fun k => if k = j then v else f k
theorem upd_same (f : Nat → Nat) (j v : Nat) : upd f j v j = v := if_pos rfl
theorem upd_lt (f : Nat → Nat) {j v k : Nat} (h : k < j) : upd f j v k = f k := if_neg (by omega)
theorem RowP.push {w0 W w3 : World} {v v' : Value} {j lb lc : Nat} {P lbs lcs : Nat → Nat} {cs : Array Value} (h : RowP w0 W v j P lbs lcs)
    (hown : w3.ownsRow w0.heap.size 51 4 v' (j + 1) (planC P lbs lcs j ++ [.int .i64 (P j : Nat), .int .i64 0, .int .i64 0, .slice (some ⟨lb, 0, none⟩) 1 lc])) (hg : W.grownBy w3 v.ownBlock) (hb : Blk W lb cs 3) (hc : cs[0]? = some (.int .i64 (j : Int))) (hl : w0.heap.size ≤ lb) :
    RowP w0 w3 v' (j + 1) P (upd lbs j lb) (upd lcs j lc) where
  own := by
    have e : planC P (upd lbs j lb) (upd lcs j lc) (j + 1) = planC P lbs lcs j ++ [.int .i64 (P j : Nat), .int .i64 0, .int .i64 0, .slice (some ⟨lb, 0, none⟩) 1 lc] := by
      rw [planC_succ, upd_same, upd_same]
      congr 1
      exact planC_congr (fun k hk => ⟨rfl, upd_lt _ hk, upd_lt _ hk⟩)
    rw [e]; exact hown
  loads := fun k hk => by
    by_cases hkj : k = j
    · subst hkj
      rw [upd_same]
      exact ⟨hl, cs, hb.grown hg (ownBlock_ne h.own hb (by decide)), hc⟩
    · rw [upd_lt _ (by omega : k < j)]
      obtain ⟨h1, cs', h2, h3⟩ := h.loads k (by omega)
      exact ⟨h1, cs', h2.grown hg (ownBlock_ne h.own h2 (by decide)), h3⟩

theorem clone79 (w : World) (lb lc j : Nat) (hc : w.cell? ⟨lb, 0, none⟩ = some (.int .i64 (j : Int))) :
    Calls Tryd.prog 79 #[.slice (some ⟨lb, 0, none⟩) 1 lc] w fun e w' => (∃ lb' lc' cs, e = .returned (.slice (some ⟨lb', 0, none⟩) 1 lc') ∧ w.heap.size ≤ lb' ∧ Blk w' lb' cs 3 ∧ cs[0]? = some (.int .i64 (j : Int))) ∧ Below w.heap.size w w' := by
  refine (Tryd.slices_Clone_int lb 0 1 lc [(j : Int)] w (by simp) (by omega) (fun k hk => ?_)).mono ?_
  · obtain rfl : k = 0 := by simpa using hk
    simpa using hc
  · rintro e w' ⟨v', rfl, hown, hnn, hb⟩
    refine ⟨?_, hb⟩
    rcases hown.2 with ⟨_, h0⟩ | ⟨lb', lc', cs, hv, hg, hh, h1, h2, h3, h4⟩
    · omega
    · refine ⟨lb', lc', cs, by rw [hv], hg, hh, ?_⟩
      have h5 : cs.toList.take 1 = [.int .i64 (j : Int)] := by simpa using h4
      have h6 : (cs.toList.take 1)[0]? = some (.int .i64 (j : Int)) := by rw [h5]; rfl
      rw [List.getElem?_take_of_lt (by omega)] at h6
      simpa using h6

def hotX (dj s : Nat) (P : Nat → Nat) : Nat → Nat
  | 0 => dj
  | k + 1 => max dj (P k + s)
theorem hotX_step {n ag cl : Nat} {P : Nat → Nat} (hg : GapD (max ag cl) n P) {k : Nat} (hk : k < n) (dj : Nat) : max (max (hotX dj (max ag cl) P k) (P k + ag)) (P k + cl) = hotX dj (max ag cl) P (k + 1) := by
  cases k with
  | zero => simp only [hotX]; omega
  | succ k =>
    have := hg k hk
    simp only [hotX]; omega


set_option maxRecDepth 20000 in
set_option maxHeartbeats 4000000 in
theorem delayed39 (K : Camp) (w : World) (h : CampAt w K) (g cap i dd : Nat) (d : Nat → Nat) (hp : PlanOk w K g cap d) (hdB : ∀ j, j < K.n → d j ≤ 1000) (hi : i < K.n) (hdd : dd ≤ 10000) :
    Calls Tryd.prog 39 #[K.val, .slice (some ⟨g, 0, none⟩) K.n cap, .int .i64 (i : Int), .int .i64 (dd : Int)] w
      fun e w' => (∃ g' cap', e = .returned (.slice (some ⟨g', 0, none⟩) K.n cap') ∧ PlanOk w' K g' cap' (pushD (max K.ag K.cl) d i dd)) ∧ Below w.heap.size w w' := by
  have hn1 := h.n1
  have hn6 := h.n6
  have hag := h.ag20
  have hcl := h.cl19
  obtain ⟨P, hP⟩ : ∃ P, P = pushD (max K.ag K.cl) d i dd := ⟨_, rfl⟩
  have hPlt : ∀ j, j < i → P j = d j := fun j hj => by rw [hP]; exact pushD_lt hj
  have hPat : P i = d i + dd := by rw [hP]; exact pushD_at
  have hPgt : ∀ j, i ≤ j → P (j + 1) = max (d (j + 1)) (P j + max K.ag K.cl) := fun j hj => by rw [hP]; exact pushD_gt hj
  have hPgap : GapD (max K.ag K.cl) K.n P := by rw [hP]; exact pushD_gap hp.gap
  have hPB : ∀ j, j < K.n → P j ≤ 11000 := fun j hj => by rw [hP]; have := pushD_bound (i := i) (k := dd) hp.gap hdB j hj; omega
  rw [← hP]
  clear hP
  obtain ⟨W, hW⟩ : ∃ W, W = w.alloc (.cells #[.slice (some ⟨K.cb, 0, none⟩) 1 1, .slice (some ⟨K.pb, 0, none⟩) 1 1, .slice (some ⟨K.gb, 0, none⟩) K.n K.gcap, .int .i64 0] 46) := ⟨_, rfl⟩
  have X : BoxAt w W K w.heap.size := by rw [hW]; exact BoxAt.new h
  have k0 := X.c0
  unfold Camp.val
  go_enter Tryd.func39, Tryd.ntmps39
  go_wp2
  rw [← hW]
  clear hW k0
  go_loopw [9, 10, 11, 13, 16] (fun v _ _ _ ix wr => ∃ (j : Nat) (lbs lcs : Nat → Nat), j ≤ K.n ∧ ix = .int .i64 (j : Int) ∧ RowP w wr v j P lbs lcs ∧ Below w.heap.size w wr ∧ Blk wr w.heap.size K.cells 46 ∧ w.heap.size < wr.heap.size) (fun _ _ _ _ ix _ => K.n - (intOf ix).toNat)
  case atStart => exact ⟨0, fun _ => 0, fun _ => 0, Nat.zero_le _, rfl, ⟨⟨rfl, .inl ⟨rfl, rfl⟩⟩, fun k hk => absurd hk (Nat.not_lt_zero _)⟩, X.below, X.blk, X.lt⟩
  case round =>
    obtain ⟨j, lbs, lcs, hj, rfl, hrow, hbr, hbox, hBlt⟩ := hrel
    clear X
    by_cases hlt : j < K.n
    · have hsr := hbr.size
      have hpr := hp.at_.below hp.lt hbr (Nat.le_refl _)
      obtain ⟨c0, c1, c2, lb, lc, c3, c4, c5⟩ := hpr j hlt
      obtain ⟨A, oc, rfl, hoc, hjoc, hob, hA⟩ := hrow.form
      have hdj := hdB j hlt
      have hPj := hPB j hlt
      have hCl := clone79 (wr.alloc (.cells #[.int .i64 (d j : Nat), .int .i64 0, .int .i64 0, .slice (some ⟨lb, 0, none⟩) 1 lc] 51)) lb lc j (((Below.refl wr.heap.size wr).alloc (Nat.le_refl _) _ |>.cell (p := ⟨lb, 0, none⟩) c4).trans c5)
      by_cases hji : j ≤ i
      · have hnji : ¬ ((i : Int) < (j : Int)) := by omega
        have hnji2 : decide (i < j) = false := decide_eq_false (by omega)
        by_cases hje : j = i
        · subst hje
          have HXX0 := hPat
          obtain ⟨xx, hxx⟩ : ∃ xx, d j + dd = xx := ⟨_, rfl⟩
          rw [hxx] at HXX0
          have HXX := Lib.hid HXX0
          have hj2 : ((j : Int) == (j : Int)) = true := by simp
          have vd : IntKind.i64.wrap ((d j : Int) + (dd : Int)) = (xx : Int) := by rw [show (d j : Int) + (dd : Int) = (xx : Int) by omega]; exact IntWalk.i64_in _ (by omega)
          clear hp hpr hPlt hPat hPgt hPgap hPB hdB HXX0
          go_wp2_with (
            refine hCl.mono ?_
            rintro e w2 ⟨⟨lb', lc', cs, rfl, hl', hcs, hcs0⟩, hb2⟩
            have hx2 : Blk w2 wr.heap.size #[.int .i64 (d j : Nat), .int .i64 0, .int .i64 0, .slice (some ⟨lb, 0, none⟩) 1 lc] 51 := (Blk.new wr _ _).below hb2 (by simp)
            have q3 := hx2.cell 3 rfl
            have q3f := hx2.frozen 3
            have hy2 : Blk (w2.setCell ⟨wr.heap.size, 3, none⟩ (.slice (some ⟨lb', 0, none⟩) 1 lc')) wr.heap.size #[.int .i64 (d j : Nat), .int .i64 0, .int .i64 0, .slice (some ⟨lb', 0, none⟩) 1 lc'] 51 := by
              have := hx2.setCell 3 (.slice (some ⟨lb', 0, none⟩) 1 lc')
              simpa using this
            have q0 := hy2.cell 0 rfl
            have q0f := hy2.frozen 0)
          obtain ⟨W3, hW3⟩ : ∃ W3, W3 = (w2.setCell ⟨wr.heap.size, 3, none⟩ (.slice (some ⟨lb', 0, none⟩) 1 lc')).setCell ⟨wr.heap.size, 0, none⟩ (.int .i64 (xx : Int)) := ⟨_, rfl⟩
          rw [← hW3]
          have hx3 : Blk W3 wr.heap.size #[.int .i64 (xx : Nat), .int .i64 0, .int .i64 0, .slice (some ⟨lb', 0, none⟩) 1 lc'] 51 := by
            rw [hW3]
            have := hy2.setCell 0 (.int .i64 (xx : Int))
            simpa using this
          have hgW : w2.grownBy W3 (some wr.heap.size) := by rw [hW3]; exact (grownBy_set w2 wr.heap.size 3 _).trans (grownBy_set _ wr.heap.size 0 _)
          clear hW3 hy2 q0 q0f vd hj2 hxx
          have hb02 : Below wr.heap.size wr w2 := ((Below.refl _ _).alloc (Nat.le_refl _) _).trans (hb2.mono (by simp))
          have hs02 := hb02.size
          have hlbs : ∀ k, k < j → lbs k < wr.heap.size := fun k hk => by
            obtain ⟨_, cs', h2, _⟩ := hrow.loads k hk
            exact h2.lt
          have hl'' : wr.heap.size + 1 ≤ lb' := by simpa using hl'
          have hrow3 : RowP w W3 _ j P lbs lcs := (hrow.below hb02).grown hgW (fun k hk => by have := (hob k hk).1; omega) (fun k hk => by have := hlbs k hk; omega)
          have hbox3 : Blk W3 w.heap.size K.cells 46 := (hbox.below hb02 hBlt).grown hgW (by intro e; injection e with e; omega)
          have hcs3 : Blk W3 lb' cs 3 := hcs.grown hgW (by intro e; injection e with e; omega)
          have hb3 : Below w.heap.size w W3 := (hbr.trans (hb02.mono hsr)).grown hgW (by omega) (fun k hk => by injection hk with hk; omega)
          have hs3 := hb3.size
          have hxlt := hx3.lt
          have hBlt3 := hbox3.lt
          clear hrow hbox hbr hcs hob hlbs hgW hb02 hb2 hCl c0 c1 c2 c3 c4 c5 hx2 q3 q3f
          have hWW : Below W3.heap.size W3 W3 := Below.refl _ _
          obtain ⟨wo, rfl⟩ : ∃ wo : World, wo = wr := ⟨_, rfl⟩
          go_loopw [13, 35] (fun _ ky wy => ∃ k : Nat, k ≤ j ∧ ky = .int .i64 (k : Int) ∧ Below W3.heap.size W3 wy) (fun _ ky _ => j - (intOf ky).toNat)
          case atStart => exact ⟨0, Nat.zero_le _, rfl, hWW⟩
          case round =>
            obtain ⟨k, hk, rfl, hby⟩ := hrel
            have hsy := hby.size
            by_cases hkj : k < j
            · obtain ⟨g2, rfl⟩ := hA (by omega)
              obtain ⟨e0, e1, e2, e3⟩ := (hrow3.below hby).cells hkj
              have HR3 := Lib.hid hrow3
              clear hrow3 hbox3 hcs3 hb3 hA
              go_wp2
              go_roundw
              case rel => exact ⟨k + 1, by omega, by go_num, hby.alloc hsy _⟩
              case measure => simp [intOf] <;> omega
            · clear hA
              have hxy := hx3.below hby hxlt
              have x0 := hxy.cell 0 rfl
              have x1 := hxy.cell 1 rfl
              have x2 := hxy.cell 2 rfl
              have x3 := hxy.cell 3 rfl
              have hrowy := hrow3.below hby
              have hboxy := hbox3.below hby hBlt3
              have hcsy := hcs3.below hby hcs3.lt
              have hbwy := hb3.trans (hby.mono hs3)
              have hl6 : w.heap.size ≤ lb' := by omega
              have hne5 : some w.heap.size ≠ Value.ownBlock (.slice A j oc) := ownBlock_ne hrowy.own hboxy (by decide)
              clear hrow3 hbox3 hcs3 hb3 hx3 hxy hby
              have HRY := Lib.hid hrowy
              have HOW := hrowy.own
              clear hrowy
              go_wp2_with (at_builtin; refine append_oneB w.heap.size rfl (.tmp 88) (.tmp 90) _ _ _ 4 48 (by exact rfl) Tryd.underlying47 Tryd.info51' rfl (by decide) _ j (planC P lbs lcs j) [_, _, _, _] (by exact rfl) wr.heap.size rfl (by exact rfl) rfl (by simp [Value.oneCell']) HOW hbwy (by omega) (by unfold maxLen; omega) (by omega) ?_; intro g5 gcap w5 hown5 hb5 hgr5 hor5 hg5 hlt5)
              go_roundw
              case rel =>
                refine ⟨j + 1, upd lbs j lb', upd lcs j lc', by omega, by go_num, HRY.out.push (by rw [HXX.out]; exact hown5) hgr5 hcsy hcs0 hl6, hb5, hboxy.grown hgr5 hne5, ?_⟩
                have := hgr5.size
                omega
              case measure => simp [intOf] <;> omega
        · have hje2 : ((j : Int) == (i : Int)) = false := by simp; omega
          have HXX := Lib.hid (hPlt j (by omega))
          clear hp hpr hPlt hPat hPgt hPgap hPB hdB
          go_wp2_with (
            refine hCl.mono ?_
            rintro e w2 ⟨⟨lb', lc', cs, rfl, hl', hcs, hcs0⟩, hb2⟩
            have hx2 : Blk w2 wr.heap.size #[.int .i64 (d j : Nat), .int .i64 0, .int .i64 0, .slice (some ⟨lb, 0, none⟩) 1 lc] 51 := (Blk.new wr _ _).below hb2 (by simp)
            have q3 := hx2.cell 3 rfl
            have q3f := hx2.frozen 3)
          obtain ⟨W3, hW3⟩ : ∃ W3, W3 = w2.setCell ⟨wr.heap.size, 3, none⟩ (.slice (some ⟨lb', 0, none⟩) 1 lc') := ⟨_, rfl⟩
          rw [← hW3]
          have hx3 : Blk W3 wr.heap.size #[.int .i64 (d j : Nat), .int .i64 0, .int .i64 0, .slice (some ⟨lb', 0, none⟩) 1 lc'] 51 := by
            rw [hW3]
            have := hx2.setCell 3 (.slice (some ⟨lb', 0, none⟩) 1 lc')
            simpa using this
          have hgW : w2.grownBy W3 (some wr.heap.size) := by rw [hW3]; exact grownBy_set w2 wr.heap.size 3 _
          clear hW3
          have hb02 : Below wr.heap.size wr w2 := ((Below.refl _ _).alloc (Nat.le_refl _) _).trans (hb2.mono (by simp))
          have hs02 := hb02.size
          have hlbs : ∀ k, k < j → lbs k < wr.heap.size := fun k hk => by
            obtain ⟨_, cs', h2, _⟩ := hrow.loads k hk
            exact h2.lt
          have hl'' : wr.heap.size + 1 ≤ lb' := by simpa using hl'
          have hrow3 : RowP w W3 _ j P lbs lcs := (hrow.below hb02).grown hgW (fun k hk => by have := (hob k hk).1; omega) (fun k hk => by have := hlbs k hk; omega)
          have hbox3 : Blk W3 w.heap.size K.cells 46 := (hbox.below hb02 hBlt).grown hgW (by intro e; injection e with e; omega)
          have hcs3 : Blk W3 lb' cs 3 := hcs.grown hgW (by intro e; injection e with e; omega)
          have hb3 : Below w.heap.size w W3 := (hbr.trans (hb02.mono hsr)).grown hgW (by omega) (fun k hk => by injection hk with hk; omega)
          have hs3 := hb3.size
          have hxlt := hx3.lt
          have hBlt3 := hbox3.lt
          clear hrow hbox hbr hcs hob hlbs hgW hb02 hb2 hCl c0 c1 c2 c3 c4 c5 hx2 q3 q3f
          have hWW : Below W3.heap.size W3 W3 := Below.refl _ _
          obtain ⟨wo, rfl⟩ : ∃ wo : World, wo = wr := ⟨_, rfl⟩
          go_loopw [13, 35] (fun _ ky wy => ∃ k : Nat, k ≤ j ∧ ky = .int .i64 (k : Int) ∧ Below W3.heap.size W3 wy) (fun _ ky _ => j - (intOf ky).toNat)
          case atStart => exact ⟨0, Nat.zero_le _, rfl, hWW⟩
          case round =>
            obtain ⟨k, hk, rfl, hby⟩ := hrel
            have hsy := hby.size
            by_cases hkj : k < j
            · obtain ⟨g2, rfl⟩ := hA (by omega)
              obtain ⟨e0, e1, e2, e3⟩ := (hrow3.below hby).cells hkj
              have HR3 := Lib.hid hrow3
              clear hrow3 hbox3 hcs3 hb3 hA
              go_wp2
              go_roundw
              case rel => exact ⟨k + 1, by omega, by go_num, hby.alloc hsy _⟩
              case measure => simp [intOf] <;> omega
            · clear hA
              have hxy := hx3.below hby hxlt
              have x0 := hxy.cell 0 rfl
              have x1 := hxy.cell 1 rfl
              have x2 := hxy.cell 2 rfl
              have x3 := hxy.cell 3 rfl
              have hrowy := hrow3.below hby
              have hboxy := hbox3.below hby hBlt3
              have hcsy := hcs3.below hby hcs3.lt
              have hbwy := hb3.trans (hby.mono hs3)
              have hl6 : w.heap.size ≤ lb' := by omega
              have hne5 : some w.heap.size ≠ Value.ownBlock (.slice A j oc) := ownBlock_ne hrowy.own hboxy (by decide)
              clear hrow3 hbox3 hcs3 hb3 hx3 hxy hby
              have HRY := Lib.hid hrowy
              have HOW := hrowy.own
              clear hrowy
              go_wp2_with (at_builtin; refine append_oneB w.heap.size rfl (.tmp 88) (.tmp 90) _ _ _ 4 48 (by exact rfl) Tryd.underlying47 Tryd.info51' rfl (by decide) _ j (planC P lbs lcs j) [_, _, _, _] (by exact rfl) wr.heap.size rfl (by exact rfl) rfl (by simp [Value.oneCell']) HOW hbwy (by omega) (by unfold maxLen; omega) (by omega) ?_; intro g5 gcap w5 hown5 hb5 hgr5 hor5 hg5 hlt5)
              go_roundw
              case rel =>
                refine ⟨j + 1, upd lbs j lb', upd lcs j lc', by omega, by go_num, HRY.out.push (by rw [HXX.out]; exact hown5) hgr5 hcsy hcs0 hl6, hb5, hboxy.grown hgr5 hne5, ?_⟩
                have := hgr5.size
                omega
              case measure => simp [intOf] <;> omega
      · have hnji : (i : Int) < (j : Int) := by omega
        have hnji2 : decide (i < j) = true := decide_eq_true (by omega)
        have hje2 : ((j : Int) == (i : Int)) = false := by simp; omega
        obtain ⟨j', hj'⟩ : ∃ j', j' + 1 = j := ⟨j - 1, by omega⟩
        have HXX : Hid (P j = hotX (d j) (max K.ag K.cl) P j) := Lib.hid (by
          have := hPgt j' (by omega)
          rw [hj'] at this
          rw [this, ← hj']; rfl)
        have HG := Lib.hid hPgap
        have HPB := Lib.hid hPB
        have HCAMP := Lib.hid h
        have HA := Lib.hid hA
        clear hp hpr hPlt hPat hPgt hPgap hPB hdB h hA
        go_wp2_with (
          refine hCl.mono ?_
          rintro e w2 ⟨⟨lb', lc', cs, rfl, hl', hcs, hcs0⟩, hb2⟩
          have hx2 : Blk w2 wr.heap.size #[.int .i64 (d j : Nat), .int .i64 0, .int .i64 0, .slice (some ⟨lb, 0, none⟩) 1 lc] 51 := (Blk.new wr _ _).below hb2 (by simp)
          have q3 := hx2.cell 3 rfl
          have q3f := hx2.frozen 3)
        obtain ⟨W3, hW3⟩ : ∃ W3, W3 = w2.setCell ⟨wr.heap.size, 3, none⟩ (.slice (some ⟨lb', 0, none⟩) 1 lc') := ⟨_, rfl⟩
        rw [← hW3]
        have hx3 : Blk W3 wr.heap.size #[.int .i64 (d j : Nat), .int .i64 0, .int .i64 0, .slice (some ⟨lb', 0, none⟩) 1 lc'] 51 := by
          rw [hW3]
          have := hx2.setCell 3 (.slice (some ⟨lb', 0, none⟩) 1 lc')
          simpa using this
        have hgW : w2.grownBy W3 (some wr.heap.size) := by rw [hW3]; exact grownBy_set w2 wr.heap.size 3 _
        clear hW3
        have hb02 : Below wr.heap.size wr w2 := ((Below.refl _ _).alloc (Nat.le_refl _) _).trans (hb2.mono (by simp))
        have hs02 := hb02.size
        have hlbs : ∀ k, k < j → lbs k < wr.heap.size := fun k hk => by
          obtain ⟨_, cs', h2, _⟩ := hrow.loads k hk
          exact h2.lt
        have hl'' : wr.heap.size + 1 ≤ lb' := by simpa using hl'
        have hrow3 : RowP w W3 _ j P lbs lcs := (hrow.below hb02).grown hgW (fun k hk => by have := (hob k hk).1; omega) (fun k hk => by have := hlbs k hk; omega)
        have hbox3 : Blk W3 w.heap.size K.cells 46 := (hbox.below hb02 hBlt).grown hgW (by intro e; injection e with e; omega)
        have hcs3 : Blk W3 lb' cs 3 := hcs.grown hgW (by intro e; injection e with e; omega)
        have hb3 : Below w.heap.size w W3 := (hbr.trans (hb02.mono hsr)).grown hgW (by omega) (fun k hk => by injection hk with hk; omega)
        have hs3 := hb3.size
        have hxlt := hx3.lt
        have hBlt3 := hbox3.lt
        clear hrow hbox hbr hcs hgW hb02 hb2 hCl c0 c1 c2 c3 c4 c5 hx2 q3 q3f
        obtain ⟨wo, rfl⟩ : ∃ wo : World, wo = wr := ⟨_, rfl⟩
        have HOB := Lib.hid hob
        have HLB := Lib.hid hlbs
        clear hob hlbs
        go_loopw [13, 35] (fun _ ky wy => ∃ k : Nat, k ≤ j ∧ ky = .int .i64 (k : Int) ∧ W3.grownBy wy (some wo.heap.size) ∧ Blk wy wo.heap.size #[.int .i64 (hotX (d j) (max K.ag K.cl) P k : Nat), .int .i64 0, .int .i64 0, .slice (some ⟨lb', 0, none⟩) 1 lc'] 51 ∧ hotX (d j) (max K.ag K.cl) P k ≤ 12000) (fun _ ky _ => j - (intOf ky).toNat)
        case atStart => exact ⟨0, Nat.zero_le _, rfl, World.grownBy.refl _ _, hx3, by simp only [hotX]; omega⟩
        case round =>
          obtain ⟨k, hk, rfl, hgy, hxy, hx12⟩ := hrel
          have hsy := hgy.size
          have hrowy : RowP w wr _ j P lbs lcs := hrow3.grown hgy (fun k hk => by have := (HOB.out k hk).1; omega) (fun k hk => by have := HLB.out k hk; omega)
          have hboxy := hbox3.grown hgy (by intro e; injection e with e; omega)
          have hbwy : Below w.heap.size w wr := hb3.grown hgy hs3 (fun k hk => by injection hk with hk; omega)
          by_cases hkj : k < j
          · obtain ⟨g2, hg2⟩ := HA.out (by omega)
            subst hg2
            obtain ⟨e0, e1, e2, e3⟩ := hrowy.cells hkj
            have hPk := HPB.out k (by omega)
            have HST : Hid (max (max (hotX (d j) (max K.ag K.cl) P k) (P k + K.ag)) (P k + K.cl) = hotX (d j) (max K.ag K.cl) P (k + 1)) := Lib.hid (hotX_step HG.out (by omega) (d j))
            generalize hotX (d j) (max K.ag K.cl) P k = x at *
            obtain ⟨W5, hW5⟩ : ∃ W5, W5 = wr.alloc (.cells #[.int .i64 (P k : Nat), .int .i64 0, .int .i64 0, .slice (some ⟨lbs k, 0, none⟩) 1 (lcs k)] 51) := ⟨_, rfl⟩
            have hb5 : Below wr.heap.size wr W5 := by rw [hW5]; exact (Below.refl _ _).alloc (Nat.le_refl _) _
            have hy5 : Blk W5 wr.heap.size #[.int .i64 (P k : Nat), .int .i64 0, .int .i64 0, .slice (some ⟨lbs k, 0, none⟩) 1 (lcs k)] 51 := by rw [hW5]; exact Blk.new _ _ _
            have hx5 := hxy.below hb5 hxy.lt
            have hbox5 := hboxy.below hb5 hboxy.lt
            have hbw5 := hbwy.trans (hb5.mono hbwy.size)
            have hK5 := HCAMP.out.below hbw5
            have hs5 := hb5.size
            have hg5 : W3.grownBy W5 (some wo.heap.size) := hgy.trans (by rw [hW5]; exact World.grownBy_alloc wr _ _)
            have x0 := hx5.cell 0 rfl
            have x0f := hx5.frozen 0
            have x1 := hx5.cell 1 rfl
            have x2 := hx5.cell 2 rfl
            have y0 := hy5.cell 0 rfl
            have y1 := hy5.cell 1 rfl
            have y2 := hy5.cell 2 rfl
            have b0 : W5.cell? ⟨w.heap.size, 0, none⟩ = some (.slice (some ⟨K.cb, 0, none⟩) 1 1) := hbox5.cell 0 rfl
            have b1 : W5.cell? ⟨w.heap.size, 1, none⟩ = some (.slice (some ⟨K.pb, 0, none⟩) 1 1) := hbox5.cell 1 rfl
            have ca := hK5.c3
            have pa := hK5.p1
            obtain ⟨ya, hya⟩ : ∃ ya, P k + K.ag = ya := ⟨_, rfl⟩
            obtain ⟨yc, hyc⟩ : ∃ yc, P k + K.cl = yc := ⟨_, rfl⟩
            obtain ⟨m1, hm1⟩ : ∃ m, max x ya = m := ⟨_, rfl⟩
            obtain ⟨m2, hm2⟩ : ∃ m, max m1 yc = m := ⟨_, rfl⟩
            have va : IntKind.i64.wrap ((P k : Int) + (K.ag : Int)) = (ya : Int) := by rw [show (P k : Int) + (K.ag : Int) = (ya : Int) by omega]; exact IntWalk.i64_in _ (by omega)
            have vc : IntKind.i64.wrap ((P k : Int) + (K.cl : Int)) = (yc : Int) := by rw [show (P k : Int) + (K.cl : Int) = (yc : Int) by omega]; exact IntWalk.i64_in _ (by omega)
            have hmx1 := max2_nat x ya
            rw [hm1] at hmx1
            have hmx2 := max2_nat m1 yc
            rw [hm2] at hmx2
            have HM : Hid (hotX (d j) (max K.ag K.cl) P (k + 1) = m2 ∧ m2 ≤ 12000) := Lib.hid (by rw [← HST.out, hya, hyc, hm1, hm2]; omega)
            have hK6 : CampAt (W5.setCell ⟨wo.heap.size, 0, none⟩ (.int .i64 (m1 : Int))) K := HCAMP.out.below (hbw5.setCell (by show w.heap.size ≤ wo.heap.size; omega) _)
            have z0 : (W5.setCell ⟨wo.heap.size, 0, none⟩ (.int .i64 (m1 : Int))).cell? ⟨wo.heap.size, 0, none⟩ = some (.int .i64 (m1 : Int)) := World.cell?_setCell_same _ _ _ x0
            clear hya hyc hm1 hm2 HST hgy hxy hrowy hboxy hbwy
            subst hW5
            go_wp2
            refine wp_region_ord [(0, 0, 0), (1, 2, 1), (2, 0, 0), (3, 2, 4), (4, 0, 0), (5, 2, 16), (6, 0, 0), (7, 2, 64), (8, 0, 240), (9, 0, 496), (10, 2, 1008), (11, 0, 2044), (12, 0, 4095), (13, 0, 8191), (14, 3, 16383)] false (by kernel_rfl) (by kernel_rfl) ?_
            repeat (first | (refine tx_P rfl (fun Z hZ => ?_); go_simp; refine hZ _ _ ?_; clear hZ Z) | (refine tx_L rfl (fun Z hZ => ?_); go_simp; refine hZ _ _ ?_; clear hZ Z))
            refine tx_E rfl (fun Z hZ => ?_)
            go_simp
            refine hZ _ _ ?_; clear hZ Z
            refine tx_nil ?_
            obtain ⟨W6, hW6⟩ : ∃ W6, W6 = ((wr.alloc (.cells #[.int .i64 (P k : Nat), .int .i64 0, .int .i64 0, .slice (some ⟨lbs k, 0, none⟩) 1 (lcs k)] 51)).setCell ⟨wo.heap.size, 0, none⟩ (.int .i64 (m1 : Int))).drew := ⟨_, rfl⟩
            rw [← hW6]
            have hg56 : (wr.alloc (.cells #[.int .i64 (P k : Nat), .int .i64 0, .int .i64 0, .slice (some ⟨lbs k, 0, none⟩) 1 (lcs k)] 51)).grownBy W6 (some wo.heap.size) := by rw [hW6]; exact (grownBy_set _ wo.heap.size 0 _).trans (grownBy_drew _ _)
            have hx6 : Blk W6 wo.heap.size #[.int .i64 (m1 : Nat), .int .i64 0, .int .i64 0, .slice (some ⟨lb', 0, none⟩) 1 lc'] 51 := by
              rw [hW6]
              have h9 : Blk ((wr.alloc (.cells #[.int .i64 (P k : Nat), .int .i64 0, .int .i64 0, .slice (some ⟨lbs k, 0, none⟩) 1 (lcs k)] 51)).setCell ⟨wo.heap.size, 0, none⟩ (.int .i64 (m1 : Int))) wo.heap.size #[.int .i64 (m1 : Nat), .int .i64 0, .int .i64 0, .slice (some ⟨lb', 0, none⟩) 1 lc'] 51 := by
                have := hx5.setCell 0 (.int .i64 (m1 : Int))
                simpa using this
              exact h9
            have hne6 : some wr.heap.size ≠ some wo.heap.size := by intro e; injection e with e; omega
            have hy6 := hy5.grown hg56 hne6
            have hbox6 := hbox5.grown hg56 (by intro e; injection e with e; omega)
            have hbw6 : Below w.heap.size w W6 := hbw5.grown hg56 (by omega) (fun k hk => by injection hk with hk; omega)
            have hK6' := HCAMP.out.below hbw6
            have hg6 := hg5.trans hg56
            have hs6 := hg56.size
            have x0' := hx6.cell 0 rfl
            have x0f' := hx6.frozen 0
            have x2' := hx6.cell 2 rfl
            have y0' := hy6.cell 0 rfl
            have y2' := hy6.cell 2 rfl
            have b1' : W6.cell? ⟨w.heap.size, 1, none⟩ = some (.slice (some ⟨K.pb, 0, none⟩) 1 1) := hbox6.cell 1 rfl
            have pa' := hK6'.p1
            clear hW6 x0 x0f x1 x2 y0 y1 y2 b0 b1 ca pa z0 hx5 hy5 hbox5 hK5 hK6 hg5 hg56
            go_wp2
            refine wp_region_ord [(0, 0, 0), (1, 2, 1), (2, 0, 0), (3, 2, 4), (4, 0, 0), (5, 2, 16), (6, 0, 0), (7, 2, 64), (8, 0, 240), (9, 0, 496), (10, 2, 1008), (11, 0, 2044), (12, 0, 4095), (13, 0, 8191), (14, 3, 16383)] false (by kernel_rfl) (by kernel_rfl) ?_
            repeat (first | (refine tx_P rfl (fun Z hZ => ?_); go_simp; refine hZ _ _ ?_; clear hZ Z) | (refine tx_L rfl (fun Z hZ => ?_); go_simp; refine hZ _ _ ?_; clear hZ Z))
            refine tx_E rfl (fun Z hZ => ?_)
            go_simp
            refine hZ _ _ ?_; clear hZ Z
            refine tx_nil ?_
            obtain ⟨W7, hW7⟩ : ∃ W7, W7 = (W6.setCell ⟨wo.heap.size, 0, none⟩ (.int .i64 (m2 : Int))).drew := ⟨_, rfl⟩
            rw [← hW7]
            have hg67 : W6.grownBy W7 (some wo.heap.size) := by rw [hW7]; exact (grownBy_set _ wo.heap.size 0 _).trans (grownBy_drew _ _)
            have hx7 : Blk W7 wo.heap.size #[.int .i64 (m2 : Nat), .int .i64 0, .int .i64 0, .slice (some ⟨lb', 0, none⟩) 1 lc'] 51 := by
              rw [hW7]
              have h9 : Blk (W6.setCell ⟨wo.heap.size, 0, none⟩ (.int .i64 (m2 : Int))) wo.heap.size #[.int .i64 (m2 : Nat), .int .i64 0, .int .i64 0, .slice (some ⟨lb', 0, none⟩) 1 lc'] 51 := by
                have := hx6.setCell 0 (.int .i64 (m2 : Int))
                simpa using this
              exact h9
            clear hW7 x0' x0f' x2' y0' y2' b1' pa'
            go_wp2
            go_roundw
            case rel => exact ⟨k + 1, by omega, by go_num, hg6.trans hg67, by rw [HM.out.1]; exact hx7, by rw [HM.out.1]; exact HM.out.2⟩
            case measure => simp [intOf] <;> omega
          · obtain rfl : k = j := by omega
            rw [← HXX.out] at hxy
            have hxlt2 := hxy.lt
            have x0 := hxy.cell 0 rfl
            have x1 := hxy.cell 1 rfl
            have x2 := hxy.cell 2 rfl
            have x3 := hxy.cell 3 rfl
            have hcsy := hcs3.grown hgy (by intro e; injection e with e; omega)
            have hl6 : w.heap.size ≤ lb' := by omega
            have hne5 : some w.heap.size ≠ Value.ownBlock (.slice A k oc) := ownBlock_ne hrowy.own hboxy (by decide)
            have hss := hbwy.size
            clear hrow3 hbox3 hcs3 hb3 hx3 hxy hgy
            have HRY := Lib.hid hrowy
            have HOW := hrowy.own
            clear hrowy
            go_wp2_with (at_builtin; refine append_oneB w.heap.size rfl (.tmp 88) (.tmp 90) _ _ _ 4 48 (by exact rfl) Tryd.underlying47 Tryd.info51' rfl (by decide) _ k (planC P lbs lcs k) [_, _, _, _] (by exact rfl) wr.heap.size rfl (by exact rfl) rfl (by simp [Value.oneCell']) HOW hbwy (by omega) (by unfold maxLen; omega) (by omega) ?_; intro g5 gcap w5 hown5 hb5 hgr5 hor5 hg5 hlt5)
            go_roundw
            case rel =>
              refine ⟨k + 1, upd lbs k lb', upd lcs k lc', by omega, by go_num, HRY.out.push hown5 hgr5 hcsy hcs0 hl6, hb5, hboxy.grown hgr5 hne5, ?_⟩
              have := hgr5.size
              omega
            case measure => simp [intOf] <;> omega

    · obtain rfl : j = K.n := by omega
      obtain ⟨A, oc, rfl, hoc, hjoc, hob, hA⟩ := hrow.form
      obtain ⟨g2, rfl⟩ := hA (by omega)
      have hg2 := (hob g2 rfl).1
      have hS := sort80 wr g2 K.n oc P hn6 hg2 hrow.plan (fun j hj => by have := hPgap j hj; have := h.ag1; omega)
      have HR := Lib.hid hrow.plan
      have HG := Lib.hid hPgap
      clear hrow hp hPlt hPat hPgt hPgap hPB hdB hA hob hbox
      go_wp2_with (refine hS.mono ?_; rintro e w9 ⟨⟨v9, rfl⟩, hb9⟩)
      go_ret
      exact ⟨⟨g2, oc, rfl, ⟨HR.out.below hg2 hb9 (Nat.le_refl _), Nat.lt_of_lt_of_le hg2 hb9.size, hjoc, hoc, HG.out⟩⟩, hbr.trans (hb9.mono hbr.size)⟩
end Go.Proofs.YtempbknidpmncaaDoor
