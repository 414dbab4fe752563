/-
  TopSlipped: the walk of fault.
-/
import Derived.Test.YtempbknidpmncaaDoorSlE
namespace Go.Proofs.YtempbknidpmncaaDoor
open Go.RowKit

theorem gap_le {s n : Nat} {d : Nat → Nat} (hg : GapD s n d) : ∀ {k j : Nat}, j < k → k < n → d j + s ≤ d k
  | 0, j, h, _ => by omega
  | k + 1, j, h, hn => by
    have h1 := hg k (by omega)
    by_cases hj : j = k
    · subst hj; exact h1
    · have := gap_le hg (k := k) (j := j) (by omega) (by omega)
      omega

theorem there73 (w : World) (bx yb yc : Nat) (j k : Nat) (hjk : j ≠ k) (hb : w.cell? ⟨bx, 3, none⟩ = some (.slice (some ⟨yb, 0, none⟩) 1 yc)) (hy : w.cell? ⟨yb, 0, none⟩ = some (.int .i64 (j : Int))) :
    Calls Tryd.prog 73 #[.int .i64 (k : Int), .pointer (some ⟨bx, 0, none⟩)] w fun e w' => e = .returned (.bool false) ∧ Below w.heap.size w w' := by
  have hC := Contains_one yb yc (j : Int) (k : Int) w hy
  rw [decide_eq_false (by omega)] at hC
  go_enter Tryd.func73, Tryd.ntmps73
  go_wp2_with (refine hC.mono ?_; rintro e w1 ⟨rfl, rfl⟩)
  go_ret
  exact ⟨rfl, Below.refl _ _⟩
theorem there71 (w : World) (xb lb lc yb yc j k dj : Nat) (hjk : j ≠ k) (hx : w.cell? ⟨xb, 3, none⟩ = some (.slice (some ⟨lb, 0, none⟩) 1 lc)) (lx : xb < w.heap.size) (hl : w.cell? ⟨lb, 0, none⟩ = some (.int .i64 (k : Int))) (ll : lb < w.heap.size)
    (hy : w.cell? ⟨yb, 0, none⟩ = some (.int .i64 (j : Int))) (ly : yb < w.heap.size) :
    Calls Tryd.prog 71 #[.agg #[.int .i64 (dj : Int), .int .i64 0, .int .i64 0, .slice (some ⟨yb, 0, none⟩) 1 yc], .pointer (some ⟨xb, 0, none⟩)] w fun e w' => e = .returned (.bool false) ∧ Below w.heap.size w w' := by
  obtain ⟨W, hW⟩ : ∃ W, W = w.alloc (.cells #[.int .i64 (dj : Int), .int .i64 0, .int .i64 0, .slice (some ⟨yb, 0, none⟩) 1 yc] 51) := ⟨_, rfl⟩
  have hB : Blk W w.heap.size #[.int .i64 (dj : Int), .int .i64 0, .int .i64 0, .slice (some ⟨yb, 0, none⟩) 1 yc] 51 := by rw [hW]; exact Blk.new _ _ _
  have hbW : Below w.heap.size w W := by rw [hW]; exact (Below.refl _ _).alloc (Nat.le_refl _) _
  have hx' := (hbW.cell (p := ⟨xb, 3, none⟩) lx).trans hx
  have hl' := (hbW.cell (p := ⟨lb, 0, none⟩) ll).trans hl
  have hy' := (hbW.cell (p := ⟨yb, 0, none⟩) ly).trans hy
  have hs := hbW.size
  have hA := anyInt73 (.pointer (some ⟨w.heap.size, 0, none⟩)) lb lc (k : Int) false W hl' (by omega) (fun W' hb' =>
    there73 W' w.heap.size yb yc j k hjk ((hB.below hb' hB.lt).cell 3 rfl) ((hb'.cell (p := ⟨yb, 0, none⟩) (show yb < W.heap.size by omega)).trans hy'))
  go_enter Tryd.func71, Tryd.ntmps71
  go_wp2_with (rw [← hW]; clear hW; refine hA.mono ?_; rintro e w1 ⟨rfl, hb1⟩)
  go_ret
  exact ⟨rfl, hbW.trans (hb1.mono hbW.size)⟩
theorem state75 (w : World) (xb b7 yb yc dj dk ag : Nat) (ha : 1 ≤ ag) (hgap : dj + ag ≤ dk) (hdk : dk ≤ 1000) (hx0 : w.cell? ⟨xb, 0, none⟩ = some (.int .i64 (dk : Int))) (hx1 : w.cell? ⟨xb, 1, none⟩ = some (.int .i64 0)) (lx : xb < w.heap.size)
    (h7 : w.cell? ⟨b7, 0, none⟩ = some (.int .i64 (ag : Int))) (l7 : b7 < w.heap.size) :
    Calls Tryd.prog 75 #[.agg #[.int .i64 (dj : Int), .int .i64 0, .int .i64 0, .slice (some ⟨yb, 0, none⟩) 1 yc], .pointer (some ⟨xb, 0, none⟩), .pointer (some ⟨b7, 0, none⟩)] w fun e w' => e = .returned (.bool false) ∧ Below w.heap.size w w' := by
  have hb : ∀ o, Below w.heap.size w (w.alloc o) := fun o => (Below.refl _ _).alloc (Nat.le_refl _) _
  have e0 : ∀ o, (w.alloc o).cell? ⟨xb, 0, none⟩ = some (.int .i64 (dk : Int)) := fun o => ((hb o).cell (p := ⟨xb, 0, none⟩) lx).trans hx0
  have e1 : ∀ o, (w.alloc o).cell? ⟨xb, 1, none⟩ = some (.int .i64 0) := fun o => ((hb o).cell (p := ⟨xb, 1, none⟩) lx).trans hx1
  have e7 : ∀ o, (w.alloc o).cell? ⟨b7, 0, none⟩ = some (.int .i64 (ag : Int)) := fun o => ((hb o).cell (p := ⟨b7, 0, none⟩) l7).trans h7
  have v1 : IntKind.i64.wrap ((dj : Int) + (ag : Int)) = (dj : Int) + (ag : Int) := IntWalk.i64_in _ (by omega)
  have v2 : ((ag : Int) == 0) = false := by simp; omega
  go_enter Tryd.func75, Tryd.ntmps75
  go_wp2
  go_ret
  exact ⟨by first | rfl | exact ret_bool (by simp; omega), (Below.refl _ _).alloc (Nat.le_refl _) _⟩
theorem full76 (w : World) (xb b7 yb yc dj dk ag : Nat) (hgap : dj + ag ≤ dk) (hdk : dk ≤ 1000) (hx0 : w.cell? ⟨xb, 0, none⟩ = some (.int .i64 (dk : Int))) (hx2 : w.cell? ⟨xb, 2, none⟩ = some (.int .i64 0)) (lx : xb < w.heap.size)
    (h7 : w.cell? ⟨b7, 0, none⟩ = some (.int .i64 (ag : Int))) (l7 : b7 < w.heap.size) :
    Calls Tryd.prog 76 #[.agg #[.int .i64 (dj : Int), .int .i64 0, .int .i64 0, .slice (some ⟨yb, 0, none⟩) 1 yc], .pointer (some ⟨xb, 0, none⟩), .pointer (some ⟨b7, 0, none⟩)] w fun e w' => e = .returned (.bool false) ∧ Below w.heap.size w w' := by
  have hb : ∀ o, Below w.heap.size w (w.alloc o) := fun o => (Below.refl _ _).alloc (Nat.le_refl _) _
  have e0 : ∀ o, (w.alloc o).cell? ⟨xb, 0, none⟩ = some (.int .i64 (dk : Int)) := fun o => ((hb o).cell (p := ⟨xb, 0, none⟩) lx).trans hx0
  have e1 : ∀ o, (w.alloc o).cell? ⟨xb, 2, none⟩ = some (.int .i64 0) := fun o => ((hb o).cell (p := ⟨xb, 2, none⟩) lx).trans hx2
  have e7 : ∀ o, (w.alloc o).cell? ⟨b7, 0, none⟩ = some (.int .i64 (ag : Int)) := fun o => ((hb o).cell (p := ⟨b7, 0, none⟩) l7).trans h7
  have v1 : IntKind.i64.wrap ((dj : Int) + (ag : Int)) = (dj : Int) + (ag : Int) := IntWalk.i64_in _ (by omega)
  go_enter Tryd.func76, Tryd.ntmps76
  go_wp2
  go_ret
  exact ⟨by first | rfl | exact ret_bool (by simp; omega), (Below.refl _ _).alloc (Nat.le_refl _) _⟩

structure Fa (w0 W : World) (K : Camp) (B xb b7 b8 g k lb lc : Nat) (d : Nat → Nat) : Prop where
  X : BoxAt w0 W K B
  hx : Blk W xb #[.int .i64 (d k : Nat), .int .i64 0, .int .i64 0, .slice (some ⟨lb, 0, none⟩) 1 lc] 51
  h7 : Blk W b7 #[.int .i64 (K.ag : Int)] 3
  h8 : Blk W b8 #[.int .i64 (K.cl : Int)] 3
  hp : PlanAt W g k d
  hg : g < W.heap.size
  hl : W.cell? ⟨lb, 0, none⟩ = some (.int .i64 (k : Int))
  ll : lb < W.heap.size
theorem Fa.step {w0 W W' : World} {K : Camp} {B xb b7 b8 g k lb lc : Nat} {d : Nat → Nat} (h : Fa w0 W K B xb b7 b8 g k lb lc d) (hb : Below W.heap.size W W') : Fa w0 W' K B xb b7 b8 g k lb lc d where
  X := h.X.step hb
  hx := h.hx.below hb h.hx.lt
  h7 := h.h7.below hb h.h7.lt
  h8 := h.h8.below hb h.h8.lt
  hp := h.hp.below h.hg hb (Nat.le_refl _)
  hg := Nat.lt_of_lt_of_le h.hg hb.size
  hl := (hb.cell (p := ⟨lb, 0, none⟩) h.ll).trans h.hl
  ll := Nat.lt_of_lt_of_le h.ll hb.size
theorem Fa.any71 {w0 W : World} {K : Camp} {B xb b7 b8 g k lb lc : Nat} {d : Nat → Nat} (h : Fa w0 W K B xb b7 b8 g k lb lc d) (hk : k ≤ 6) (cap : Nat) :
    Calls Tryd.prog 33 #[.slice (some ⟨g, 0, none⟩) k cap, .func (.func 71) #[] #[.pointer (some ⟨xb, 0, none⟩)]] W fun e w' => e = .returned (.bool false) ∧ Below W.heap.size W w' :=
  anyL71 _ g k cap d (fun _ => false) false W hk h.hg h.hp (by simp) (fun W' j yb yc hj hb ly hy => by
    have h' := h.step hb
    exact there71 W' xb lb lc yb yc j k (d j) (by omega) (h'.hx.cell 3 rfl) h'.hx.lt h'.hl h'.ll hy ly)
theorem Fa.any75 {w0 W : World} {K : Camp} {B xb b7 b8 g k lb lc : Nat} {d : Nat → Nat} (h : Fa w0 W K B xb b7 b8 g k lb lc d) (hk : k ≤ 6) (hgap : GapD (max K.ag K.cl) (k + 1) d) (hdk : d k ≤ 1000) (cap : Nat) :
    Calls Tryd.prog 33 #[.slice (some ⟨g, 0, none⟩) k cap, .func (.func 75) #[] #[.pointer (some ⟨xb, 0, none⟩), .pointer (some ⟨b7, 0, none⟩)]] W fun e w' => e = .returned (.bool false) ∧ Below W.heap.size W w' :=
  anyL75 _ _ g k cap d (fun _ => false) false W hk h.hg h.hp (by simp) (fun W' j yb yc hj hb ly hy => by
    have h' := h.step hb
    have := gap_le hgap hj (by omega)
    exact state75 W' xb b7 yb yc (d j) (d k) K.ag h.X.camp.ag1 (by omega) hdk (h'.hx.cell 0 rfl) (h'.hx.cell 1 rfl) h'.hx.lt (h'.h7.cell 0 rfl) h'.h7.lt)
theorem Fa.any76 {w0 W : World} {K : Camp} {B xb b7 b8 g k lb lc : Nat} {d : Nat → Nat} (h : Fa w0 W K B xb b7 b8 g k lb lc d) (hk : k ≤ 6) (hgap : GapD (max K.ag K.cl) (k + 1) d) (hdk : d k ≤ 1000) (cap : Nat) :
    Calls Tryd.prog 33 #[.slice (some ⟨g, 0, none⟩) k cap, .func (.func 76) #[] #[.pointer (some ⟨xb, 0, none⟩), .pointer (some ⟨b8, 0, none⟩)]] W fun e w' => e = .returned (.bool false) ∧ Below W.heap.size W w' :=
  anyL76 _ _ g k cap d (fun _ => false) false W hk h.hg h.hp (by simp) (fun W' j yb yc hj hb ly hy => by
    have h' := h.step hb
    have := gap_le hgap hj (by omega)
    exact full76 W' xb b8 yb yc (d j) (d k) K.cl (by omega) hdk (h'.hx.cell 0 rfl) (h'.hx.cell 2 rfl) h'.hx.lt (h'.h8.cell 0 rfl) h'.h8.lt)

set_option maxHeartbeats 1000000 in
theorem fault31 (K : Camp) (w : World) (h : CampAt w K) (g cap k lb lc : Nat) (d : Nat → Nat) (hk : k < K.n) (hg : g < w.heap.size) (hp : PlanAt w g k d) (hgap : GapD (max K.ag K.cl) (k + 1) d)
    (hl : w.cell? ⟨lb, 0, none⟩ = some (.int .i64 (k : Int))) (ll : lb < w.heap.size) :
    Calls Tryd.prog 31 #[K.val, .slice (some ⟨g, 0, none⟩) k cap, .agg #[.int .i64 (d k : Nat), .int .i64 0, .int .i64 0, .slice (some ⟨lb, 0, none⟩) 1 lc]] w fun e w' => e = .returned (.int .i64 (if d k ≤ K.lat k then 0 else 2)) ∧ Below w.heap.size w w' := by
  have hn6 := h.n6
  have hP := possible70 K w h (d k) k lb lc hk hl ll
  obtain ⟨W, hW⟩ : ∃ W, W = (w.alloc (.cells #[.slice (some ⟨K.cb, 0, none⟩) 1 1, .slice (some ⟨K.pb, 0, none⟩) 1 1, .slice (some ⟨K.gb, 0, none⟩) K.n K.gcap, .int .i64 0] 46)).alloc (.cells #[.int .i64 (d k : Nat), .int .i64 0, .int .i64 0, .slice (some ⟨lb, 0, none⟩) 1 lc] 51) := ⟨_, rfl⟩
  have X : BoxAt w W K w.heap.size := by rw [hW]; exact (BoxAt.new h).alloc _
  have hx : Blk W (w.heap.size + 1) #[.int .i64 (d k : Nat), .int .i64 0, .int .i64 0, .slice (some ⟨lb, 0, none⟩) 1 lc] 51 := by
    rw [hW]
    have := Blk.new (w.alloc (.cells #[.slice (some ⟨K.cb, 0, none⟩) 1 1, .slice (some ⟨K.pb, 0, none⟩) 1 1, .slice (some ⟨K.gb, 0, none⟩) K.n K.gcap, .int .i64 0] 46)) #[.int .i64 (d k : Nat), .int .i64 0, .int .i64 0, .slice (some ⟨lb, 0, none⟩) 1 lc] 51
    simpa using this
  have hsz : W.heap.size = w.heap.size + 2 := by rw [hW]; simp
  have hlW := (X.below.cell (p := ⟨lb, 0, none⟩) ll).trans hl
  have llW : lb < W.heap.size := by omega
  have hP := possible70 K W X.camp (d k) k lb lc hk hlW llW
  have k0 := X.c0
  have k1 := X.c1
  have k2 := X.c2
  have k3 := X.c3
  have x0 := hx.cell 0 rfl
  have x1 := hx.cell 1 rfl
  have x2 := hx.cell 2 rfl
  have x3 := hx.cell 3 rfl
  unfold Camp.val at hP ⊢
  by_cases hd : d k ≤ K.lat k
  · rw [decide_eq_true hd] at hP
    rw [if_pos hd]
    have hlk := h.late k hk
    have hd10 : d k ≤ 1000 := by omega
    clear hd
    go_enter Tryd.func31, Tryd.ntmps31
    go_wp2_with (rw [← hW]; clear hW; refine hP.mono ?_; rintro e w1 ⟨rfl, hb1⟩)
    have X1 := X.step hb1
    have hx1 : Blk w1 (w.heap.size + 1) #[.int .i64 (d k : Nat), .int .i64 0, .int .i64 0, .slice (some ⟨lb, 0, none⟩) 1 lc] 51 := hx.of_block (hb1.block _ (by omega))
    have hs1 := hb1.size
    have m0 := X1.c0
    have m1 := X1.c1
    have y1 := hx1.cell 1 rfl
    have y2 := hx1.cell 2 rfl
    have cc := X1.camp.c3
    have pp := X1.camp.p1
    go_region_held3 (fun w' => w'.cell? ⟨w.heap.size, 0, none⟩ = some (.slice (some ⟨K.cb, 0, none⟩) 1 1) ∧ w'.cell? ⟨w.heap.size, 1, none⟩ = some (.slice (some ⟨K.pb, 0, none⟩) 1 1) ∧
      w'.cell? ⟨w.heap.size + 1, 1, none⟩ = some (.int .i64 0) ∧ w'.cell? ⟨w.heap.size + 1, 2, none⟩ = some (.int .i64 0) ∧ w'.cell? ⟨K.cb, 3, none⟩ = some (.int .i64 (K.ag : Int)) ∧ w'.cell? ⟨K.pb, 1, none⟩ = some (.int .i64 (K.cl : Int))) (go_keep) (fail)
    · obtain ⟨W2, hW2⟩ : ∃ W2, W2 = ((w1.alloc (.cells #[.int .i64 (K.ag : Int)] 3)).alloc (.cells #[.int .i64 (K.cl : Int)] 3)).drew := ⟨_, rfl⟩
      have P : Blk W2 w1.heap.size #[.int .i64 (K.ag : Int)] 3 := by rw [hW2]; exact (Blk.new w1 _ _).alloc _
      have Q : Blk W2 (w1.heap.size + 1) #[.int .i64 (K.cl : Int)] 3 := by
        rw [hW2]
        have h9 : Blk ((w1.alloc (.cells #[.int .i64 (K.ag : Int)] 3)).alloc (.cells #[.int .i64 (K.cl : Int)] 3)) (w1.heap.size + 1) #[.int .i64 (K.cl : Int)] 3 := by
          have := Blk.new (w1.alloc (.cells #[.int .i64 (K.ag : Int)] 3)) #[.int .i64 (K.cl : Int)] 3
          simpa using this
        exact h9
      have hbW2 : Below w1.heap.size w1 W2 := by rw [hW2]; exact (((Below.refl _ _).alloc (Nat.le_refl _) _).alloc (by simp) _).drew
      rw [← hW2]
      clear hW2
      have hps1 := hbW2.size
      have F2 : Fa w W2 K w.heap.size (w.heap.size + 1) w1.heap.size (w1.heap.size + 1) g k lb lc d :=
        ⟨X1.step hbW2, hx1.below hbW2 hx1.lt, P, Q, hp.below hg (X1.step hbW2).below (Nat.le_refl _), by omega, ((X1.step hbW2).below.cell (p := ⟨lb, 0, none⟩) ll).trans hl, by omega⟩
      go_wp2
      by_cases hk0 : k = 0
      · have F2d := F2.step ((Below.refl _ _).drew)
        subst hk0
        refine wp_region_ord [(0, 0, 0), (1, 0, 1), (2, 0, 3), (3, 0, 7), (4, 0, 15), (5, 0, 15), (6, 0, 47), (7, 0, 111), (8, 0, 255), (9, 2, 511), (10, 2, 15), (11, 3, 2047), (12, 0, 4095), (13, 0, 8191), (14, 0, 16383)] false (by kernel_rfl) (by kernel_rfl) ?_
        repeat (first | (refine tx_P rfl (fun Z hZ => ?_); go_simp; refine hZ _ _ ?_; clear hZ Z) | (refine tx_L rfl (fun Z hZ => ?_); go_simp; refine hZ _ _ ?_; clear hZ Z) | (refine tx_E rfl (fun Z hZ => ?_); go_simp; refine hZ _ _ ?_; clear hZ Z))
        refine tx_nil ?_
        go_wp2_with fail
        refine (F2d.any71 (by omega) cap).mono ?_
        rintro e w3 ⟨rfl, hb3⟩
        have F3 := F2d.step hb3
        go_wp2_with fail
        refine (F3.any75 (by omega) hgap (by omega) cap).mono ?_
        rintro e w4 ⟨rfl, hb4⟩
        have F4 := F3.step hb4
        go_wp2_with fail
        refine (F4.any76 (by omega) hgap (by omega) cap).mono ?_
        rintro e w5 ⟨rfl, hb5⟩
        have F5 := F4.step hb5
        go_wp2_with fail
        go_ret
        exact ⟨rfl, F5.X.below⟩
      · obtain ⟨m, hm⟩ : ∃ m, m + 1 = k := ⟨k - 1, by omega⟩
        have hkp : decide (0 < k) = true := decide_eq_true (by omega)
        have vk : IntKind.i64.wrap ((k : Int) - 1) = (m : Int) := by rw [show (k : Int) - 1 = (m : Int) by omega]; exact IntWalk.i64_in _ (by omega)
        have hmk : m < k := by omega
        have hmk2 : (m : Int) < (k : Int) := by omega
        have hgm := gap_le hgap (k := k) (j := m) (by omega) (by omega)
        have hag1 := h.ag1
        have hcm : cmpI (d m : Nat) (d k : Nat) = -1 := by unfold cmpI; rw [if_pos (by omega)]
        obtain ⟨c0, c1, c2, lb', lc', c3, c4, c5⟩ := F2.hp m (by omega)
        have hCC := compare_any (d m : Nat) (d k : Nat) lb' lb lc' lc (m : Int) (k : Int) W2.drew (by omega) c5 F2.hl c4 F2.ll
        rw [hcm] at hCC
        have z0 := F2.hx.cell 0 rfl
        have z1 := F2.hx.cell 1 rfl
        have z2 := F2.hx.cell 2 rfl
        have z3 := F2.hx.cell 3 rfl
        refine wp_region_ord [(0, 0, 0), (1, 0, 1), (2, 0, 3), (3, 0, 7), (4, 0, 15), (5, 0, 15), (6, 0, 47), (7, 0, 111), (8, 0, 255), (9, 2, 511), (10, 2, 15), (11, 3, 2047), (12, 0, 4095), (13, 0, 8191), (14, 0, 16383)] false (by kernel_rfl) (by kernel_rfl) ?_
        repeat (first | (refine tx_P rfl (fun Z hZ => ?_); go_simp; refine hZ _ _ ?_; clear hZ Z) | (refine tx_L rfl (fun Z hZ => ?_); go_simp; refine hZ _ _ ?_; clear hZ Z))
        refine tx_E rfl (fun Z hZ => ?_)
        go_simp
        refine ⟨rfl, callsIn_wide.2 (hCC.mono ?_)⟩
        rintro e w6 ⟨rfl, hb6⟩
        refine hZ _ _ ?_; clear hZ Z
        have F6 := (F2.step ((Below.refl _ _).drew)).step hb6
        repeat (first | (refine tx_P rfl (fun Z hZ => ?_); go_simp; refine hZ _ _ ?_; clear hZ Z) | (refine tx_L rfl (fun Z hZ => ?_); go_simp; refine hZ _ _ ?_; clear hZ Z))
        refine tx_nil ?_
        go_wp2_with fail
        refine (F6.any71 (by omega) cap).mono ?_
        rintro e w3 ⟨rfl, hb3⟩
        have F3 := F6.step hb3
        go_wp2_with fail
        refine (F3.any75 (by omega) hgap (by omega) cap).mono ?_
        rintro e w4 ⟨rfl, hb4⟩
        have F4 := F3.step hb4
        go_wp2_with fail
        refine (F4.any76 (by omega) hgap (by omega) cap).mono ?_
        rintro e w5 ⟨rfl, hb5⟩
        have F5 := F4.step hb5
        go_wp2_with fail
        go_ret
        exact ⟨rfl, F5.X.below⟩
    · obtain ⟨W2, hW2⟩ : ∃ W2, W2 = ((w1.alloc (.cells #[.int .i64 (K.cl : Int)] 3)).alloc (.cells #[.int .i64 (K.ag : Int)] 3)).drew := ⟨_, rfl⟩
      have P : Blk W2 w1.heap.size #[.int .i64 (K.cl : Int)] 3 := by rw [hW2]; exact (Blk.new w1 _ _).alloc _
      have Q : Blk W2 (w1.heap.size + 1) #[.int .i64 (K.ag : Int)] 3 := by
        rw [hW2]
        have h9 : Blk ((w1.alloc (.cells #[.int .i64 (K.cl : Int)] 3)).alloc (.cells #[.int .i64 (K.ag : Int)] 3)) (w1.heap.size + 1) #[.int .i64 (K.ag : Int)] 3 := by
          have := Blk.new (w1.alloc (.cells #[.int .i64 (K.cl : Int)] 3)) #[.int .i64 (K.ag : Int)] 3
          simpa using this
        exact h9
      have hbW2 : Below w1.heap.size w1 W2 := by rw [hW2]; exact (((Below.refl _ _).alloc (Nat.le_refl _) _).alloc (by simp) _).drew
      rw [← hW2]
      clear hW2
      have hps1 := hbW2.size
      have F2 : Fa w W2 K w.heap.size (w.heap.size + 1) (w1.heap.size + 1) w1.heap.size g k lb lc d :=
        ⟨X1.step hbW2, hx1.below hbW2 hx1.lt, Q, P, hp.below hg (X1.step hbW2).below (Nat.le_refl _), by omega, ((X1.step hbW2).below.cell (p := ⟨lb, 0, none⟩) ll).trans hl, by omega⟩
      go_wp2
      by_cases hk0 : k = 0
      · have F2d := F2.step ((Below.refl _ _).drew)
        subst hk0
        refine wp_region_ord [(0, 0, 0), (1, 0, 1), (2, 0, 3), (3, 0, 7), (4, 0, 15), (5, 0, 15), (6, 0, 47), (7, 0, 111), (8, 0, 255), (9, 2, 511), (10, 2, 15), (11, 3, 2047), (12, 0, 4095), (13, 0, 8191), (14, 0, 16383)] false (by kernel_rfl) (by kernel_rfl) ?_
        repeat (first | (refine tx_P rfl (fun Z hZ => ?_); go_simp; refine hZ _ _ ?_; clear hZ Z) | (refine tx_L rfl (fun Z hZ => ?_); go_simp; refine hZ _ _ ?_; clear hZ Z) | (refine tx_E rfl (fun Z hZ => ?_); go_simp; refine hZ _ _ ?_; clear hZ Z))
        refine tx_nil ?_
        go_wp2_with fail
        refine (F2d.any71 (by omega) cap).mono ?_
        rintro e w3 ⟨rfl, hb3⟩
        have F3 := F2d.step hb3
        go_wp2_with fail
        refine (F3.any75 (by omega) hgap (by omega) cap).mono ?_
        rintro e w4 ⟨rfl, hb4⟩
        have F4 := F3.step hb4
        go_wp2_with fail
        refine (F4.any76 (by omega) hgap (by omega) cap).mono ?_
        rintro e w5 ⟨rfl, hb5⟩
        have F5 := F4.step hb5
        go_wp2_with fail
        go_ret
        exact ⟨rfl, F5.X.below⟩
      · obtain ⟨m, hm⟩ : ∃ m, m + 1 = k := ⟨k - 1, by omega⟩
        have hkp : decide (0 < k) = true := decide_eq_true (by omega)
        have vk : IntKind.i64.wrap ((k : Int) - 1) = (m : Int) := by rw [show (k : Int) - 1 = (m : Int) by omega]; exact IntWalk.i64_in _ (by omega)
        have hmk : m < k := by omega
        have hmk2 : (m : Int) < (k : Int) := by omega
        have hgm := gap_le hgap (k := k) (j := m) (by omega) (by omega)
        have hag1 := h.ag1
        have hcm : cmpI (d m : Nat) (d k : Nat) = -1 := by unfold cmpI; rw [if_pos (by omega)]
        obtain ⟨c0, c1, c2, lb', lc', c3, c4, c5⟩ := F2.hp m (by omega)
        have hCC := compare_any (d m : Nat) (d k : Nat) lb' lb lc' lc (m : Int) (k : Int) W2.drew (by omega) c5 F2.hl c4 F2.ll
        rw [hcm] at hCC
        have z0 := F2.hx.cell 0 rfl
        have z1 := F2.hx.cell 1 rfl
        have z2 := F2.hx.cell 2 rfl
        have z3 := F2.hx.cell 3 rfl
        refine wp_region_ord [(0, 0, 0), (1, 0, 1), (2, 0, 3), (3, 0, 7), (4, 0, 15), (5, 0, 15), (6, 0, 47), (7, 0, 111), (8, 0, 255), (9, 2, 511), (10, 2, 15), (11, 3, 2047), (12, 0, 4095), (13, 0, 8191), (14, 0, 16383)] false (by kernel_rfl) (by kernel_rfl) ?_
        repeat (first | (refine tx_P rfl (fun Z hZ => ?_); go_simp; refine hZ _ _ ?_; clear hZ Z) | (refine tx_L rfl (fun Z hZ => ?_); go_simp; refine hZ _ _ ?_; clear hZ Z))
        refine tx_E rfl (fun Z hZ => ?_)
        go_simp
        refine ⟨rfl, callsIn_wide.2 (hCC.mono ?_)⟩
        rintro e w6 ⟨rfl, hb6⟩
        refine hZ _ _ ?_; clear hZ Z
        have F6 := (F2.step ((Below.refl _ _).drew)).step hb6
        repeat (first | (refine tx_P rfl (fun Z hZ => ?_); go_simp; refine hZ _ _ ?_; clear hZ Z) | (refine tx_L rfl (fun Z hZ => ?_); go_simp; refine hZ _ _ ?_; clear hZ Z))
        refine tx_nil ?_
        go_wp2_with fail
        refine (F6.any71 (by omega) cap).mono ?_
        rintro e w3 ⟨rfl, hb3⟩
        have F3 := F6.step hb3
        go_wp2_with fail
        refine (F3.any75 (by omega) hgap (by omega) cap).mono ?_
        rintro e w4 ⟨rfl, hb4⟩
        have F4 := F3.step hb4
        go_wp2_with fail
        refine (F4.any76 (by omega) hgap (by omega) cap).mono ?_
        rintro e w5 ⟨rfl, hb5⟩
        have F5 := F4.step hb5
        go_wp2_with fail
        go_ret
        exact ⟨rfl, F5.X.below⟩
  · rw [decide_eq_false hd] at hP
    rw [if_neg hd]
    clear hd
    go_enter Tryd.func31, Tryd.ntmps31
    go_wp2_with (rw [← hW]; clear hW; refine hP.mono ?_; rintro e w1 ⟨rfl, hb1⟩)
    go_ret
    exact ⟨rfl, (X.step hb1).below⟩
end Go.Proofs.YtempbknidpmncaaDoor
