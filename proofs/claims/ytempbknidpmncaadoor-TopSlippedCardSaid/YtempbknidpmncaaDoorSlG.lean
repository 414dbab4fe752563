/-
  TopSlipped: the walks of CheckPlan, valid, meant, Room and Worth.
-/
import Derived.Test.YtempbknidpmncaaDoorSlF
namespace Go.Proofs.YtempbknidpmncaaDoor
open Go.RowKit

theorem GapD.take {s n m : Nat} {d : Nat → Nat} (h : GapD s n d) (hm : m ≤ n) : GapD s m d := fun j hj => h j (by omega)

/-- A plan of the law's campaign. -/
structure PlanOk (w : World) (K : Camp) (g cap : Nat) (d : Nat → Nat) : Prop where
  at_ : PlanAt w g K.n d
  lt : g < w.heap.size
  cap1 : K.n ≤ cap
  cap2 : cap ≤ maxLen
  gap : GapD (max K.ag K.cl) K.n d
theorem PlanOk.below {w w' : World} {K : Camp} {g cap : Nat} {d : Nat → Nat} (h : PlanOk w K g cap d) (hb : Below w.heap.size w w') : PlanOk w' K g cap d where
  at_ := h.at_.below h.lt hb (Nat.le_refl _)
  lt := Nat.lt_of_lt_of_le h.lt hb.size
  cap1 := h.cap1
  cap2 := h.cap2
  gap := h.gap

set_option maxHeartbeats 1000000 in
theorem CheckPlan_any (K : Camp) (w : World) (h : CampAt w K) (g cap : Nat) (d : Nat → Nat) (hp : PlanOk w K g cap d) :
    Calls Tryd.prog 13 #[K.val, .slice (some ⟨g, 0, none⟩) K.n cap] w fun e w' => (∃ z c : Int, e = .returned (.tuple #[.int .i64 z, .int .i64 c]) ∧ (okN K.lat d K.n = true → z = -1 ∧ c = 0) ∧ (okN K.lat d K.n = false → c = 2)) ∧ Below w.heap.size w w' := by
  have hn6 := h.n6
  have hcap := hp.cap1
  have hcap2 := hp.cap2
  obtain ⟨W, hW⟩ : ∃ W, W = w.alloc (.cells #[.slice (some ⟨K.cb, 0, none⟩) 1 1, .slice (some ⟨K.pb, 0, none⟩) 1 1, .slice (some ⟨K.gb, 0, none⟩) K.n K.gcap, .int .i64 0] 46) := ⟨_, rfl⟩
  have X : BoxAt w W K w.heap.size := by rw [hW]; exact BoxAt.new h
  have k0 := X.c0
  have k1 := X.c1
  have k2 := X.c2
  have k3 := X.c3
  have hC := Check_any K W X.camp
  unfold Camp.val at hC ⊢
  go_enter Tryd.func13, Tryd.ntmps13
  go_wp2_with (rw [← hW]; clear hW; refine hC.mono ?_; rintro e w1 ⟨rfl, hb1⟩)
  have X1 := X.step hb1
  clear hC
  go_loopw [6, 7, 8, 14] (fun _ _ _ i wr => ∃ k : Nat, k ≤ K.n ∧ i = .int .i64 (k : Int) ∧ BoxAt w wr K w.heap.size ∧ okN K.lat d k = true) (fun _ _ _ i _ => K.n - (intOf i).toNat)
  case atStart => exact ⟨0, Nat.zero_le _, rfl, X1, rfl⟩
  case round =>
    obtain ⟨k, hk, rfl, XR, hok⟩ := hrel
    have HOK := Lib.hid hok
    clear hok k0 k1 k2 k3 X X1
    by_cases hlt : k < K.n
    · have hpr := hp.at_.below hp.lt XR.below (Nat.le_refl _)
      obtain ⟨c0, c1, c2, lb, lc, c3, c4, c5⟩ := hpr k hlt
      have hgr : g < wr.heap.size := Nat.lt_of_lt_of_le hp.lt XR.below.size
      obtain ⟨W2, hW2⟩ : ∃ W2, W2 = wr.alloc (.cells #[.int .i64 (d k : Nat), .int .i64 0, .int .i64 0, .slice (some ⟨lb, 0, none⟩) 1 lc] 51) := ⟨_, rfl⟩
      have X2 : BoxAt w W2 K w.heap.size := by rw [hW2]; exact XR.alloc _
      have hx : Blk W2 wr.heap.size #[.int .i64 (d k : Nat), .int .i64 0, .int .i64 0, .slice (some ⟨lb, 0, none⟩) 1 lc] 51 := by rw [hW2]; exact Blk.new _ _ _
      have hb2 : Below wr.heap.size wr W2 := by rw [hW2]; exact (Below.refl _ _).alloc (Nat.le_refl _) _
      have hs2 := hb2.size
      have k0 := X2.c0
      have k1 := X2.c1
      have k2 := X2.c2
      have k3 := X2.c3
      have x0 := hx.cell 0 rfl
      have x1 := hx.cell 1 rfl
      have x2 := hx.cell 2 rfl
      have x3 := hx.cell 3 rfl
      have hF := fault31 K W2.drew X2.drew.camp g cap k lb lc d hlt (show g < W2.heap.size by omega) (((hpr.take hk).below hgr hb2 (Nat.le_refl _)).below (show g < W2.heap.size by omega) (Below.refl _ _).drew (Nat.le_refl _)) (hp.gap.take hlt)
        ((hb2.cell (p := ⟨lb, 0, none⟩) c4).trans c5) (show lb < W2.heap.size by omega)
      have hkc : k ≤ cap := by omega
      have hkc2 : (k : Int) ≤ (cap : Int) := by omega
      clear hpr hp
      unfold Camp.val at hF
      by_cases hd : d k ≤ K.lat k
      · rw [if_pos hd] at hF
        have HD := Lib.hid hd
        clear hd
        go_wp2
        rw [← hW2]
        clear hW2
        refine wp_region_ord [(0, 2, 0), (1, 0, 0), (2, 0, 0), (3, 0, 6), (4, 2, 0), (5, 3, 31), (6, 0, 63)] false (by kernel_rfl) (by kernel_rfl) ?_
        repeat (first | (refine tx_P rfl (fun Z hZ => ?_); go_simp; refine hZ _ _ ?_; clear hZ Z) | (refine tx_L rfl (fun Z hZ => ?_); go_simp; refine hZ _ _ ?_; clear hZ Z))
        refine tx_E rfl (fun Z hZ => ?_)
        go_simp
        refine ⟨rfl, callsIn_wide.2 (hF.mono ?_)⟩
        rintro e w3 ⟨rfl, hb3⟩
        refine hZ _ _ ?_; clear hZ Z
        repeat (first | (refine tx_P rfl (fun Z hZ => ?_); go_simp; refine hZ _ _ ?_; clear hZ Z) | (refine tx_L rfl (fun Z hZ => ?_); go_simp; refine hZ _ _ ?_; clear hZ Z))
        refine tx_nil ?_
        go_wp2
        go_roundw
        case rel => exact ⟨k + 1, by omega, by go_num, X2.drew.step hb3, by rw [okN_succ, HOK.out, decide_eq_true HD.out]; rfl⟩
        case measure => simp [intOf] <;> omega
      · rw [if_neg hd] at hF
        have HD := Lib.hid hd
        clear hd
        go_wp2
        rw [← hW2]
        clear hW2
        refine wp_region_ord [(0, 2, 0), (1, 0, 0), (2, 0, 0), (3, 0, 6), (4, 2, 0), (5, 3, 31), (6, 0, 63)] false (by kernel_rfl) (by kernel_rfl) ?_
        repeat (first | (refine tx_P rfl (fun Z hZ => ?_); go_simp; refine hZ _ _ ?_; clear hZ Z) | (refine tx_L rfl (fun Z hZ => ?_); go_simp; refine hZ _ _ ?_; clear hZ Z))
        refine tx_E rfl (fun Z hZ => ?_)
        go_simp
        refine ⟨rfl, callsIn_wide.2 (hF.mono ?_)⟩
        rintro e w3 ⟨rfl, hb3⟩
        refine hZ _ _ ?_; clear hZ Z
        repeat (first | (refine tx_P rfl (fun Z hZ => ?_); go_simp; refine hZ _ _ ?_; clear hZ Z) | (refine tx_L rfl (fun Z hZ => ?_); go_simp; refine hZ _ _ ?_; clear hZ Z))
        refine tx_nil ?_
        go_wp2
        go_ret2
        have hno : okN K.lat d K.n = false := okN_no.2 ⟨k, hlt, by have := HD.out; omega⟩
        exact ⟨⟨(k : Int), 2, rfl, fun h => (by rw [hno] at h; cases h), fun _ => rfl⟩, (X2.drew.step hb3).below⟩
    · obtain rfl : k = K.n := by omega
      clear hp
      go_wp2
      go_ret2
      exact ⟨⟨-1, 0, rfl, fun _ => ⟨rfl, rfl⟩, fun h => (by rw [HOK.out] at h; cases h)⟩, XR.below⟩

theorem validC_any (K : Camp) (w : World) (h : CampAt w K) (g cap : Nat) (d : Nat → Nat) (hp : PlanOk w K g cap d) :
    Calls Tryd.prog 32 #[K.val, .slice (some ⟨g, 0, none⟩) K.n cap] w fun e w' => e = .returned (.bool (okN K.lat d K.n)) ∧ Below w.heap.size w w' := by
  obtain ⟨W, hW⟩ : ∃ W, W = w.alloc (.cells #[.slice (some ⟨K.cb, 0, none⟩) 1 1, .slice (some ⟨K.pb, 0, none⟩) 1 1, .slice (some ⟨K.gb, 0, none⟩) K.n K.gcap, .int .i64 0] 46) := ⟨_, rfl⟩
  have X : BoxAt w W K w.heap.size := by rw [hW]; exact BoxAt.new h
  have k0 := X.c0
  have k1 := X.c1
  have k2 := X.c2
  have k3 := X.c3
  have hC := CheckPlan_any K W X.camp g cap d (hp.below X.below)
  generalize okN K.lat d K.n = r at *
  unfold Camp.val at hC ⊢
  go_enter Tryd.func32, Tryd.ntmps32
  cases r
  · go_wp2_with (rw [← hW]; clear hW; refine hC.mono ?_; rintro e w1 ⟨⟨z, c, rfl, h1, h2⟩, hb1⟩; obtain rfl := h2 rfl; clear h1 h2)
    go_ret
    exact ⟨rfl, (X.step hb1).below⟩
  · go_wp2_with (rw [← hW]; clear hW; refine hC.mono ?_; rintro e w1 ⟨⟨z, c, rfl, h1, h2⟩, hb1⟩; obtain ⟨rfl, rfl⟩ := h1 rfl; clear h1 h2)
    go_ret
    exact ⟨rfl, (X.step hb1).below⟩

theorem meant_any (K : Camp) (w : World) (h : CampAt w K) (g cap i : Nat) (d : Nat → Nat) (hp : PlanOk w K g cap d) (hok : okN K.lat d K.n = true) (hi : i < K.n) :
    Calls Tryd.prog 36 #[K.val, .slice (some ⟨g, 0, none⟩) K.n cap, .int .i64 (i : Int)] w fun e w' => e = .returned (.int .i64 0) ∧ Below w.heap.size w w' := by
  have hn6 := h.n6
  obtain ⟨W, hW⟩ : ∃ W, W = w.alloc (.cells #[.slice (some ⟨K.cb, 0, none⟩) 1 1, .slice (some ⟨K.pb, 0, none⟩) 1 1, .slice (some ⟨K.gb, 0, none⟩) K.n K.gcap, .int .i64 0] 46) := ⟨_, rfl⟩
  have X : BoxAt w W K w.heap.size := by rw [hW]; exact BoxAt.new h
  have k0 := X.c0
  have k1 := X.c1
  have k2 := X.c2
  have k3 := X.c3
  have hC := validC_any K W X.camp g cap d (hp.below X.below)
  rw [hok] at hC
  clear hok
  have vn : IntKind.i64.wrap ((K.n : Int) - 1) = (K.n : Int) - 1 := IntWalk.i64_in _ (by omega)
  unfold Camp.val at hC ⊢
  go_enter Tryd.func36, Tryd.ntmps36
  go_wp2_with (first
    | (rw [← hW]; clear hW; refine hC.mono ?_; rintro e w1 ⟨rfl, hb1⟩)
    | (refine (withinC_yes _ _ _ _ (by omega) (by omega)).mono ?_; rintro e w2 ⟨rfl, rfl⟩))
  go_ret
  exact ⟨rfl, (X.step hb1).below⟩

set_option maxHeartbeats 1000000 in
theorem Room_any (K : Camp) (w : World) (h : CampAt w K) (g cap i : Nat) (d : Nat → Nat) (hp : PlanOk w K g cap d) (hok : okN K.lat d K.n = true) (hi : i < K.n) :
    Calls Tryd.prog 15 #[K.val, .slice (some ⟨g, 0, none⟩) K.n cap, .int .i64 (i : Int)] w fun e w' => e = .returned (.tuple #[.int .i64 (8 - (i : Int)), .int .i64 0]) ∧ Below w.heap.size w w' := by
  have hn6 := h.n6
  obtain ⟨W, hW⟩ : ∃ W, W = w.alloc (.cells #[.slice (some ⟨K.cb, 0, none⟩) 1 1, .slice (some ⟨K.pb, 0, none⟩) 1 1, .slice (some ⟨K.gb, 0, none⟩) K.n K.gcap, .int .i64 0] 46) := ⟨_, rfl⟩
  have X : BoxAt w W K w.heap.size := by rw [hW]; exact BoxAt.new h
  have k0 := X.c0
  have k1 := X.c1
  have k2 := X.c2
  have k3 := X.c3
  have hC := meant_any K W X.camp g cap i d (hp.below X.below) hok hi
  unfold Camp.val at hC ⊢
  go_enter Tryd.func15, Tryd.ntmps15
  go_wp2_with (rw [← hW]; clear hW; refine hC.mono ?_; rintro e w1 ⟨rfl, hb1⟩)
  clear hC k0 k1 k2 k3
  have X1 := X.step hb1
  have hp1 := hp.below X1.below
  have k0 := X1.c0
  have k1 := X1.c1
  have k2 := X1.c2
  have k3 := X1.c3
  have hBs := X1.lt
  obtain ⟨c0, c1, c2, lb, lc, c3, c4, c5⟩ := hp1.at_ i hi
  have hg1 := hp1.lt
  have hM := most37 K w1.drew X1.drew.camp
  unfold Camp.val at hM
  clear hp hp1
  refine wp_region_ord [(0, 2, 0), (1, 0, 0), (2, 0, 0), (3, 0, 6), (4, 0, 14), (5, 2, 30), (7, 1, 0), (8, 0, 0), (9, 0, 0), (10, 0, 768), (11, 0, 1792), (12, 1, 3840), (6, 3, 63), (13, 3, 8191), (14, 0, 16383), (15, 0, 32767), (16, 0, 65535)] true (by kernel_rfl) (by kernel_rfl) ?_
  repeat (first | (refine tx_P rfl (fun Z hZ => ?_); go_simp; refine hZ _ _ ?_; clear hZ Z) | (refine tx_L rfl (fun Z hZ => ?_); go_simp; refine hZ _ _ ?_; clear hZ Z) | (refine tx_H rfl (fun Z hZ => ?_); go_simp; refine ⟨_, fun w' hw' => by first | (rw [belowCellD hw' c3 (by first | omega | (simp; omega))]; rfl), ?_⟩; refine hZ _ _ ?_; clear hZ Z) | (refine tx_H rfl (fun Z hZ => ?_); go_simp; refine ⟨_, fun w' hw' => (by (simp only [belowCellD hw' k0 (show _ < _ by first | omega | (simp; omega)), belowCellD hw' k1 (show _ < _ by first | omega | (simp; omega)), belowCellD hw' k2 (show _ < _ by first | omega | (simp; omega)), belowCellD hw' k3 (show _ < _ by first | omega | (simp; omega)), Result.andThen_ok]; first | done | rfl)), ?_⟩; refine hZ _ _ ?_; clear hZ Z))
  refine tx_EK rfl (fun Z hZ => ?_)
  go_simp
  refine ⟨rfl, callsIn_wide.2 (hM.mono ?_)⟩
  rintro e w2 ⟨rfl, hb2⟩
  refine hZ _ _ hb2 ?_; clear hZ Z
  have X2 := X1.drew.step hb2
  have hS := mass38 K w2 X2.camp lb lc i hi ((hb2.cell (p := ⟨lb, 0, none⟩) c4).trans c5) (Nat.lt_of_lt_of_le c4 hb2.size)
  unfold Camp.val at hS
  refine tx_EK rfl (fun Z hZ => ?_)
  go_simp
  refine ⟨rfl, callsIn_wide.2 (hS.mono ?_)⟩
  rintro e w3 ⟨rfl, hb3⟩
  refine hZ _ _ (hb2.trans (hb3.mono hb2.size)) ?_; clear hZ Z
  have v9 : IntKind.i64.wrap (9 - (1 + (i : Int))) = 8 - (i : Int) := by rw [show (9 - (1 + (i : Int)) : Int) = 8 - (i : Int) by omega]; exact IntWalk.i64_in _ (by omega)
  repeat (first | (refine tx_P rfl (fun Z hZ => ?_); go_simp; refine hZ _ _ ?_; clear hZ Z) | (refine tx_L rfl (fun Z hZ => ?_); go_simp; refine hZ _ _ ?_; clear hZ Z))
  refine tx_nil ?_
  go_wp2
  go_ret2
  exact ⟨rfl, (X2.step hb3).below⟩

def sqs : Nat → Nat
  | 0 => 0
  | n + 1 => sqs n + n * n
theorem sqs_le : ∀ {n : Nat}, n ≤ 6 → sqs n ≤ 55
  | 0, _ => by decide
  | 1, _ => by decide
  | 2, _ => by decide
  | 3, _ => by decide
  | 4, _ => by decide
  | 5, _ => by decide
  | 6, _ => by decide
theorem there34 (w : World) (yb yc b7 dj j i : Nat) (hy : w.cell? ⟨yb, 0, none⟩ = some (.int .i64 (j : Int))) (ly : yb < w.heap.size) (h7 : w.cell? ⟨b7, 0, none⟩ = some (.int .i64 (i : Int))) (l7 : b7 < w.heap.size) :
    Calls Tryd.prog 34 #[.agg #[.int .i64 (dj : Int), .int .i64 0, .int .i64 0, .slice (some ⟨yb, 0, none⟩) 1 yc], .pointer (some ⟨b7, 0, none⟩)] w fun e w' => e = .returned (.bool (decide (j = i))) ∧ Below w.heap.size w w' := by
  have hb : ∀ o, Below w.heap.size w (w.alloc o) := fun o => (Below.refl _ _).alloc (Nat.le_refl _) _
  have e7 : ∀ o, (w.alloc o).cell? ⟨b7, 0, none⟩ = some (.int .i64 (i : Int)) := fun o => ((hb o).cell (p := ⟨b7, 0, none⟩) l7).trans h7
  have ey : ∀ o, (w.alloc o).cell? ⟨yb, 0, none⟩ = some (.int .i64 (j : Int)) := fun o => ((hb o).cell (p := ⟨yb, 0, none⟩) ly).trans hy
  have hr : decide ((i : Int) = (j : Int)) = decide (j = i) := by
    by_cases h : j = i
    · subst h; simp
    · rw [decide_eq_false h, decide_eq_false (by omega)]
  generalize decide (j = i) = r at *
  go_enter Tryd.func34, Tryd.ntmps34
  go_wp2_with (refine (Contains_one yb yc (j : Int) (i : Int) _ (ey _)).mono ?_; rw [hr]; rintro e w1 ⟨rfl, rfl⟩)
  go_ret
  exact ⟨rfl, hb _⟩
set_option maxHeartbeats 1000000 in
theorem Worth_any (K : Camp) (w : World) (h : CampAt w K) (g cap : Nat) (d : Nat → Nat) (hp : PlanOk w K g cap d) (hok : okN K.lat d K.n = true) :
    Calls Tryd.prog 14 #[K.val, .slice (some ⟨g, 0, none⟩) K.n cap] w fun e w' => e = .returned (.tuple #[.int .i64 (sqs K.n : Nat), .bool true, .int .i64 0]) ∧ Below w.heap.size w w' := by
  have hn6 := h.n6
  obtain ⟨W, hW⟩ : ∃ W, W = w.alloc (.cells #[.slice (some ⟨K.cb, 0, none⟩) 1 1, .slice (some ⟨K.pb, 0, none⟩) 1 1, .slice (some ⟨K.gb, 0, none⟩) K.n K.gcap, .int .i64 0] 46) := ⟨_, rfl⟩
  have X : BoxAt w W K w.heap.size := by rw [hW]; exact BoxAt.new h
  have k0 := X.c0
  have k1 := X.c1
  have k2 := X.c2
  have k3 := X.c3
  have hC := validC_any K W X.camp g cap d (hp.below X.below)
  rw [hok] at hC
  unfold Camp.val at hC ⊢
  go_enter Tryd.func14, Tryd.ntmps14
  go_wp2_with (first | (rw [← hW]; clear hW; refine hC.mono ?_; rintro e w1 ⟨rfl, hb1⟩; have X1 := X.step hb1; have m2 := X1.c2))
  clear hC k0 k1 k2 k3 m2
  go_loopw [4, 5, 7, 8, 16] (fun v c _ _ i wr => ∃ k : Nat, k ≤ K.n ∧ i = .int .i64 (k : Int) ∧ v = .int .i64 (sqs k : Nat) ∧ c = .bool true ∧ BoxAt w wr K w.heap.size) (fun _ _ _ _ i _ => K.n - (intOf i).toNat)
  case atStart => exact ⟨0, Nat.zero_le _, rfl, rfl, rfl, X1⟩
  case round =>
    obtain ⟨k, hk, rfl, rfl, rfl, XR⟩ := hrel
    by_cases hlt : k < K.n
    · obtain ⟨c0, c1, c2, c3, c4, c5⟩ := XR.camp.g k hlt
      have hpr := hp.below XR.below
      have hsq : sqs (k + 1) = sqs k + k * k := rfl
      have hsl := sqs_le (n := k + 1) (by omega)
      rw [hsq] at hsl
      generalize 1 + k = mk at c1
      generalize k * k = kk at *
      obtain ⟨W2, hW2⟩ : ∃ W2, W2 = (wr.alloc (.cells #[.int .i64 (k : Int)] 3)).alloc (.cells #[.string (dname k), .int .i64 (mk : Nat), .int .i64 (kk : Nat), .int .i64 0, .int .i64 (K.lat k : Nat), .bool false] 49) := ⟨_, rfl⟩
      have hb2 : Below wr.heap.size wr W2 := by rw [hW2]; exact ((Below.refl _ _).alloc (Nat.le_refl _) _).alloc (by simp) _
      have h7 : Blk W2 wr.heap.size #[.int .i64 (k : Int)] 3 := by rw [hW2]; exact (Blk.new wr _ _).alloc _
      have h8 : Blk W2 (wr.heap.size + 1) #[.string (dname k), .int .i64 (mk : Nat), .int .i64 (kk : Nat), .int .i64 0, .int .i64 (K.lat k : Nat), .bool false] 49 := by
        rw [hW2]
        have := Blk.new (wr.alloc (.cells #[.int .i64 (k : Int)] 3)) #[.string (dname k), .int .i64 (mk : Nat), .int .i64 (kk : Nat), .int .i64 0, .int .i64 (K.lat k : Nat), .bool false] 49
        simpa using this
      have X2 := XR.step hb2
      have hp2 := hpr.below hb2
      have hA := anyL34 (.pointer (some ⟨wr.heap.size, 0, none⟩)) g K.n cap d (fun j => decide (j = k)) true W2 hn6 hp2.lt hp2.at_ ⟨fun _ => ⟨k, hlt, by simp⟩, fun _ => rfl⟩ (fun W' j yb yc hj hb ly hy =>
        there34 W' yb yc wr.heap.size (d j) j k hy ly ((h7.below hb h7.lt).cell 0 rfl) (Nat.lt_of_lt_of_le h7.lt hb.size))
      have HS := Lib.hid hsq
      generalize sqs k = sk at *
      have vs : IntKind.i64.wrap ((sk : Int) + (kk : Int)) = (sk : Int) + (kk : Int) := IntWalk.i64_in _ (by omega)
      clear hsq hp hpr hp2
      go_wp2_with (rw [← hW2]; clear hW2; refine hA.mono ?_; rintro e w3 ⟨rfl, hb3⟩; have z2 := (h8.below hb3 h8.lt).cell 2 rfl)
      go_roundw
      case rel => exact ⟨k + 1, by omega, by go_num, by rw [HS.out]; go_num, rfl, X2.step hb3⟩
      case measure => simp [intOf] <;> omega
    · obtain rfl : k = K.n := by omega
      clear hp
      go_wp2
      go_ret3
      exact ⟨rfl, XR.below⟩
end Go.Proofs.YtempbknidpmncaaDoor
