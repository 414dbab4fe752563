/-
  TopSlipped: the walk of possible.
-/
import Derived.Test.YtempbknidpmncaaDoorSlD
namespace Go.Proofs.YtempbknidpmncaaDoor
open Go.RowKit

set_option maxHeartbeats 1000000 in
theorem possible70 (K : Camp) (w : World) (h : CampAt w K) (d i lb lc : Nat) (hi : i < K.n) (hl : w.cell? ⟨lb, 0, none⟩ = some (.int .i64 (i : Int))) (ll : lb < w.heap.size) :
    Calls Tryd.prog 70 #[K.val, .agg #[.int .i64 (d : Int), .int .i64 0, .int .i64 0, .slice (some ⟨lb, 0, none⟩) 1 lc]] w fun e w' => e = .returned (.bool (decide (d ≤ K.lat i))) ∧ Below w.heap.size w w' := by
  have hn6 := h.n6
  have hlat := h.late i hi
  obtain ⟨W, hW⟩ : ∃ W, W = (w.alloc (.cells #[.slice (some ⟨K.cb, 0, none⟩) 1 1, .slice (some ⟨K.pb, 0, none⟩) 1 1, .slice (some ⟨K.gb, 0, none⟩) K.n K.gcap, .int .i64 0] 46)).alloc (.cells #[.int .i64 (d : Int), .int .i64 0, .int .i64 0, .slice (some ⟨lb, 0, none⟩) 1 lc] 51) := ⟨_, rfl⟩
  have X : BoxAt w W K w.heap.size := by rw [hW]; exact (BoxAt.new h).alloc _
  have hx : Blk W (w.heap.size + 1) #[.int .i64 (d : Int), .int .i64 0, .int .i64 0, .slice (some ⟨lb, 0, none⟩) 1 lc] 51 := by
    rw [hW]
    have := Blk.new (w.alloc (.cells #[.slice (some ⟨K.cb, 0, none⟩) 1 1, .slice (some ⟨K.pb, 0, none⟩) 1 1, .slice (some ⟨K.gb, 0, none⟩) K.n K.gcap, .int .i64 0] 46)) #[.int .i64 (d : Int), .int .i64 0, .int .i64 0, .slice (some ⟨lb, 0, none⟩) 1 lc] 51
    simpa using this
  have hsz : W.heap.size = w.heap.size + 2 := by rw [hW]; simp
  have hlW := (X.below.cell (p := ⟨lb, 0, none⟩) ll).trans hl
  have llW : lb < W.heap.size := by omega
  have k0 := X.c0
  have k1 := X.c1
  have k2 := X.c2
  have k3 := X.c3
  have x0 := hx.cell 0 rfl
  have x1 := hx.cell 1 rfl
  have x2 := hx.cell 2 rfl
  have x3 := hx.cell 3 rfl
  have p2 := X.camp.p2
  have q2 := X.camp.c2
  have d0 := X.camp.d0
  have v0 : IntKind.i64.wrap 0 = 0 := IntWalk.i64_in _ (by omega)
  generalize hrr : decide (d ≤ K.lat i) = r
  have HR := Lib.hid hrr
  clear hrr
  unfold Camp.val
  go_enter Tryd.func70, Tryd.ntmps70
  go_wp2
  rw [← hW]
  clear hW
  refine wp_region_ord [(0, 0, 0), (1, 2, 1), (2, 0, 0), (3, 2, 4), (4, 0, 12), (5, 0, 28), (6, 3, 63), (7, 0, 127), (8, 0, 255), (9, 0, 511), (10, 2, 1023), (11, 0, 511), (12, 2, 2559), (13, 0, 6655), (14, 0, 14847), (15, 3, 32767), (16, 0, 65535), (17, 0, 131071), (18, 0, 262143), (19, 0, 524287), (20, 2, 1048575), (21, 0, 524287), (22, 2, 2621439), (23, 0, 8388607), (24, 0, 16777215), (25, 2, 33554431), (26, 0, 524287), (27, 2, 67633151), (28, 3, 268435455), (29, 0, 536870911), (30, 0, 1073741823)] false (by kernel_rfl) (by kernel_rfl) ?_
  repeat (first | (refine tx_P rfl (fun Z hZ => ?_); go_simp; refine hZ _ _ ?_; clear hZ Z) | (refine tx_L rfl (fun Z hZ => ?_); go_simp; refine hZ _ _ ?_; clear hZ Z))
  refine tx_E rfl (fun Z hZ => ?_)
  go_simp
  refine ⟨rfl, callsIn_wide.2 ((withinC_yes _ _ _ _ (by omega) (by omega)).mono ?_)⟩
  rintro e w1 ⟨rfl, rfl⟩
  refine hZ _ _ ?_; clear hZ Z
  repeat (first | (refine tx_P rfl (fun Z hZ => ?_); go_simp; refine hZ _ _ ?_; clear hZ Z) | (refine tx_L rfl (fun Z hZ => ?_); go_simp; refine hZ _ _ ?_; clear hZ Z))
  refine tx_E rfl (fun Z hZ => ?_)
  go_simp
  refine ⟨rfl, callsIn_wide.2 ((withinC_yes _ _ _ _ (by omega) (by omega)).mono ?_)⟩
  rintro e w1 ⟨rfl, rfl⟩
  refine hZ _ _ ?_; clear hZ Z
  repeat (first | (refine tx_P rfl (fun Z hZ => ?_); go_simp; refine hZ _ _ ?_; clear hZ Z) | (refine tx_L rfl (fun Z hZ => ?_); go_simp; refine hZ _ _ ?_; clear hZ Z))
  refine tx_E rfl (fun Z hZ => ?_)
  go_simp
  refine ⟨rfl, callsIn_wide.2 ((Contains_one _ _ 0 0 W.drew d0).mono ?_)⟩
  rintro e w1 ⟨rfl, rfl⟩
  refine hZ _ _ ?_; clear hZ Z
  repeat (first | (refine tx_P rfl (fun Z hZ => ?_); go_simp; refine hZ _ _ ?_; clear hZ Z) | (refine tx_L rfl (fun Z hZ => ?_); go_simp; refine hZ _ _ ?_; clear hZ Z))
  refine tx_nil ?_
  go_wp2
  by_cases h10 : d ≤ 10000
  · refine wp_region_ord [(0, 0, 0), (1, 2, 1), (2, 0, 0), (3, 2, 4), (4, 0, 0), (5, 2, 16), (6, 0, 60), (7, 0, 124), (8, 2, 252), (9, 3, 511), (10, 0, 1023), (11, 0, 2047), (12, 0, 4095), (13, 2, 8191), (14, 0, 16383), (15, 0, 32767), (16, 0, 65535), (17, 0, 131071), (18, 0, 262143), (19, 2, 524287), (20, 0, 262143), (21, 2, 1310719), (22, 0, 3407871), (23, 3, 8388607), (24, 0, 16777215), (25, 0, 33554431)] false (by kernel_rfl) (by kernel_rfl) ?_
    repeat (first | (refine tx_P rfl (fun Z hZ => ?_); go_simp; refine hZ _ _ ?_; clear hZ Z) | (refine tx_L rfl (fun Z hZ => ?_); go_simp; refine hZ _ _ ?_; clear hZ Z))
    refine tx_E rfl (fun Z hZ => ?_)
    go_simp
    refine ⟨rfl, callsIn_wide.2 ((withinC_yes _ _ _ _ (by omega) (by omega)).mono ?_)⟩
    rintro e w1 ⟨rfl, rfl⟩
    refine hZ _ _ ?_; clear hZ Z
    repeat (first | (refine tx_P rfl (fun Z hZ => ?_); go_simp; refine hZ _ _ ?_; clear hZ Z) | (refine tx_L rfl (fun Z hZ => ?_); go_simp; refine hZ _ _ ?_; clear hZ Z))
    refine tx_E rfl (fun Z hZ => ?_)
    go_simp
    refine ⟨rfl, callsIn_wide.2 ((rising_one lb lc i K.n W.drew.drew hi (by omega) hlW).mono ?_)⟩
    rintro e w1 ⟨rfl, rfl⟩
    refine hZ _ _ ?_; clear hZ Z
    repeat (first | (refine tx_P rfl (fun Z hZ => ?_); go_simp; refine hZ _ _ ?_; clear hZ Z) | (refine tx_L rfl (fun Z hZ => ?_); go_simp; refine hZ _ _ ?_; clear hZ Z))
    refine tx_nil ?_
    go_wp2
    have X3 := X.drew.drew.drew
    by_cases hd : d ≤ K.lat i
    · have hr : inb d 0 (K.lat i : Nat) = true := inb_true (by omega) (by omega)
      have hrt : r = true := by rw [← HR.out]; exact decide_eq_true hd
      have hA := all112 K w _ w.heap.size (w.heap.size + 1) lb lc d i X3 x0 (by simp; omega) hi hlW (by simp; omega)
      rw [hr] at hA
      refine wp_region_ord [(0, 0, 0), (1, 2, 1), (2, 0, 0), (3, 3, 7), (4, 0, 15), (5, 2, 31), (6, 0, 31), (7, 2, 95), (9, 1, 31), (10, 0, 31), (11, 1, 1055), (8, 3, 255), (12, 3, 4095), (13, 0, 8191), (14, 0, 16383), (15, 0, 32767)] true (by kernel_rfl) (by kernel_rfl) ?_
      repeat (first | (refine tx_P rfl (fun Z hZ => ?_); go_simp; refine hZ _ _ ?_; clear hZ Z) | (refine tx_L rfl (fun Z hZ => ?_); go_simp; refine hZ _ _ ?_; clear hZ Z))
      refine tx_EK rfl (fun Z hZ => ?_)
      go_simp
      refine ⟨rfl, callsIn_wide.2 (hA.mono ?_)⟩
      rintro e w1 ⟨rfl, hb1⟩
      refine hZ _ _ hb1 ?_; clear hZ Z
      have X4 := X3.step hb1
      have hx4 : Blk w1 (w.heap.size + 1) #[.int .i64 (d : Int), .int .i64 0, .int .i64 0, .slice (some ⟨lb, 0, none⟩) 1 lc] 51 := hx.of_block (hb1.block _ (by simp; omega))
      have hl4 := (hb1.cell (p := ⟨lb, 0, none⟩) (by simp; omega)).trans hlW
      have hs4 := hb1.size
      have m0 := X4.c0
      have m1 := X4.c1
      have m2 := X4.c2
      have m3 := X4.c3
      have y3 := hx4.cell 3 rfl
      repeat (first | (refine tx_P rfl (fun Z hZ => ?_); go_simp; refine hZ _ _ ?_; clear hZ Z) | (refine tx_L rfl (fun Z hZ => ?_); go_simp; refine hZ _ _ ?_; clear hZ Z))
      (refine tx_H rfl (fun Z hZ => ?_); go_simp; refine ⟨_, fun w' hw' => (by (simp only [belowCellD hw' k0 (show _ < _ by first | omega | (simp; omega)), belowCellD hw' k1 (show _ < _ by first | omega | (simp; omega)), belowCellD hw' k2 (show _ < _ by first | omega | (simp; omega)), belowCellD hw' k3 (show _ < _ by first | omega | (simp; omega)), Result.andThen_ok]; first | done | rfl)), ?_⟩; refine hZ _ _ ?_; clear hZ Z)
      repeat (first | (refine tx_P rfl (fun Z hZ => ?_); go_simp; refine hZ _ _ ?_; clear hZ Z) | (refine tx_L rfl (fun Z hZ => ?_); go_simp; refine hZ _ _ ?_; clear hZ Z) | (refine tx_H rfl (fun Z hZ => ?_); go_simp; refine ⟨_, fun w' hw' => by first | (rw [belowCellD hw' x1 (by first | omega | (simp; omega))]; rfl), ?_⟩; refine hZ _ _ ?_; clear hZ Z))
      refine tx_EK rfl (fun Z hZ => ?_)
      go_simp
      refine ⟨rfl, callsIn_wide.2 ((mass38 K _ X4.camp lb lc i hi hl4 (by simp at hs4; omega)).mono ?_)⟩
      rintro e w2 ⟨rfl, hb2⟩
      refine hZ _ _ (hb1.trans (hb2.mono hb1.size)) ?_; clear hZ Z
      have X5 := X4.step hb2
      refine tx_EK rfl (fun Z hZ => ?_)
      go_simp
      refine ⟨rfl, callsIn_wide.2 ((most37 K _ X5.camp).mono ?_)⟩
      rintro e w3 ⟨rfl, hb3⟩
      refine hZ _ _ ((hb1.trans (hb2.mono hb1.size)).trans (hb3.mono (Nat.le_trans hb1.size hb2.size))) ?_; clear hZ Z
      have X6 := X5.step hb3
      repeat (first | (refine tx_P rfl (fun Z hZ => ?_); go_simp; refine hZ _ _ ?_; clear hZ Z) | (refine tx_L rfl (fun Z hZ => ?_); go_simp; refine hZ _ _ ?_; clear hZ Z))
      refine tx_nil ?_
      go_wp2
      go_ret
      exact ⟨ret_bool (by rw [hrt]; simp; omega), X6.below⟩
    · have hr : inb d 0 (K.lat i : Nat) = false := inb_false (by omega)
      have hrt : r = false := by rw [← HR.out]; exact decide_eq_false hd
      have hA := all112 K w _ w.heap.size (w.heap.size + 1) lb lc d i X3 x0 (by simp; omega) hi hlW (by simp; omega)
      rw [hr] at hA
      refine wp_region_ord [(0, 0, 0), (1, 2, 1), (2, 0, 0), (3, 3, 7), (4, 0, 15), (5, 2, 31), (6, 0, 31), (7, 2, 95), (9, 1, 31), (10, 0, 31), (11, 1, 1055), (8, 3, 255), (12, 3, 4095), (13, 0, 8191), (14, 0, 16383), (15, 0, 32767)] true (by kernel_rfl) (by kernel_rfl) ?_
      repeat (first | (refine tx_P rfl (fun Z hZ => ?_); go_simp; refine hZ _ _ ?_; clear hZ Z) | (refine tx_L rfl (fun Z hZ => ?_); go_simp; refine hZ _ _ ?_; clear hZ Z))
      refine tx_EK rfl (fun Z hZ => ?_)
      go_simp
      refine ⟨rfl, callsIn_wide.2 (hA.mono ?_)⟩
      rintro e w1 ⟨rfl, hb1⟩
      refine hZ _ _ hb1 ?_; clear hZ Z
      have X4 := X3.step hb1
      repeat (first | (refine tx_P rfl (fun Z hZ => ?_); go_simp; refine hZ _ _ ?_; clear hZ Z) | (refine tx_L rfl (fun Z hZ => ?_); go_simp; refine hZ _ _ ?_; clear hZ Z) | (refine tx_H rfl (fun Z hZ => ?_); go_simp; refine hZ _ _ ?_; clear hZ Z) | (refine tx_EK rfl (fun Z hZ => ?_); go_simp; refine hZ _ _ ?_; clear hZ Z) | (refine tx_EK rfl (fun Z hZ => ?_); go_simp; clear hZ Z))
      refine tx_nil ?_
      go_wp2
      go_ret
      exact ⟨ret_bool hrt.symm, X4.below⟩
  · have hrt : r = false := by rw [← HR.out]; exact decide_eq_false (by omega)
    refine wp_region_ord [(0, 0, 0), (1, 2, 1), (2, 0, 0), (3, 2, 4), (4, 0, 0), (5, 2, 16), (6, 0, 60), (7, 0, 124), (8, 2, 252), (9, 3, 511), (10, 0, 1023), (11, 0, 2047), (12, 0, 4095), (13, 2, 8191), (14, 0, 16383), (15, 0, 32767), (16, 0, 65535), (17, 0, 131071), (18, 0, 262143), (19, 2, 524287), (20, 0, 262143), (21, 2, 1310719), (22, 0, 3407871), (23, 3, 8388607), (24, 0, 16777215), (25, 0, 33554431)] false (by kernel_rfl) (by kernel_rfl) ?_
    repeat (first | (refine tx_P rfl (fun Z hZ => ?_); go_simp; refine hZ _ _ ?_; clear hZ Z) | (refine tx_L rfl (fun Z hZ => ?_); go_simp; refine hZ _ _ ?_; clear hZ Z))
    refine tx_E rfl (fun Z hZ => ?_)
    go_simp
    refine ⟨rfl, callsIn_wide.2 ((withinC_no _ _ _ _ (by omega)).mono ?_)⟩
    rintro e w1 ⟨rfl, rfl⟩
    refine hZ _ _ ?_; clear hZ Z
    repeat (first | (refine tx_P rfl (fun Z hZ => ?_); go_simp; refine hZ _ _ ?_; clear hZ Z) | (refine tx_L rfl (fun Z hZ => ?_); go_simp; refine hZ _ _ ?_; clear hZ Z) | (refine tx_E rfl (fun Z hZ => ?_); go_simp; refine hZ _ _ ?_; clear hZ Z))
    refine tx_nil ?_
    go_wp2
    go_ret
    exact ⟨ret_bool hrt.symm, X.drew.drew.below⟩
end Go.Proofs.YtempbknidpmncaaDoor
