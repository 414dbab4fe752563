/-
  TopSlipped: the walks of Delay and Slack.
-/
import Derived.Test.YtempbknidpmncaaDoorSlJ
namespace Go.Proofs.YtempbknidpmncaaDoor
open Go.RowKit

abbrev stepK (K : Camp) : Nat := max K.ag K.cl

set_option maxHeartbeats 1000000 in
theorem Delay_any (K : Camp) (w : World) (h : CampAt w K) (g cap i dd : Nat) (d : Nat → Nat) (hp : PlanOk w K g cap d) (hok : okN K.lat d K.n = true) (hi : i < K.n) (hdd : dd ≤ 10000) :
    Calls Tryd.prog 17 #[K.val, .slice (some ⟨g, 0, none⟩) K.n cap, .int .i64 (i : Int), .int .i64 (dd : Int)] w
      fun e w' => ((okD (stepK K) K.n d K.lat i dd = true → ∃ g' cap', e = .returned (.tuple #[.slice (some ⟨g', 0, none⟩) K.n cap', .int .i64 0]) ∧ PlanOk w' K g' cap' (pushD (stepK K) d i dd)) ∧
        (okD (stepK K) K.n d K.lat i dd = false → e = .returned (.tuple #[.slice none 0 0, .int .i64 7]))) ∧ Below w.heap.size w w' := by
  have hn6 := h.n6
  have hdB : ∀ j, j < K.n → d j ≤ 1000 := fun j hj => by have := okN_iff.1 hok j hj; have := h.late j hj; omega
  obtain ⟨W, hW⟩ : ∃ W, W = w.alloc (.cells #[.slice (some ⟨K.cb, 0, none⟩) 1 1, .slice (some ⟨K.pb, 0, none⟩) 1 1, .slice (some ⟨K.gb, 0, none⟩) K.n K.gcap, .int .i64 0] 46) := ⟨_, rfl⟩
  have X : BoxAt w W K w.heap.size := by rw [hW]; exact BoxAt.new h
  have k0 := X.c0
  have k1 := X.c1
  have k2 := X.c2
  have k3 := X.c3
  have hC := meant_any K W X.camp g cap i d (hp.below X.below) hok hi
  have hod : okD (stepK K) K.n d K.lat i dd = okN K.lat (pushD (stepK K) d i dd) K.n := rfl
  have hD := fun (W' : World) (X' : BoxAt w W' K w.heap.size) => delayed39 K W' X'.camp g cap i dd d (hp.below X'.below) hdB hi hdd
  have hV := fun (W' : World) (X' : BoxAt w W' K w.heap.size) (g' cap' : Nat) (hp' : PlanOk W' K g' cap' (pushD (stepK K) d i dd)) => validC_any K W' X'.camp g' cap' (pushD (stepK K) d i dd) hp'
  rw [← hod] at hV
  have HD := Lib.hid hD
  have HV := Lib.hid hV
  generalize okD (stepK K) K.n d K.lat i dd = r at *
  clear hod hD hV hp hok hdB
  unfold Camp.val at hC HD HV ⊢
  go_enter Tryd.func17, Tryd.ntmps17
  go_wp2_with (rw [← hW]; clear hW; refine hC.mono ?_; rintro e w1 ⟨rfl, hb1⟩)
  have X1 := X.step hb1
  clear hC k0 k1 k2 k3
  have k0 := X1.c0
  have k1 := X1.c1
  have k2 := X1.c2
  have k3 := X1.c3
  go_wp2_with (refine (withinC_yes _ _ _ _ (by omega) (by omega)).mono ?_; rintro e w2 ⟨rfl, rfl⟩)
  refine (HD.out w1 X1).mono ?_
  rintro e w3 ⟨⟨g3, cap3, rfl, hp3⟩, hb3⟩
  clear k0 k1 k2 k3
  have X3 := X1.step hb3
  have k0 := X3.c0
  have k1 := X3.c1
  have k2 := X3.c2
  have k3 := X3.c3
  have hV3 := HV.out w3 X3 g3 cap3 hp3
  have HP3 := Lib.hid hp3
  clear hp3
  cases r
  · go_wp2_with (refine hV3.mono ?_; rintro e w4 ⟨rfl, hb4⟩)
    go_ret2
    exact ⟨rfl, (X3.step hb4).below⟩
  · go_wp2_with (refine hV3.mono ?_; rintro e w4 ⟨rfl, hb4⟩)
    go_ret2
    exact ⟨⟨g3, cap3, rfl, HP3.out.below hb4⟩, (X3.step hb4).below⟩

set_option maxHeartbeats 2000000 in
theorem Slack_any (K : Camp) (w : World) (h : CampAt w K) (g cap i S : Nat) (d : Nat → Nat) (hp : PlanOk w K g cap d) (hok : okN K.lat d K.n = true) (hi : i < K.n)
    (hS1 : okD (stepK K) K.n d K.lat i S = true) (hS2 : okD (stepK K) K.n d K.lat i (S + 1) = false) :
    Calls Tryd.prog 16 #[K.val, .slice (some ⟨g, 0, none⟩) K.n cap, .int .i64 (i : Int)] w fun e w' => e = .returned (.tuple #[.int .i64 (S : Int), .int .i64 0]) ∧ Below w.heap.size w w' := by
  have hn6 := h.n6
  have hdB : ∀ j, j < K.n → d j ≤ 1000 := fun j hj => by have := okN_iff.1 hok j hj; have := h.late j hj; omega
  have h0 : okD (stepK K) K.n d K.lat i 0 = true := okD_zero hp.gap (fun j hj => okN_iff.1 hok j hj)
  have hfar : okD (stepK K) K.n d K.lat i 10001 = false := okD_far hi (h.late i hi) (by omega)
  obtain ⟨W, hW⟩ : ∃ W, W = w.alloc (.cells #[.slice (some ⟨K.cb, 0, none⟩) 1 1, .slice (some ⟨K.pb, 0, none⟩) 1 1, .slice (some ⟨K.gb, 0, none⟩) K.n K.gcap, .int .i64 0] 46) := ⟨_, rfl⟩
  have X : BoxAt w W K w.heap.size := by rw [hW]; exact BoxAt.new h
  have k0 := X.c0
  have k1 := X.c1
  have k2 := X.c2
  have k3 := X.c3
  have hC := meant_any K W X.camp g cap i d (hp.below X.below) hok hi
  have HS : ∀ lo, okD (stepK K) K.n d K.lat i lo = true → okD (stepK K) K.n d K.lat i (lo + 1) = false → lo = S := fun lo a b => okD_one a b hS1 hS2
  have HS := Lib.hid HS
  clear hS1 hS2
  have HD := Lib.hid (fun (dd : Nat) (hdd : dd ≤ 10000) (W' : World) (X' : BoxAt w W' K w.heap.size) => delayed39 K W' X'.camp g cap i dd d (hp.below X'.below) hdB hi hdd)
  have HV := Lib.hid (fun (dd : Nat) (W' : World) (X' : BoxAt w W' K w.heap.size) (g' cap' : Nat) (hp' : PlanOk W' K g' cap' (pushD (stepK K) d i dd)) => validC_any K W' X'.camp g' cap' (pushD (stepK K) d i dd) hp')
  clear hp hok hdB
  unfold Camp.val at hC HD HV ⊢
  go_enter Tryd.func16, Tryd.ntmps16
  go_wp2_with (rw [← hW]; clear hW; refine hC.mono ?_; rintro e w1 ⟨rfl, hb1⟩)
  have X1 := X.step hb1
  clear hC k0 k1 k2 k3
  go_loopw [9, 10, 11] (fun a b _ wr => ∃ lo hi' : Nat, a = .int .i64 (lo : Int) ∧ b = .int .i64 (hi' : Int) ∧ lo < hi' ∧ hi' ≤ 10001 ∧ okD (stepK K) K.n d K.lat i lo = true ∧ okD (stepK K) K.n d K.lat i hi' = false ∧ BoxAt w wr K w.heap.size) (fun a b _ _ => (intOf b).toNat - (intOf a).toNat)
  case atStart => exact ⟨0, 10001, rfl, rfl, by omega, by omega, h0, hfar, X1⟩
  case round =>
    obtain ⟨lo, hh, rfl, rfl, hlh, hh1, ho1, ho2, XR⟩ := hrel
    have HO1 := Lib.hid ho1
    have HO2 := Lib.hid ho2
    clear ho1 ho2 h0 hfar X1
    have vs : IntKind.i64.wrap ((hh : Int) - (lo : Int)) = (hh : Int) - (lo : Int) := IntWalk.i64_in _ (by omega)
    by_cases hgt : 1 < hh - lo
    · have hgt2 : (1 : Int) < (hh : Int) - (lo : Int) := by omega
      obtain ⟨sm, hsm⟩ : ∃ sm, lo + hh = sm := ⟨_, rfl⟩
      obtain ⟨mid, hmid⟩ : ∃ mid, sm / 2 = mid := ⟨_, rfl⟩
      have va : IntKind.i64.wrap ((lo : Int) + (hh : Int)) = (sm : Int) := by rw [show (lo : Int) + (hh : Int) = (sm : Int) by omega]; exact IntWalk.i64_in _ (by omega)
      have vq : IntKind.i64.wrap ((sm : Int) / 2) = (mid : Int) := by rw [show (sm : Int) / 2 = (mid : Int) by omega]; exact IntWalk.i64_in _ (by omega)
      have hm1 : lo < mid := by omega
      have hm2 : mid < hh := by omega
      clear hsm hmid
      have k0 := XR.c0
      have k1 := XR.c1
      have k2 := XR.c2
      have k3 := XR.c3
      have hBlt := XR.lt
      have hD := HD.out mid (by omega) wr.drew XR.drew
      go_wp2
      refine wp_region_ord [(0, 1, 0), (1, 2, 0), (2, 0, 0), (3, 0, 0), (4, 0, 0), (5, 3, 30), (6, 3, 63)] true (by kernel_rfl) (by kernel_rfl) ?_
      repeat (first | (refine tx_P rfl (fun Z hZ => ?_); go_simp; refine hZ _ _ ?_; clear hZ Z) | (refine tx_L rfl (fun Z hZ => ?_); go_simp; refine hZ _ _ ?_; clear hZ Z) | (refine tx_H rfl (fun Z hZ => ?_); go_simp; refine ⟨_, fun w' hw' => (by (simp only [belowCellD hw' k0 (show _ < _ by first | omega | (simp; omega)), belowCellD hw' k1 (show _ < _ by first | omega | (simp; omega)), belowCellD hw' k2 (show _ < _ by first | omega | (simp; omega)), belowCellD hw' k3 (show _ < _ by first | omega | (simp; omega)), Result.andThen_ok]; first | done | rfl)), ?_⟩; refine hZ _ _ ?_; clear hZ Z))
      refine tx_EK rfl (fun Z hZ => ?_)
      go_simp
      refine ⟨rfl, callsIn_wide.2 (hD.mono ?_)⟩
      rintro e w3 ⟨⟨g3, cap3, rfl, hp3⟩, hb3⟩
      refine hZ _ _ hb3 ?_; clear hZ Z
      have X3 := XR.drew.step hb3
      have hV := HV.out mid w3 X3 g3 cap3 hp3
      have hod : okN K.lat (pushD (stepK K) d i mid) K.n = okD (stepK K) K.n d K.lat i mid := rfl
      rw [hod] at hV
      clear hod hD hp3
      cases hr : okD (stepK K) K.n d K.lat i mid with
      | true =>
        have HRR := Lib.hid hr
        rw [hr] at hV
        clear hr
        refine tx_EK rfl (fun Z hZ => ?_)
        go_simp
        refine ⟨rfl, callsIn_wide.2 (hV.mono ?_)⟩
        rintro e w4 ⟨rfl, hb4⟩
        refine hZ _ _ (hb3.trans (hb4.mono hb3.size)) ?_; clear hZ Z
        refine tx_nil ?_
        go_wp2
        go_roundw
        case rel => exact ⟨mid, hh, rfl, rfl, by omega, by omega, HRR.out, HO2.out, X3.step hb4⟩
        case measure => simp [intOf] <;> omega
      | false =>
        have HRR := Lib.hid hr
        rw [hr] at hV
        clear hr
        refine tx_EK rfl (fun Z hZ => ?_)
        go_simp
        refine ⟨rfl, callsIn_wide.2 (hV.mono ?_)⟩
        rintro e w4 ⟨rfl, hb4⟩
        refine hZ _ _ (hb3.trans (hb4.mono hb3.size)) ?_; clear hZ Z
        refine tx_nil ?_
        go_wp2
        go_roundw
        case rel => exact ⟨lo, mid, rfl, rfl, by omega, by omega, HO1.out, HRR.out, X3.step hb4⟩
        case measure => simp [intOf] <;> omega
    · have hgt2 : ¬ ((1 : Int) < (hh : Int) - (lo : Int)) := by omega
      have hlo := HS.out lo HO1.out (by rw [show lo + 1 = hh by omega]; exact HO2.out)
      subst hlo
      go_wp2
      go_ret2
      exact ⟨rfl, XR.below⟩
end Go.Proofs.YtempbknidpmncaaDoor
