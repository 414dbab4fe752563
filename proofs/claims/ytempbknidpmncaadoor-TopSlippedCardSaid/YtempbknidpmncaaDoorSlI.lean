/-
  TopSlipped: sorting launches whose days rise moves nothing.
-/
import Derived.Test.YtempbknidpmncaaDoorSlH
namespace Go.Proofs.YtempbknidpmncaaDoor
open Go.RowKit

set_option maxHeartbeats 1000000 in
theorem insertion133 (w : World) (g n cap : Nat) (P : Nat → Nat) (hn : n ≤ 6) (hg : g < w.heap.size) (hp : PlanAt w g n P) (hr : ∀ j, j + 1 < n → P j < P (j + 1)) :
    Calls Tryd.prog 133 #[.slice (some ⟨g, 0, none⟩) n cap, .int .i64 0, .int .i64 (n : Int), .func (.func 74) #[] #[]] w fun e w' => (∃ v, e = .returned v) ∧ Below w.heap.size w w' := by
  go_enter Tryd.func133, Tryd.ntmps133
  go_wp2
  go_loopw [8, 9] (fun i _ wr => ∃ k : Nat, 1 ≤ k ∧ i = .int .i64 (k : Int) ∧ Below w.heap.size w wr) (fun i _ _ => n - (intOf i).toNat)
  case atStart => exact ⟨1, Nat.le_refl _, rfl, Below.refl _ _⟩
  case round =>
    obtain ⟨k, hk, rfl, hb⟩ := hrel
    by_cases hlt : k < n
    · have hpr := hp.below hg hb (Nat.le_refl _)
      obtain ⟨m, hm⟩ : ∃ m, m + 1 = k := ⟨k - 1, by omega⟩
      obtain ⟨c0, c1, c2, lb, lc, c3, c4, c5⟩ := hpr k hlt
      obtain ⟨e0, e1, e2, lb', lc', e3, e4, e5⟩ := hpr m (by omega)
      have hrm := hr m (by omega)
      rw [hm] at hrm
      have hcm : cmpI (P k : Nat) (P m : Nat) = 1 := by unfold cmpI; rw [if_neg (by omega), if_pos (by omega)]
      have hCC := compare_any (P k : Nat) (P m : Nat) lb lb' lc lc' (k : Int) (m : Int) wr.drew (by omega) c5 e5 c4 e4
      rw [hcm] at hCC
      have vk : IntKind.i64.wrap ((k : Int) - 1) = (m : Int) := by rw [show (k : Int) - 1 = (m : Int) by omega]; exact IntWalk.i64_in _ (by omega)
      have hk0 : decide (0 < k) = true := decide_eq_true (by omega)
      have hmk : m < n := by omega
      have hmk2 : (m : Int) < (n : Int) := by omega
      have hs := hb.size
      clear hpr hp hr hm hrm hcm
      obtain ⟨wo, rfl⟩ : ∃ wo : World, wo = wr := ⟨_, rfl⟩
      go_wp2
      go_loopw [9] (fun j wx => wx = wo ∧ j = .int .i64 (k : Int)) (fun _ _ => 0)
      case atStart => exact ⟨rfl, rfl⟩
      case round =>
        obtain ⟨rfl, rfl⟩ := hrel
        go_wp2
        refine wp_region_ord [(0, 0, 0), (1, 0, 0), (2, 0, 3), (3, 0, 7), (4, 0, 15), (5, 0, 15), (6, 0, 15), (7, 0, 111), (8, 2, 239), (9, 0, 15), (10, 0, 15), (11, 0, 1039), (12, 0, 3599), (13, 2, 7695), (14, 3, 16383), (15, 0, 32767), (16, 0, 65535)] false (by kernel_rfl) (by kernel_rfl) ?_
        repeat (first | (refine tx_P rfl (fun Z hZ => ?_); go_simp; refine hZ _ _ ?_; clear hZ Z) | (refine tx_L rfl (fun Z hZ => ?_); go_simp; refine hZ _ _ ?_; clear hZ Z))
        refine tx_E rfl (fun Z hZ => ?_)
        go_simp
        refine ⟨rfl, callsIn_wide.2 (hCC.mono ?_)⟩
        rintro e w1 ⟨rfl, hb1⟩
        refine hZ _ _ ?_; clear hZ Z
        repeat (first | (refine tx_P rfl (fun Z hZ => ?_); go_simp; refine hZ _ _ ?_; clear hZ Z) | (refine tx_L rfl (fun Z hZ => ?_); go_simp; refine hZ _ _ ?_; clear hZ Z))
        refine tx_nil ?_
        go_wp2
        go_roundw
        case rel => exact ⟨k + 1, by omega, by go_num, hb.drew.trans (hb1.mono hs)⟩
        case measure => simp [intOf] <;> omega
    · clear hp hr
      go_wp2
      go_end0
      exact ⟨⟨_, rfl⟩, hb⟩

theorem pdq117 (w : World) (g n cap : Nat) (P : Nat → Nat) (lim : Value) (hn : n ≤ 6) (hg : g < w.heap.size) (hp : PlanAt w g n P) (hr : ∀ j, j + 1 < n → P j < P (j + 1)) :
    Calls Tryd.prog 117 #[.slice (some ⟨g, 0, none⟩) n cap, .int .i64 0, .int .i64 (n : Int), lim, .func (.func 74) #[] #[]] w fun e w' => (∃ v, e = .returned v) ∧ Below w.heap.size w w' := by
  have hI := insertion133 w g n cap P hn hg hp hr
  have vn : IntKind.i64.wrap (n : Int) = (n : Int) := IntWalk.i64_in _ (by omega)
  have hn12 : (n : Int) ≤ 12 := by omega
  clear hp hr
  go_enter Tryd.func117, Tryd.ntmps117
  go_wp2
  go_loopw [1, 2, 3] (fun a b l wr => wr = w ∧ a = .int .i64 0 ∧ b = .int .i64 (n : Int)) (fun _ _ _ _ => 0)
  case atStart => exact ⟨rfl, rfl, rfl⟩
  case round =>
    obtain ⟨rfl, rfl, rfl⟩ := hrel
    go_wp2_with (refine hI.mono ?_; rintro e w1 ⟨⟨v, rfl⟩, hb1⟩)
    ((try simp only [Exit.inBlock, Exit.then]); refine bodyPost_ret (results_none rfl _ _ _) rfl ?_)
    exact ⟨⟨_, rfl⟩, hb1⟩
theorem sort80 (w : World) (g n cap : Nat) (P : Nat → Nat) (hn : n ≤ 6) (hg : g < w.heap.size) (hp : PlanAt w g n P) (hr : ∀ j, j + 1 < n → P j < P (j + 1)) :
    Calls Tryd.prog 80 #[.slice (some ⟨g, 0, none⟩) n cap, .func (.func 74) #[] #[]] w fun e w' => (∃ v, e = .returned v) ∧ Below w.heap.size w w' := by
  have hL := Tryd.bits_Len (n : Int) w (by omega) (by omega)
  have hI := fun lim => pdq117 w g n cap P lim hn hg hp hr
  have vn : IntKind.u64.wrap (n : Int) = (n : Int) := IntWalk.u64_in _ (by omega)
  clear hp hr
  go_enter Tryd.func80, Tryd.ntmps80
  go_wp2_with (first
    | (refine hL.mono ?_; rintro e w1 ⟨rfl, rfl⟩)
    | (refine (hI _).mono ?_; rintro e w1 ⟨⟨v, rfl⟩, hb1⟩))
  go_end0
  exact ⟨⟨_, rfl⟩, hb1⟩
end Go.Proofs.YtempbknidpmncaaDoor
