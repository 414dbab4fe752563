/-
  TopSlipped: the walks of within, comparisons, slices.Contains and slices.Compare of rows of one number.
-/
import Derived.Test.YtempbknidpmncaaDoorBusA
import Derived.Test.YtempbknidpmncaaDoorOrd
namespace Go.Proofs.YtempbknidpmncaaDoor
open Go.RowKit

theorem withinC_any (n a b : Int) (w : World) :
    Calls Tryd.prog 40 #[.int .i64 n, .int .i64 a, .int .i64 b] w fun e w' => e = .returned (.bool (inb n a b)) ∧ w = w' := by
  go_enter Tryd.func40, Tryd.ntmps40
  by_cases h1 : a ≤ n
  · go_wp2; go_ret; exact ⟨ret_bool (by simp [inb, h1]), rfl⟩
  · go_wp2; go_ret; exact ⟨ret_bool (by simp [inb]; omega), rfl⟩
theorem withinC_yes (n a b : Int) (w : World) (h1 : a ≤ n) (h2 : n ≤ b) :
    Calls Tryd.prog 40 #[.int .i64 n, .int .i64 a, .int .i64 b] w fun e w' => e = .returned (.bool true) ∧ w = w' :=
  (withinC_any n a b w).mono fun _ _ h => by rwa [inb_true h1 h2] at h
theorem inb_false {n a b : Int} (h : n < a ∨ b < n) : inb n a b = false := by simp [inb]; omega
theorem withinC_no (n a b : Int) (w : World) (h : n < a ∨ b < n) :
    Calls Tryd.prog 40 #[.int .i64 n, .int .i64 a, .int .i64 b] w fun e w' => e = .returned (.bool false) ∧ w = w' :=
  (withinC_any n a b w).mono fun _ _ h' => by rwa [inb_false h] at h'

theorem isNaN_int (x : Int) (w : World) : Calls Tryd.prog 132 #[.int .i64 x] w fun e w' => e = .returned (.bool false) ∧ w = w' := by
  go_enter Tryd.func132, Tryd.ntmps132
  have h : (x != x) = false := by simp
  go_wp2; go_ret
  exact ⟨rfl, rfl⟩

def cmpI (a b : Int) : Int := if a < b then -1 else if b < a then 1 else 0
theorem Compare_int (a b : Int) (w : World) : Calls Tryd.prog 115 #[.int .i64 a, .int .i64 b] w fun e w' => e = .returned (.int .i64 (cmpI a b)) ∧ w = w' := by
  go_enter Tryd.func115, Tryd.ntmps115
  by_cases h1 : a < b
  · have hc : cmpI a b = -1 := if_pos h1
    rw [hc]; clear hc
    go_wp2_with (refine (isNaN_int _ _).mono ?_; rintro e w1 ⟨rfl, rfl⟩)
    go_ret; exact ⟨rfl, rfl⟩
  · by_cases h2 : b < a
    · have hc : cmpI a b = 1 := by unfold cmpI; rw [if_neg h1, if_pos h2]
      rw [hc]; clear hc
      go_wp2_with (refine (isNaN_int _ _).mono ?_; rintro e w1 ⟨rfl, rfl⟩)
      go_ret; exact ⟨rfl, rfl⟩
    · have hc : cmpI a b = 0 := by unfold cmpI; rw [if_neg h1, if_neg h2]
      rw [hc]; clear hc
      go_wp2_with (refine (isNaN_int _ _).mono ?_; rintro e w1 ⟨rfl, rfl⟩)
      go_ret; exact ⟨rfl, rfl⟩

/-- The first of four numbers that isn't zero, where that is the first. -/
theorem Or_first (b : Nat) (x : Int) (w : World) (hx : x ≠ 0) (hc : w.cell? ⟨b, 0, none⟩ = some (.int .i64 x)) :
    Calls Tryd.prog 114 #[.slice (some ⟨b, 0, none⟩) 4 4] w fun e w' => e = .returned (.int .i64 x) ∧ w = w' := by
  have hx1 : (x != 0) = true := by simp [hx]
  go_enter Tryd.func114, Tryd.ntmps114
  go_wp2
  go_loopw [8] (fun i wr => i = .int .i64 0 ∧ wr = w) (fun i _ => 0)
  case atStart => exact ⟨rfl, rfl⟩
  case round =>
    obtain ⟨rfl, rfl⟩ := hrel
    go_wp2
    go_ret
    exact ⟨by first | rfl | trivial, by first | rfl | trivial⟩

theorem Index_one (b cap : Nat) (x y : Int) (w : World) (hc : w.cell? ⟨b, 0, none⟩ = some (.int .i64 x)) :
    Calls Tryd.prog 78 #[.slice (some ⟨b, 0, none⟩) 1 cap, .int .i64 y] w fun e w' => e = .returned (.int .i64 (if y = x then 0 else -1)) ∧ w = w' := by
  go_enter Tryd.func78, Tryd.ntmps78
  go_wp2
  go_loopw [8] (fun i wr => wr = w ∧ (i = .int .i64 0 ∨ (i = .int .i64 1 ∧ y ≠ x))) (fun i _ => 1 - (intOf i).toNat)
  case atStart => exact ⟨rfl, .inl rfl⟩
  case round =>
    obtain ⟨rfl, rfl | ⟨rfl, hne⟩⟩ := hrel
    · by_cases h : y = x
      · subst h
        have h1 : (y == y) = true := by simp
        go_wp2
        go_ret
        exact ⟨by first | rfl | simp, by first | rfl | trivial⟩
      · have h1 : (y == x) = false := by simp [h]
        have H := Lib.hid h
        clear h
        go_wp2
        go_roundw
        case rel => exact ⟨trivial, .inr ⟨rfl, H.out⟩⟩
        case measure => simp [intOf]
    · have H := Lib.hid hne
      clear hne
      go_wp2
      go_ret
      exact ⟨by first | rfl | rw [if_neg H.out], by first | rfl | trivial⟩
theorem Contains_one (b cap : Nat) (x y : Int) (w : World) (hc : w.cell? ⟨b, 0, none⟩ = some (.int .i64 x)) :
    Calls Tryd.prog 35 #[.slice (some ⟨b, 0, none⟩) 1 cap, .int .i64 y] w fun e w' => e = .returned (.bool (decide (y = x))) ∧ w = w' := by
  go_enter Tryd.func35, Tryd.ntmps35
  by_cases h : y = x
  · have hI := Index_one b cap x y w hc
    rw [if_pos h] at hI
    rw [decide_eq_true h]
    clear h
    go_wp2_with (refine hI.mono ?_; rintro e w1 ⟨rfl, rfl⟩)
    go_ret; exact ⟨rfl, rfl⟩
  · have hI := Index_one b cap x y w hc
    rw [if_neg h] at hI
    rw [decide_eq_false h]
    clear h
    go_wp2_with (refine hI.mono ?_; rintro e w1 ⟨rfl, rfl⟩)
    go_ret; exact ⟨rfl, rfl⟩

/-- slices.Compare of rows of one number each. -/
theorem CompareS_one (b c bc cc : Nat) (x y : Int) (w : World) (hb : w.cell? ⟨b, 0, none⟩ = some (.int .i64 x)) (hc : w.cell? ⟨c, 0, none⟩ = some (.int .i64 y)) :
    Calls Tryd.prog 116 #[.slice (some ⟨b, 0, none⟩) 1 bc, .slice (some ⟨c, 0, none⟩) 1 cc] w fun e w' => e = .returned (.int .i64 (cmpI x y)) ∧ w = w' := by
  have hC := Compare_int x y
  generalize cmpI x y = z at *
  go_enter Tryd.func116, Tryd.ntmps116
  go_wp2
  go_loopw [5, 6, 7, 8, 11] (fun _ _ _ _ i wr => wr = w ∧ (i = .int .i64 0 ∨ (i = .int .i64 1 ∧ z = 0))) (fun _ _ _ _ i _ => 1 - (intOf i).toNat)
  case atStart => exact ⟨rfl, .inl rfl⟩
  case round =>
    obtain ⟨rfl, rfl | ⟨rfl, hne⟩⟩ := hrel
    · have hC := hC wr
      by_cases h : z = 0
      · subst h
        go_wp2_with (refine hC.mono ?_; rintro e w1 ⟨rfl, rfl⟩)
        go_roundw
        case rel => exact ⟨trivial, .inr (by first | exact ⟨rfl, rfl⟩ | exact ⟨rfl, trivial⟩)⟩
        case measure => simp [intOf]
      · have h1 : (z != 0) = true := by simp [h]
        clear h
        go_wp2_with (refine hC.mono ?_; rintro e w1 ⟨rfl, rfl⟩)
        go_ret
        exact ⟨by first | rfl | trivial, by first | rfl | trivial⟩
    · subst hne
      go_wp2
      go_ret
      exact ⟨by first | rfl | trivial, by first | rfl | trivial⟩

theorem rising_one (b cap : Nat) (x many : Nat) (w : World) (hx : x < many) (hm : many < 1000) (hc : w.cell? ⟨b, 0, none⟩ = some (.int .i64 (x : Int))) :
    Calls Tryd.prog 65 #[.slice (some ⟨b, 0, none⟩) 1 cap, .int .i64 (many : Int)] w fun e w' => e = .returned (.bool true) ∧ w = w' := by
  have h1 : ¬ ((x : Int) ≤ -1) := by omega
  have h2 : ¬ ((many : Int) ≤ (x : Int)) := by omega
  go_enter Tryd.func65, Tryd.ntmps65
  go_wp2
  go_loopw [5, 7, 10] (fun v _ i wr => wr = w ∧ ((i = .int .i64 0 ∧ v = .int .i64 (-1)) ∨ i = .int .i64 1)) (fun _ _ i _ => 1 - (intOf i).toNat)
  case atStart => exact ⟨rfl, .inl ⟨rfl, rfl⟩⟩
  case round =>
    obtain ⟨rfl, ⟨rfl, rfl⟩ | rfl⟩ := hrel
    · go_wp2
      go_roundw
      case rel => exact ⟨trivial, .inr rfl⟩
      case measure => simp [intOf]
    · go_wp2
      go_ret
      exact ⟨by first | rfl | trivial, by first | rfl | trivial⟩
end Go.Proofs.YtempbknidpmncaaDoor
