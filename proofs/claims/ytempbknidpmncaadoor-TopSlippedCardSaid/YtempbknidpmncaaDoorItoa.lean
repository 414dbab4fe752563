/-
  strconv.Itoa of a digit.
-/
import Derived.Test.YtempbknidpmncaaDoorBase
namespace Go.Proofs.YtempbknidpmncaaDoor
open Go.RowKit

/-- The text of a digit. -/
def dname (i : Nat) : ByteArray := ⟨#[UInt8.ofNat (48 + i)]⟩
theorem dname_size (i : Nat) : (dname i).size = 1 := rfl
theorem dname_inj {i j : Nat} (hi : i < 10) (hj : j < 10) (h : dname i = dname j) : i = j := by
  have h1 : UInt8.ofNat (48 + i) = UInt8.ofNat (48 + j) := by
    have h2 := congrArg (fun b : ByteArray => b.data.toList) h
    simpa [dname] using h2
  have h3 := congrArg UInt8.toNat h1
  simp at h3
  omega

theorem Itoa_0 (w : World) : Calls Tryd.prog 7 #[.int .i64 0] w fun e w' => e = .returned (.string (dname 0)) ∧ w = w' := by
  go_enter Tryd.func7, Tryd.ntmps7
  go_wp2
  go_ret
  exact ⟨congrArg (fun s => Ending.returned (.string s)) (by decide +kernel), rfl⟩
theorem Itoa_1 (w : World) : Calls Tryd.prog 7 #[.int .i64 1] w fun e w' => e = .returned (.string (dname 1)) ∧ w = w' := by
  go_enter Tryd.func7, Tryd.ntmps7
  go_wp2
  go_ret
  exact ⟨congrArg (fun s => Ending.returned (.string s)) (by decide +kernel), rfl⟩
theorem Itoa_2 (w : World) : Calls Tryd.prog 7 #[.int .i64 2] w fun e w' => e = .returned (.string (dname 2)) ∧ w = w' := by
  go_enter Tryd.func7, Tryd.ntmps7
  go_wp2
  go_ret
  exact ⟨congrArg (fun s => Ending.returned (.string s)) (by decide +kernel), rfl⟩
theorem Itoa_3 (w : World) : Calls Tryd.prog 7 #[.int .i64 3] w fun e w' => e = .returned (.string (dname 3)) ∧ w = w' := by
  go_enter Tryd.func7, Tryd.ntmps7
  go_wp2
  go_ret
  exact ⟨congrArg (fun s => Ending.returned (.string s)) (by decide +kernel), rfl⟩
theorem Itoa_4 (w : World) : Calls Tryd.prog 7 #[.int .i64 4] w fun e w' => e = .returned (.string (dname 4)) ∧ w = w' := by
  go_enter Tryd.func7, Tryd.ntmps7
  go_wp2
  go_ret
  exact ⟨congrArg (fun s => Ending.returned (.string s)) (by decide +kernel), rfl⟩
theorem Itoa_5 (w : World) : Calls Tryd.prog 7 #[.int .i64 5] w fun e w' => e = .returned (.string (dname 5)) ∧ w = w' := by
  go_enter Tryd.func7, Tryd.ntmps7
  go_wp2
  go_ret
  exact ⟨congrArg (fun s => Ending.returned (.string s)) (by decide +kernel), rfl⟩
theorem Itoa_6 (w : World) : Calls Tryd.prog 7 #[.int .i64 6] w fun e w' => e = .returned (.string (dname 6)) ∧ w = w' := by
  go_enter Tryd.func7, Tryd.ntmps7
  go_wp2
  go_ret
  exact ⟨congrArg (fun s => Ending.returned (.string s)) (by decide +kernel), rfl⟩
theorem Itoa_7 (w : World) : Calls Tryd.prog 7 #[.int .i64 7] w fun e w' => e = .returned (.string (dname 7)) ∧ w = w' := by
  go_enter Tryd.func7, Tryd.ntmps7
  go_wp2
  go_ret
  exact ⟨congrArg (fun s => Ending.returned (.string s)) (by decide +kernel), rfl⟩
theorem Itoa_digit (i : Nat) (hi : i < 8) (w : World) : Calls Tryd.prog 7 #[.int .i64 (i : Int)] w fun e w' => e = .returned (.string (dname i)) ∧ w = w' := by
  match i, hi with
  | 0, _ => exact Itoa_0 w
  | 1, _ => exact Itoa_1 w
  | 2, _ => exact Itoa_2 w
  | 3, _ => exact Itoa_3 w
  | 4, _ => exact Itoa_4 w
  | 5, _ => exact Itoa_5 w
  | 6, _ => exact Itoa_6 w
  | 7, _ => exact Itoa_7 w
end Go.Proofs.YtempbknidpmncaaDoor
