/-
  TopSlipped, with no program in sight: a late launch pushes those behind it only as far as it has to; how late it may be is one number.
-/
namespace Go.Proofs.YtempbknidpmncaaDoor

/-- The days when launch i is k days late. -/
def pushD (step : Nat) (d : Nat → Nat) (i k : Nat) : Nat → Nat
  | 0 => if i = 0 then d 0 + k else d 0
  | j + 1 => if j + 1 < i then d (j + 1) else if j + 1 = i then d (j + 1) + k else max (d (j + 1)) (pushD step d i k j + step)

def GapD (step n : Nat) (d : Nat → Nat) : Prop := ∀ j, j + 1 < n → d j + step ≤ d (j + 1)
/-- All fly by their last days. -/
def okN (lat d : Nat → Nat) (n : Nat) : Bool := (List.range n).all fun j => decide (d j ≤ lat j)

theorem okN_iff {lat d : Nat → Nat} {n : Nat} : okN lat d n = true ↔ ∀ j, j < n → d j ≤ lat j := by simp [okN]
theorem okN_no {lat d : Nat → Nat} {n : Nat} : okN lat d n = false ↔ ∃ j, j < n ∧ lat j < d j := by
  rw [← Bool.not_eq_true, okN_iff]
  simp
theorem okN_succ (lat d : Nat → Nat) (n : Nat) : okN lat d (n + 1) = (okN lat d n && decide (d n ≤ lat n)) := by
  simp [okN, List.range_succ]

theorem pushD_lt {step : Nat} {d : Nat → Nat} {i k : Nat} : ∀ {j}, j < i → pushD step d i k j = d j
  | 0, h => by simp [pushD]; omega
  | j + 1, h => by simp [pushD, h]
theorem pushD_at {step : Nat} {d : Nat → Nat} {i k : Nat} : pushD step d i k i = d i + k := by
  cases i <;> simp [pushD]
theorem pushD_gt {step : Nat} {d : Nat → Nat} {i k j : Nat} (h : i ≤ j) : pushD step d i k (j + 1) = max (d (j + 1)) (pushD step d i k j + step) := by
  simp only [pushD]
  rw [if_neg (by omega), if_neg (by omega)]
theorem pushD_le {step : Nat} {d : Nat → Nat} {i k : Nat} : ∀ j, d j ≤ pushD step d i k j
  | 0 => by simp only [pushD]; split <;> omega
  | j + 1 => by simp only [pushD]; split; · omega
                split <;> omega
theorem pushD_mono {step : Nat} {d : Nat → Nat} {i k k' : Nat} (h : k ≤ k') : ∀ j, pushD step d i k j ≤ pushD step d i k' j
  | 0 => by simp only [pushD]; split <;> omega
  | j + 1 => by
    have := pushD_mono (step := step) (d := d) (i := i) h j
    simp only [pushD]; split; · omega
    split <;> omega
theorem pushD_up {step : Nat} {d : Nat → Nat} {i k : Nat} : ∀ j, pushD step d i k j ≤ pushD step d i 0 j + k
  | 0 => by simp only [pushD]; split <;> omega
  | j + 1 => by
    have := pushD_up (step := step) (d := d) (i := i) (k := k) j
    simp only [pushD]; split; · omega
    split <;> omega
theorem pushD_zero {step n : Nat} {d : Nat → Nat} {i : Nat} (hg : GapD step n d) : ∀ j, j < n → pushD step d i 0 j = d j
  | 0, _ => by simp only [pushD]; split <;> omega
  | j + 1, h => by
    have := pushD_zero (i := i) hg j (by omega)
    have := hg j h
    simp only [pushD]; split; · rfl
    split <;> omega
theorem pushD_bound {step n : Nat} {d : Nat → Nat} {i k B : Nat} (hg : GapD step n d) (hB : ∀ j, j < n → d j ≤ B) (j : Nat) (hj : j < n) : pushD step d i k j ≤ B + k := by
  have h1 := pushD_up (step := step) (d := d) (i := i) (k := k) j
  have h2 := hB j hj
  rw [pushD_zero hg j hj] at h1
  omega
theorem pushD_gap {step n : Nat} {d : Nat → Nat} {i k : Nat} (hg : GapD step n d) : GapD step n (pushD step d i k) := by
  intro j hj
  by_cases h : i ≤ j
  · rw [pushD_gt h]; omega
  · rw [pushD_lt (by omega)]
    have := hg j hj
    have := pushD_le (step := step) (d := d) (i := i) (k := k) (j + 1)
    omega

/-- The law's own word for a late plan: from launch i on. -/
def okFrom (step : Nat) (d lat : Nat → Nat) (i k n : Nat) : Bool := (List.range n).all fun j => decide (j < i) || decide (pushD step d i k j ≤ lat j)
theorem okFrom_eq {step n : Nat} {d lat : Nat → Nat} {i k : Nat} (hl : ∀ j, j < n → d j ≤ lat j) : okFrom step d lat i k n = okN lat (pushD step d i k) n := by
  rw [Bool.eq_iff_iff, okN_iff]
  simp only [okFrom, List.all_eq_true, List.mem_range, Bool.or_eq_true, decide_eq_true_eq]
  constructor
  · intro h j hj
    rcases h j hj with h | h
    · rw [pushD_lt h]; exact hl j hj
    · exact h
  · intro h j hj; exact .inr (h j hj)

def okD (step n : Nat) (d lat : Nat → Nat) (i k : Nat) : Bool := okN lat (pushD step d i k) n

theorem okD_mono {step n : Nat} {d lat : Nat → Nat} {i k k' : Nat} (h : k ≤ k') (ho : okD step n d lat i k' = true) : okD step n d lat i k = true := by
  unfold okD at *
  rw [okN_iff] at *
  intro j hj
  exact Nat.le_trans (pushD_mono h j) (ho j hj)
theorem okD_zero {step n : Nat} {d lat : Nat → Nat} {i : Nat} (hg : GapD step n d) (hl : ∀ j, j < n → d j ≤ lat j) : okD step n d lat i 0 = true := by
  unfold okD
  rw [okN_iff]
  intro j hj
  rw [pushD_zero hg j hj]; exact hl j hj
theorem okD_far {step n : Nat} {d lat : Nat → Nat} {i k B : Nat} (hi : i < n) (hB : lat i ≤ B) (hk : B < k) : okD step n d lat i k = false := by
  unfold okD
  rw [okN_no]
  exact ⟨i, hi, by rw [pushD_at]; omega⟩
/-- The greatest delay is one number. -/
theorem okD_one {step n : Nat} {d lat : Nat → Nat} {i s t : Nat} (h1 : okD step n d lat i s = true) (h2 : okD step n d lat i (s + 1) = false) (h3 : okD step n d lat i t = true) (h4 : okD step n d lat i (t + 1) = false) : s = t := by
  by_cases h : s < t
  · rw [okD_mono (k := s + 1) (k' := t) (by omega) h3] at h2; cases h2
  · by_cases h' : t < s
    · rw [okD_mono (k := t + 1) (k' := s) (by omega) h1] at h4; cases h4
    · omega

/-! ### The law's days -/
def dayOf (step : Nat) (g : Nat → Nat) : Nat → Nat
  | 0 => g 0
  | i + 1 => dayOf step g i + g (i + 1) + step
theorem dayOf_gap (step n : Nat) (g : Nat → Nat) : GapD step n (dayOf step g) := fun j _ => by simp only [dayOf]; omega
theorem dayOf_le {step G : Nat} {g : Nat → Nat} (hg : ∀ i, g i ≤ G) : ∀ i, dayOf step g i ≤ (i + 1) * (G + step)
  | 0 => by have := hg 0; simp only [dayOf]; omega
  | i + 1 => by
    have := dayOf_le hg i (step := step)
    have := hg (i + 1)
    simp only [dayOf]
    rw [Nat.succ_mul (i + 1)]
    omega
end Go.Proofs.YtempbknidpmncaaDoor
