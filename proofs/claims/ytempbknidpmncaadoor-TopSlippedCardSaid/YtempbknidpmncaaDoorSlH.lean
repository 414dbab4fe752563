/-
  TopSlipped: the walk of delayed, up to its sort.
-/
import Derived.Test.YtempbknidpmncaaDoorSlG
import Derived.Test.YtempbknidpmncaaDoorShelf
namespace Go.Proofs.YtempbknidpmncaaDoor
open Go.RowKit

theorem grownBy_set (W : World) (b o : Nat) (v : Value) : W.grownBy (W.setCell ⟨b, o, none⟩ v) (some b) :=
  ⟨rfl, rfl, rfl, by simp [World.setCell], fun k _ hne => Below.heap_setCell W _ v k (by intro h; exact hne (by rw [h]))⟩
theorem grownBy_drew (W : World) (r : Option Nat) : W.grownBy W.drew r := ⟨rfl, rfl, rfl, Nat.le_refl _, fun _ _ _ => rfl⟩
theorem max2_nat (x y : Nat) : Builtin.max2 (.int .i64 (x : Int)) (.int .i64 (y : Int)) = (pure (.int .i64 ((max x y : Nat) : Int)) : Sem Value) := by
  simp only [Builtin.max2, gt_iff_lt]
  congr 2
  split <;> omega
theorem maxB_two (ats : Array TypeId) (ty : TypeId) (a b : Value) : Builtin.max_ ats ty #[a, b] = (Builtin.max2 a b >>= fun s => pure s) := by simp only [Builtin.max_, List.foldlM_cons, List.foldlM_nil]
attribute [local go_sem] Oper.semAt_some maxB_two
theorem Tryd.info51' : (Tryd.prog.info? 51).map (fun i => (i.zero, i.size, i.bytes)) = some (some (.agg #[(.int .i64 0), (.int .i64 0), (.int .i64 0), (.slice none 0 0)]), 4, 48) := by kernel_rfl

/-- The cells of a plan's first launches. -/
def planC (P lbs lcs : Nat → Nat) (j : Nat) : List Value := (List.range j).flatMap fun k => [.int .i64 (P k : Nat), .int .i64 0, .int .i64 0, .slice (some ⟨lbs k, 0, none⟩) 1 (lcs k)]
theorem planC_succ (P lbs lcs : Nat → Nat) (j : Nat) : planC P lbs lcs (j + 1) = planC P lbs lcs j ++ [.int .i64 (P j : Nat), .int .i64 0, .int .i64 0, .slice (some ⟨lbs j, 0, none⟩) 1 (lcs j)] := by simp [planC, List.range_succ]
theorem planC_length (P lbs lcs : Nat → Nat) : ∀ j, (planC P lbs lcs j).length = j * 4
  | 0 => rfl
  | j + 1 => by rw [planC_succ, List.length_append, planC_length P lbs lcs j]; simp; omega
theorem planC_at (P lbs lcs : Nat → Nat) : ∀ (j k o : Nat), k < j → o < 4 → (planC P lbs lcs j)[k * 4 + o]? = [Value.int .i64 (P k : Nat), .int .i64 0, .int .i64 0, .slice (some ⟨lbs k, 0, none⟩) 1 (lcs k)][o]?
  | 0, _, _, h, _ => by omega
  | j + 1, k, o, h, ho => by
    rw [planC_succ]
    by_cases hk : k = j
    · subst hk
      rw [List.getElem?_append_right (by rw [planC_length]; omega), planC_length]
      congr 1; omega
    · rw [List.getElem?_append_left (by rw [planC_length]; omega)]
      exact planC_at P lbs lcs j k o (by omega) ho
theorem planC_congr {P P' lbs lbs' lcs lcs' : Nat → Nat} : ∀ {j : Nat}, (∀ k, k < j → P k = P' k ∧ lbs k = lbs' k ∧ lcs k = lcs' k) → planC P lbs lcs j = planC P' lbs' lcs' j
  | 0, _ => rfl
  | j + 1, h => by
    obtain ⟨h1, h2, h3⟩ := h j (by omega)
    rw [planC_succ, planC_succ, planC_congr (fun k hk => h k (by omega)), h1, h2, h3]

/-- A row of launches that the call owns, with loads of its own. -/
structure RowP (w0 W : World) (v : Value) (j : Nat) (P lbs lcs : Nat → Nat) : Prop where
  own : W.ownsRow w0.heap.size 51 4 v j (planC P lbs lcs j)
  loads : ∀ k, k < j → w0.heap.size ≤ lbs k ∧ ∃ cs, Blk W (lbs k) cs 3 ∧ cs[0]? = some (.int .i64 (k : Int))
section
variable {w0 W W' : World} {v : Value} {j : Nat} {P lbs lcs : Nat → Nat}
theorem RowP.grown (h : RowP w0 W v j P lbs lcs) {b : Nat} (hg : W.grownBy W' (some b)) (hb : ∀ k, v.ownBlock = some k → k ≠ b) (hl : ∀ k, k < j → lbs k ≠ b) : RowP w0 W' v j P lbs lcs where
  own := h.own.kept hg (by
    cases hv : v.ownBlock with
    | none => exact .inl rfl
    | some k => exact .inr (fun e => hb k hv (by injection e)))
  loads := fun k hk => by
    obtain ⟨h1, cs, h2, h3⟩ := h.loads k hk
    exact ⟨h1, cs, h2.grown hg (fun e => hl k hk (by injection e)), h3⟩
theorem RowP.below (h : RowP w0 W v j P lbs lcs) (hb : Below W.heap.size W W') : RowP w0 W' v j P lbs lcs where
  own := h.own.kept (row := none) ⟨hb.os, hb.tape, hb.output, hb.size, fun k hk _ => hb.block k hk⟩ (by
    cases hv : v.ownBlock with
    | none => exact .inl rfl
    | some k => exact .inr (fun e => by cases e))
  loads := fun k hk => by
    obtain ⟨h1, cs, h2, h3⟩ := h.loads k hk
    exact ⟨h1, cs, h2.below hb h2.lt, h3⟩
theorem RowP.form (h : RowP w0 W v j P lbs lcs) : ∃ A cap, v = .slice A j cap ∧ cap ≤ maxLen ∧ j ≤ cap ∧ (∀ k, v.ownBlock = some k → k < W.heap.size ∧ w0.heap.size ≤ k) ∧ (0 < j → ∃ g, A = some ⟨g, 0, none⟩) := by
  rcases h.own.2 with ⟨rfl, rfl⟩ | ⟨g, cap, cur, rfl, hg, hh, hc1, hc2, _⟩
  · exact ⟨none, 0, rfl, Nat.zero_le _, Nat.zero_le _, (fun k hk => by simp [Value.ownBlock] at hk), fun h => absurd h (Nat.lt_irrefl _)⟩
  · refine ⟨some ⟨g, 0, none⟩, cap, rfl, hc2, hc1, fun k hk => ?_, fun _ => ⟨g, rfl⟩⟩
    simp only [Value.ownBlock, Option.some.injEq] at hk
    subst hk
    exact ⟨(Array.getElem?_eq_some_iff.1 hh).1, hg⟩
theorem RowP.cells {g cap : Nat} (h : RowP w0 W (.slice (some ⟨g, 0, none⟩) j cap) j P lbs lcs) {k : Nat} (hk : k < j) :
    W.cell? ⟨g, k * 4, none⟩ = some (.int .i64 (P k : Nat)) ∧ W.cell? ⟨g, k * 4 + 1, none⟩ = some (.int .i64 0) ∧ W.cell? ⟨g, k * 4 + 2, none⟩ = some (.int .i64 0) ∧ W.cell? ⟨g, k * 4 + 3, none⟩ = some (.slice (some ⟨lbs k, 0, none⟩) 1 (lcs k)) := by
  have hc : ∀ o, o < 4 → W.cell? ⟨g, k * 4 + o, none⟩ = [Value.int .i64 (P k : Nat), .int .i64 0, .int .i64 0, .slice (some ⟨lbs k, 0, none⟩) 1 (lcs k)][o]? := fun o ho => by
    rw [h.own.cellAt (k * 4 + o) (by omega)]; exact planC_at P lbs lcs j k o hk ho
  exact ⟨by simpa using hc 0 (by omega), hc 1 (by omega), hc 2 (by omega), hc 3 (by omega)⟩
theorem RowP.plan {g cap : Nat} (h : RowP w0 W (.slice (some ⟨g, 0, none⟩) j cap) j P lbs lcs) : PlanAt W g j P := fun k hk => by
  obtain ⟨h0, h1, h2, h3⟩ := h.cells hk
  obtain ⟨_, cs, h4, h5⟩ := h.loads k hk
  exact ⟨h0, h1, h2, lbs k, lcs k, h3, h4.lt, h4.cell 0 h5⟩
end
end Go.Proofs.YtempbknidpmncaaDoor
