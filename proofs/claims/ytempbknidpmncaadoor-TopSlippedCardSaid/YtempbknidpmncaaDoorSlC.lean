/-
  TopSlipped: the walks of possible, compare and fault over the law's campaign.
-/
import Derived.Test.YtempbknidpmncaaDoorSlB
import Derived.Test.YtempbknidpmncaaDoorSlPlain
import Derived.Deep.RegionHeld3
namespace Go.Proofs.YtempbknidpmncaaDoor
open Go.RowKit

theorem cmpI_ne {a b : Int} (h : a ≠ b) : cmpI a b ≠ 0 := by
  unfold cmpI; split
  · omega
  · split <;> omega

theorem belowCellD {B : Nat} {W w' : World} (h : Below B W.drew w') {b o : Nat} {v : Value} (hc : W.cell? ⟨b, o, none⟩ = some v) (hlt : b < B) : w'.cell? ⟨b, o, none⟩ = some v := (h.cell (p := ⟨b, o, none⟩) hlt).trans hc

theorem below_of_drew {B : Nat} (W : World) : Below B W.drew W := ⟨rfl, rfl, rfl, Nat.le_refl _, fun _ _ => rfl⟩

theorem compare_any (da db : Int) (la lb ca cb : Nat) (ia ib : Int) (w : World) (hd : da ≠ db) (ha : w.cell? ⟨la, 0, none⟩ = some (.int .i64 ia)) (hb : w.cell? ⟨lb, 0, none⟩ = some (.int .i64 ib)) (hla : la < w.heap.size) (hlb : lb < w.heap.size) :
    Calls Tryd.prog 74 #[.agg #[.int .i64 da, .int .i64 0, .int .i64 0, .slice (some ⟨la, 0, none⟩) 1 ca], .agg #[.int .i64 db, .int .i64 0, .int .i64 0, .slice (some ⟨lb, 0, none⟩) 1 cb]] w
      fun e w' => e = .returned (.int .i64 (cmpI da db)) ∧ Below w.heap.size w w' := by
  have hne := cmpI_ne hd
  have hC1 := Compare_int da db
  generalize cmpI da db = z at *
  obtain ⟨W, hW⟩ : ∃ W, W = (w.alloc (.cells #[.int .i64 da, .int .i64 0, .int .i64 0, .slice (some ⟨la, 0, none⟩) 1 ca] 51)).alloc (.cells #[.int .i64 db, .int .i64 0, .int .i64 0, .slice (some ⟨lb, 0, none⟩) 1 cb] 51) := ⟨_, rfl⟩
  have hA : Blk W w.heap.size #[.int .i64 da, .int .i64 0, .int .i64 0, .slice (some ⟨la, 0, none⟩) 1 ca] 51 := by rw [hW]; exact (Blk.new _ _ _).alloc _
  have hB : Blk W (w.heap.size + 1) #[.int .i64 db, .int .i64 0, .int .i64 0, .slice (some ⟨lb, 0, none⟩) 1 cb] 51 := by
    rw [hW]
    have := Blk.new (w.alloc (.cells #[.int .i64 da, .int .i64 0, .int .i64 0, .slice (some ⟨la, 0, none⟩) 1 ca] 51)) #[.int .i64 db, .int .i64 0, .int .i64 0, .slice (some ⟨lb, 0, none⟩) 1 cb] 51
    simpa using this
  have hsz : W.heap.size = w.heap.size + 2 := by rw [hW]; simp
  have hbW : Below w.heap.size w W := by rw [hW]; exact ((Below.refl _ _).alloc (Nat.le_refl _) _).alloc (by simp) _
  have ha' : W.cell? ⟨la, 0, none⟩ = some (.int .i64 ia) := (hbW.cell (p := ⟨la, 0, none⟩) hla).trans ha
  have hb' : W.cell? ⟨lb, 0, none⟩ = some (.int .i64 ib) := (hbW.cell (p := ⟨lb, 0, none⟩) hlb).trans hb
  have a0 := hA.cell 0 rfl
  have a1 := hA.cell 1 rfl
  have a2 := hA.cell 2 rfl
  have a3 := hA.cell 3 rfl
  have b0 := hB.cell 0 rfl
  have b1 := hB.cell 1 rfl
  have b2 := hB.cell 2 rfl
  have b3 := hB.cell 3 rfl
  go_enter Tryd.func74, Tryd.ntmps74
  go_wp2
  rw [← hW]
  clear hW
  refine wp_region_ord [(0, 0, 0), (1, 2, 1), (2, 0, 0), (3, 2, 4), (5, 0, 0), (6, 1, 32), (7, 0, 0), (8, 1, 128), (10, 0, 0), (11, 1, 1024), (12, 0, 0), (13, 1, 4096), (15, 0, 0), (16, 1, 32768), (17, 0, 0), (18, 1, 131072), (4, 3, 15), (9, 3, 511), (14, 3, 16383), (19, 3, 524287), (20, 3, 1048575), (21, 3, 2097151), (22, 0, 4194303)] true (by kernel_rfl) (by kernel_rfl) ?_
  repeat (first | (refine tx_P rfl (fun K hK => ?_); go_simp; refine hK _ _ ?_; clear hK K) | (refine tx_L rfl (fun K hK => ?_); go_simp; refine hK _ _ ?_; clear hK K) | (refine tx_H rfl (fun K hK => ?_); go_simp; refine ⟨_, fun w' hw' => by first | (rw [belowCellD hw' a0 (by first | omega | (simp; omega))]; rfl) | (rw [belowCellD hw' a1 (by first | omega | (simp; omega))]; rfl) | (rw [belowCellD hw' a2 (by first | omega | (simp; omega))]; rfl) | (rw [belowCellD hw' a3 (by first | omega | (simp; omega))]; rfl) | (rw [belowCellD hw' b0 (by first | omega | (simp; omega))]; rfl) | (rw [belowCellD hw' b1 (by first | omega | (simp; omega))]; rfl) | (rw [belowCellD hw' b2 (by first | omega | (simp; omega))]; rfl) | (rw [belowCellD hw' b3 (by first | omega | (simp; omega))]; rfl), ?_⟩; refine hK _ _ ?_; clear hK K))
  refine tx_EK rfl (fun K hK => ?_)
  go_simp
  refine ⟨rfl, callsIn_wide.2 ((hC1 _).mono ?_)⟩
  rintro e w1 ⟨rfl, rfl⟩
  refine hK _ _ ((Below.refl _ _)) ?_; clear hK K
  refine tx_EK rfl (fun K hK => ?_)
  go_simp
  refine ⟨rfl, callsIn_wide.2 ((Compare_int _ _ _).mono ?_)⟩
  rintro e w1 ⟨rfl, rfl⟩
  refine hK _ _ ((Below.refl _ _)) ?_; clear hK K
  refine tx_EK rfl (fun K hK => ?_)
  go_simp
  refine ⟨rfl, callsIn_wide.2 ((Compare_int _ _ _).mono ?_)⟩
  rintro e w1 ⟨rfl, rfl⟩
  refine hK _ _ ((Below.refl _ _)) ?_; clear hK K
  refine tx_EK rfl (fun K hK => ?_)
  go_simp
  refine ⟨rfl, callsIn_wide.2 ((CompareS_one _ _ _ _ ia ib W.drew ha' hb').mono ?_)⟩
  rintro e w1 ⟨rfl, rfl⟩
  refine hK _ _ ((Below.refl _ _)) ?_; clear hK K
  refine tx_EK rfl (fun K hK => ?_)
  go_simp
  refine hK _ _ (((below_of_drew W).alloc (Nat.le_refl _) _).drew) ?_; clear hK K
  refine tx_EK rfl (fun K hK => ?_)
  go_simp
  refine ⟨rfl, callsIn_wide.2 ((Or_first _ z _ hne (by rw [← hsz]; exact (Blk.new W _ _).cell 0 rfl)).mono ?_)⟩
  rintro e w1 ⟨rfl, rfl⟩
  refine hK _ _ (((below_of_drew W).alloc (Nat.le_refl _) _).drew) ?_; clear hK K
  (refine tx_P rfl (fun K hK => ?_); go_simp; refine hK _ _ ?_; clear hK K)
  refine tx_nil ?_
  go_wp2
  go_ret
  exact ⟨rfl, (hbW.drew).alloc (by simp; omega) _⟩

/-- slices.IndexFunc over one number, where closure 131 answers r. -/
theorem idxInt131 (p : Value) (b cap : Nat) (x : Int) (r : Bool) (w : World) (hc : w.cell? ⟨b, 0, none⟩ = some (.int .i64 x)) (hb : b < w.heap.size)
    (H : ∀ W, Below w.heap.size w W → Calls Tryd.prog 131 #[.int .i64 x, p] W fun e w' => e = .returned (.bool r) ∧ Below W.heap.size W w') :
    Calls Tryd.prog 113 #[.slice (some ⟨b, 0, none⟩) 1 cap, .func (.func 131) #[] #[p]] w fun e w' => e = .returned (.int .i64 (if r then 0 else -1)) ∧ Below w.heap.size w w' := by
  go_enter Tryd.func113, Tryd.ntmps113
  go_wp2
  go_loopw [5, 8] (fun _ i wr => Below w.heap.size w wr ∧ (i = .int .i64 0 ∨ (i = .int .i64 1 ∧ r = false))) (fun _ i _ => 1 - (intOf i).toNat)
  case atStart => exact ⟨Below.refl _ _, .inl rfl⟩
  case round =>
    obtain ⟨hbw, rfl | ⟨rfl, hne⟩⟩ := hrel
    · have hcw := (hbw.cell (p := ⟨b, 0, none⟩) hb).trans hc
      have HW := Lib.hid (H wr hbw)
      clear H
      cases r
      · go_wp2_with (refine HW.out.mono ?_; rintro e w1 ⟨rfl, hb1⟩)
        go_roundw
        case rel => exact ⟨hbw.trans (hb1.mono hbw.size), .inr (by first | exact ⟨rfl, rfl⟩ | exact ⟨rfl, trivial⟩)⟩
        case measure => simp [intOf]
      · go_wp2_with (refine HW.out.mono ?_; rintro e w1 ⟨rfl, hb1⟩)
        go_ret
        exact ⟨rfl, hbw.trans (hb1.mono hbw.size)⟩
    · subst hne
      go_wp2
      go_ret
      exact ⟨rfl, hbw⟩
theorem anyInt131 (p : Value) (b cap : Nat) (x : Int) (r : Bool) (w : World) (hc : w.cell? ⟨b, 0, none⟩ = some (.int .i64 x)) (hb : b < w.heap.size)
    (H : ∀ W, Below w.heap.size w W → Calls Tryd.prog 131 #[.int .i64 x, p] W fun e w' => e = .returned (.bool r) ∧ Below W.heap.size W w') :
    Calls Tryd.prog 72 #[.slice (some ⟨b, 0, none⟩) 1 cap, .func (.func 131) #[] #[p]] w fun e w' => e = .returned (.bool r) ∧ Below w.heap.size w w' := by
  have HI := idxInt131 p b cap x r w hc hb H
  clear H
  go_enter Tryd.func72, Tryd.ntmps72
  cases r
  · go_wp2_with (refine HI.mono ?_; rintro e w1 ⟨rfl, hb1⟩)
    go_ret
    exact ⟨rfl, hb1⟩
  · go_wp2_with (refine HI.mono ?_; rintro e w1 ⟨rfl, hb1⟩)
    go_ret
    exact ⟨rfl, hb1⟩

/-- slices.IndexFunc over one number, where closure 73 answers r. -/
theorem idxInt73 (p : Value) (b cap : Nat) (x : Int) (r : Bool) (w : World) (hc : w.cell? ⟨b, 0, none⟩ = some (.int .i64 x)) (hb : b < w.heap.size)
    (H : ∀ W, Below w.heap.size w W → Calls Tryd.prog 73 #[.int .i64 x, p] W fun e w' => e = .returned (.bool r) ∧ Below W.heap.size W w') :
    Calls Tryd.prog 113 #[.slice (some ⟨b, 0, none⟩) 1 cap, .func (.func 73) #[] #[p]] w fun e w' => e = .returned (.int .i64 (if r then 0 else -1)) ∧ Below w.heap.size w w' := by
  go_enter Tryd.func113, Tryd.ntmps113
  go_wp2
  go_loopw [5, 8] (fun _ i wr => Below w.heap.size w wr ∧ (i = .int .i64 0 ∨ (i = .int .i64 1 ∧ r = false))) (fun _ i _ => 1 - (intOf i).toNat)
  case atStart => exact ⟨Below.refl _ _, .inl rfl⟩
  case round =>
    obtain ⟨hbw, rfl | ⟨rfl, hne⟩⟩ := hrel
    · have hcw := (hbw.cell (p := ⟨b, 0, none⟩) hb).trans hc
      have HW := Lib.hid (H wr hbw)
      clear H
      cases r
      · go_wp2_with (refine HW.out.mono ?_; rintro e w1 ⟨rfl, hb1⟩)
        go_roundw
        case rel => exact ⟨hbw.trans (hb1.mono hbw.size), .inr (by first | exact ⟨rfl, rfl⟩ | exact ⟨rfl, trivial⟩)⟩
        case measure => simp [intOf]
      · go_wp2_with (refine HW.out.mono ?_; rintro e w1 ⟨rfl, hb1⟩)
        go_ret
        exact ⟨rfl, hbw.trans (hb1.mono hbw.size)⟩
    · subst hne
      go_wp2
      go_ret
      exact ⟨rfl, hbw⟩
theorem anyInt73 (p : Value) (b cap : Nat) (x : Int) (r : Bool) (w : World) (hc : w.cell? ⟨b, 0, none⟩ = some (.int .i64 x)) (hb : b < w.heap.size)
    (H : ∀ W, Below w.heap.size w W → Calls Tryd.prog 73 #[.int .i64 x, p] W fun e w' => e = .returned (.bool r) ∧ Below W.heap.size W w') :
    Calls Tryd.prog 72 #[.slice (some ⟨b, 0, none⟩) 1 cap, .func (.func 73) #[] #[p]] w fun e w' => e = .returned (.bool r) ∧ Below w.heap.size w w' := by
  have HI := idxInt73 p b cap x r w hc hb H
  clear H
  go_enter Tryd.func72, Tryd.ntmps72
  cases r
  · go_wp2_with (refine HI.mono ?_; rintro e w1 ⟨rfl, hb1⟩)
    go_ret
    exact ⟨rfl, hb1⟩
  · go_wp2_with (refine HI.mono ?_; rintro e w1 ⟨rfl, hb1⟩)
    go_ret
    exact ⟨rfl, hb1⟩

/-! ### Plans -/
/-- Block g holds launches: launch j flies on day d j with cargo j. -/
def PlanAt (w : World) (g n : Nat) (d : Nat → Nat) : Prop := ∀ j, j < n → w.cell? ⟨g, j * 4, none⟩ = some (.int .i64 (d j : Nat)) ∧ w.cell? ⟨g, j * 4 + 1, none⟩ = some (.int .i64 0) ∧ w.cell? ⟨g, j * 4 + 2, none⟩ = some (.int .i64 0) ∧
  ∃ lb lc, w.cell? ⟨g, j * 4 + 3, none⟩ = some (.slice (some ⟨lb, 0, none⟩) 1 lc) ∧ lb < w.heap.size ∧ w.cell? ⟨lb, 0, none⟩ = some (.int .i64 (j : Int))
theorem PlanAt.below {w w' : World} {g n B : Nat} {d : Nat → Nat} (h : PlanAt w g n d) (hg : g < w.heap.size) (hb : Below B w w') (hB : w.heap.size ≤ B) : PlanAt w' g n d := by
  intro j hj
  obtain ⟨h0, h1, h2, lb, lc, h3, h4, h5⟩ := h j hj
  have hc : ∀ o, w'.cell? ⟨g, o, none⟩ = w.cell? ⟨g, o, none⟩ := fun o => hb.cell (p := ⟨g, o, none⟩) (Nat.lt_of_lt_of_le hg hB)
  exact ⟨(hc _).trans h0, (hc _).trans h1, (hc _).trans h2, lb, lc, (hc _).trans h3, Nat.lt_of_lt_of_le h4 hb.size, (hb.cell (p := ⟨lb, 0, none⟩) (Nat.lt_of_lt_of_le h4 hB)).trans h5⟩
theorem PlanAt.take {w : World} {g n m : Nat} {d : Nat → Nat} (h : PlanAt w g n d) (hm : m ≤ n) : PlanAt w g m d := fun j hj => h j (by omega)

/-- slices.IndexFunc over a plan's launches, where closure 71 answers r j at launch j. -/
theorem idxL71 (p0 : Value) (g n cap : Nat) (d : Nat → Nat) (r : Nat → Bool) (w : World) (hn : n ≤ 6) (hg : g < w.heap.size) (hp : PlanAt w g n d)
    (H : ∀ W j lb lc, j < n → Below w.heap.size w W → lb < W.heap.size → W.cell? ⟨lb, 0, none⟩ = some (.int .i64 (j : Int)) →
      Calls Tryd.prog 71 #[.agg #[.int .i64 (d j : Nat), .int .i64 0, .int .i64 0, .slice (some ⟨lb, 0, none⟩) 1 lc], p0] W fun e w' => e = .returned (.bool (r j)) ∧ Below W.heap.size W w') :
    Calls Tryd.prog 77 #[.slice (some ⟨g, 0, none⟩) n cap, .func (.func 71) #[] #[p0]] w fun e w' => (∃ z : Int, e = .returned (.int .i64 z) ∧ (0 ≤ z ↔ ∃ j, j < n ∧ r j = true)) ∧ Below w.heap.size w w' := by
  go_enter Tryd.func77, Tryd.ntmps77
  go_wp2
  go_loopw [5, 8] (fun _ i wr => ∃ k : Nat, k ≤ n ∧ i = .int .i64 (k : Int) ∧ Below w.heap.size w wr ∧ (∀ j, j < k → r j = false)) (fun _ i _ => n - (intOf i).toNat)
  case atStart => exact ⟨0, Nat.zero_le _, rfl, Below.refl _ _, fun j hj => absurd hj (Nat.not_lt_zero _)⟩
  case round =>
    obtain ⟨k, hk, rfl, hb, hr⟩ := hrel
    have HR := Lib.hid hr
    clear hr
    by_cases hlt : k < n
    · obtain ⟨c0, c1, c2, lb, lc, c3, c4, c5⟩ := (hp.below hg hb (Nat.le_refl _)) k hlt
      have HW := Lib.hid (H wr k lb lc hlt hb c4 c5)
      clear H hp
      cases hrk : r k with
      | false =>
        have HRK := Lib.hid hrk
        rw [hrk] at HW
        clear hrk
        go_wp2_with (refine HW.out.mono ?_; rintro e w1 ⟨rfl, hb1⟩)
        go_roundw
        case rel =>
          refine ⟨k + 1, by omega, by go_num, hb.trans (hb1.mono hb.size), fun j hj => ?_⟩
          by_cases hjk : j = k
          · rw [hjk]; exact HRK.out
          · exact HR.out j (by omega)
        case measure => simp [intOf]; omega
      | true =>
        have HRK := Lib.hid hrk
        rw [hrk] at HW
        clear hrk
        go_wp2_with (refine HW.out.mono ?_; rintro e w1 ⟨rfl, hb1⟩)
        go_ret
        exact ⟨⟨(k : Int), rfl, by constructor
                                   · intro _; exact ⟨k, hlt, HRK.out⟩
                                   · intro _; omega⟩, hb.trans (hb1.mono hb.size)⟩
    · clear H hp
      go_wp2
      go_ret
      exact ⟨⟨-1, rfl, by constructor
                          · intro h; omega
                          · rintro ⟨j, hj, hjr⟩
                            rw [HR.out j (by omega)] at hjr; cases hjr⟩, hb⟩
theorem anyL71 (p0 : Value) (g n cap : Nat) (d : Nat → Nat) (r : Nat → Bool) (b : Bool) (w : World) (hn : n ≤ 6) (hg : g < w.heap.size) (hp : PlanAt w g n d) (hbr : b = true ↔ ∃ j, j < n ∧ r j = true)
    (H : ∀ W j lb lc, j < n → Below w.heap.size w W → lb < W.heap.size → W.cell? ⟨lb, 0, none⟩ = some (.int .i64 (j : Int)) →
      Calls Tryd.prog 71 #[.agg #[.int .i64 (d j : Nat), .int .i64 0, .int .i64 0, .slice (some ⟨lb, 0, none⟩) 1 lc], p0] W fun e w' => e = .returned (.bool (r j)) ∧ Below W.heap.size W w') :
    Calls Tryd.prog 33 #[.slice (some ⟨g, 0, none⟩) n cap, .func (.func 71) #[] #[p0]] w fun e w' => e = .returned (.bool b) ∧ Below w.heap.size w w' := by
  have HI := idxL71 p0 g n cap d r w hn hg hp H
  have HB := Lib.hid hbr
  clear H hp hbr
  go_enter Tryd.func33, Tryd.ntmps33
  cases b
  · go_wp2_with (refine HI.mono ?_; rintro e w1 ⟨⟨z, rfl, hz⟩, hb1⟩; rw [← HB.out] at hz; have hz2 : ¬ (0 ≤ z) := (fun h => Bool.false_ne_true (hz.1 h)); clear hz)
    go_ret
    exact ⟨by first | rfl | exact ret_bool (by simp; omega) | exact ret_bool (by simp), hb1⟩
  · go_wp2_with (refine HI.mono ?_; rintro e w1 ⟨⟨z, rfl, hz⟩, hb1⟩; rw [← HB.out] at hz; have hz2 : 0 ≤ z := hz.2 rfl; clear hz)
    go_ret
    exact ⟨by first | rfl | exact ret_bool (by simp; omega) | exact ret_bool (by simp), hb1⟩

/-- slices.IndexFunc over a plan's launches, where closure 75 answers r j at launch j. -/
theorem idxL75 (p0 p1 : Value) (g n cap : Nat) (d : Nat → Nat) (r : Nat → Bool) (w : World) (hn : n ≤ 6) (hg : g < w.heap.size) (hp : PlanAt w g n d)
    (H : ∀ W j lb lc, j < n → Below w.heap.size w W → lb < W.heap.size → W.cell? ⟨lb, 0, none⟩ = some (.int .i64 (j : Int)) →
      Calls Tryd.prog 75 #[.agg #[.int .i64 (d j : Nat), .int .i64 0, .int .i64 0, .slice (some ⟨lb, 0, none⟩) 1 lc], p0, p1] W fun e w' => e = .returned (.bool (r j)) ∧ Below W.heap.size W w') :
    Calls Tryd.prog 77 #[.slice (some ⟨g, 0, none⟩) n cap, .func (.func 75) #[] #[p0, p1]] w fun e w' => (∃ z : Int, e = .returned (.int .i64 z) ∧ (0 ≤ z ↔ ∃ j, j < n ∧ r j = true)) ∧ Below w.heap.size w w' := by
  go_enter Tryd.func77, Tryd.ntmps77
  go_wp2
  go_loopw [5, 8] (fun _ i wr => ∃ k : Nat, k ≤ n ∧ i = .int .i64 (k : Int) ∧ Below w.heap.size w wr ∧ (∀ j, j < k → r j = false)) (fun _ i _ => n - (intOf i).toNat)
  case atStart => exact ⟨0, Nat.zero_le _, rfl, Below.refl _ _, fun j hj => absurd hj (Nat.not_lt_zero _)⟩
  case round =>
    obtain ⟨k, hk, rfl, hb, hr⟩ := hrel
    have HR := Lib.hid hr
    clear hr
    by_cases hlt : k < n
    · obtain ⟨c0, c1, c2, lb, lc, c3, c4, c5⟩ := (hp.below hg hb (Nat.le_refl _)) k hlt
      have HW := Lib.hid (H wr k lb lc hlt hb c4 c5)
      clear H hp
      cases hrk : r k with
      | false =>
        have HRK := Lib.hid hrk
        rw [hrk] at HW
        clear hrk
        go_wp2_with (refine HW.out.mono ?_; rintro e w1 ⟨rfl, hb1⟩)
        go_roundw
        case rel =>
          refine ⟨k + 1, by omega, by go_num, hb.trans (hb1.mono hb.size), fun j hj => ?_⟩
          by_cases hjk : j = k
          · rw [hjk]; exact HRK.out
          · exact HR.out j (by omega)
        case measure => simp [intOf]; omega
      | true =>
        have HRK := Lib.hid hrk
        rw [hrk] at HW
        clear hrk
        go_wp2_with (refine HW.out.mono ?_; rintro e w1 ⟨rfl, hb1⟩)
        go_ret
        exact ⟨⟨(k : Int), rfl, by constructor
                                   · intro _; exact ⟨k, hlt, HRK.out⟩
                                   · intro _; omega⟩, hb.trans (hb1.mono hb.size)⟩
    · clear H hp
      go_wp2
      go_ret
      exact ⟨⟨-1, rfl, by constructor
                          · intro h; omega
                          · rintro ⟨j, hj, hjr⟩
                            rw [HR.out j (by omega)] at hjr; cases hjr⟩, hb⟩
theorem anyL75 (p0 p1 : Value) (g n cap : Nat) (d : Nat → Nat) (r : Nat → Bool) (b : Bool) (w : World) (hn : n ≤ 6) (hg : g < w.heap.size) (hp : PlanAt w g n d) (hbr : b = true ↔ ∃ j, j < n ∧ r j = true)
    (H : ∀ W j lb lc, j < n → Below w.heap.size w W → lb < W.heap.size → W.cell? ⟨lb, 0, none⟩ = some (.int .i64 (j : Int)) →
      Calls Tryd.prog 75 #[.agg #[.int .i64 (d j : Nat), .int .i64 0, .int .i64 0, .slice (some ⟨lb, 0, none⟩) 1 lc], p0, p1] W fun e w' => e = .returned (.bool (r j)) ∧ Below W.heap.size W w') :
    Calls Tryd.prog 33 #[.slice (some ⟨g, 0, none⟩) n cap, .func (.func 75) #[] #[p0, p1]] w fun e w' => e = .returned (.bool b) ∧ Below w.heap.size w w' := by
  have HI := idxL75 p0 p1 g n cap d r w hn hg hp H
  have HB := Lib.hid hbr
  clear H hp hbr
  go_enter Tryd.func33, Tryd.ntmps33
  cases b
  · go_wp2_with (refine HI.mono ?_; rintro e w1 ⟨⟨z, rfl, hz⟩, hb1⟩; rw [← HB.out] at hz; have hz2 : ¬ (0 ≤ z) := (fun h => Bool.false_ne_true (hz.1 h)); clear hz)
    go_ret
    exact ⟨by first | rfl | exact ret_bool (by simp; omega) | exact ret_bool (by simp), hb1⟩
  · go_wp2_with (refine HI.mono ?_; rintro e w1 ⟨⟨z, rfl, hz⟩, hb1⟩; rw [← HB.out] at hz; have hz2 : 0 ≤ z := hz.2 rfl; clear hz)
    go_ret
    exact ⟨by first | rfl | exact ret_bool (by simp; omega) | exact ret_bool (by simp), hb1⟩

/-- slices.IndexFunc over a plan's launches, where closure 76 answers r j at launch j. -/
theorem idxL76 (p0 p1 : Value) (g n cap : Nat) (d : Nat → Nat) (r : Nat → Bool) (w : World) (hn : n ≤ 6) (hg : g < w.heap.size) (hp : PlanAt w g n d)
    (H : ∀ W j lb lc, j < n → Below w.heap.size w W → lb < W.heap.size → W.cell? ⟨lb, 0, none⟩ = some (.int .i64 (j : Int)) →
      Calls Tryd.prog 76 #[.agg #[.int .i64 (d j : Nat), .int .i64 0, .int .i64 0, .slice (some ⟨lb, 0, none⟩) 1 lc], p0, p1] W fun e w' => e = .returned (.bool (r j)) ∧ Below W.heap.size W w') :
    Calls Tryd.prog 77 #[.slice (some ⟨g, 0, none⟩) n cap, .func (.func 76) #[] #[p0, p1]] w fun e w' => (∃ z : Int, e = .returned (.int .i64 z) ∧ (0 ≤ z ↔ ∃ j, j < n ∧ r j = true)) ∧ Below w.heap.size w w' := by
  go_enter Tryd.func77, Tryd.ntmps77
  go_wp2
  go_loopw [5, 8] (fun _ i wr => ∃ k : Nat, k ≤ n ∧ i = .int .i64 (k : Int) ∧ Below w.heap.size w wr ∧ (∀ j, j < k → r j = false)) (fun _ i _ => n - (intOf i).toNat)
  case atStart => exact ⟨0, Nat.zero_le _, rfl, Below.refl _ _, fun j hj => absurd hj (Nat.not_lt_zero _)⟩
  case round =>
    obtain ⟨k, hk, rfl, hb, hr⟩ := hrel
    have HR := Lib.hid hr
    clear hr
    by_cases hlt : k < n
    · obtain ⟨c0, c1, c2, lb, lc, c3, c4, c5⟩ := (hp.below hg hb (Nat.le_refl _)) k hlt
      have HW := Lib.hid (H wr k lb lc hlt hb c4 c5)
      clear H hp
      cases hrk : r k with
      | false =>
        have HRK := Lib.hid hrk
        rw [hrk] at HW
        clear hrk
        go_wp2_with (refine HW.out.mono ?_; rintro e w1 ⟨rfl, hb1⟩)
        go_roundw
        case rel =>
          refine ⟨k + 1, by omega, by go_num, hb.trans (hb1.mono hb.size), fun j hj => ?_⟩
          by_cases hjk : j = k
          · rw [hjk]; exact HRK.out
          · exact HR.out j (by omega)
        case measure => simp [intOf]; omega
      | true =>
        have HRK := Lib.hid hrk
        rw [hrk] at HW
        clear hrk
        go_wp2_with (refine HW.out.mono ?_; rintro e w1 ⟨rfl, hb1⟩)
        go_ret
        exact ⟨⟨(k : Int), rfl, by constructor
                                   · intro _; exact ⟨k, hlt, HRK.out⟩
                                   · intro _; omega⟩, hb.trans (hb1.mono hb.size)⟩
    · clear H hp
      go_wp2
      go_ret
      exact ⟨⟨-1, rfl, by constructor
                          · intro h; omega
                          · rintro ⟨j, hj, hjr⟩
                            rw [HR.out j (by omega)] at hjr; cases hjr⟩, hb⟩
theorem anyL76 (p0 p1 : Value) (g n cap : Nat) (d : Nat → Nat) (r : Nat → Bool) (b : Bool) (w : World) (hn : n ≤ 6) (hg : g < w.heap.size) (hp : PlanAt w g n d) (hbr : b = true ↔ ∃ j, j < n ∧ r j = true)
    (H : ∀ W j lb lc, j < n → Below w.heap.size w W → lb < W.heap.size → W.cell? ⟨lb, 0, none⟩ = some (.int .i64 (j : Int)) →
      Calls Tryd.prog 76 #[.agg #[.int .i64 (d j : Nat), .int .i64 0, .int .i64 0, .slice (some ⟨lb, 0, none⟩) 1 lc], p0, p1] W fun e w' => e = .returned (.bool (r j)) ∧ Below W.heap.size W w') :
    Calls Tryd.prog 33 #[.slice (some ⟨g, 0, none⟩) n cap, .func (.func 76) #[] #[p0, p1]] w fun e w' => e = .returned (.bool b) ∧ Below w.heap.size w w' := by
  have HI := idxL76 p0 p1 g n cap d r w hn hg hp H
  have HB := Lib.hid hbr
  clear H hp hbr
  go_enter Tryd.func33, Tryd.ntmps33
  cases b
  · go_wp2_with (refine HI.mono ?_; rintro e w1 ⟨⟨z, rfl, hz⟩, hb1⟩; rw [← HB.out] at hz; have hz2 : ¬ (0 ≤ z) := (fun h => Bool.false_ne_true (hz.1 h)); clear hz)
    go_ret
    exact ⟨by first | rfl | exact ret_bool (by simp; omega) | exact ret_bool (by simp), hb1⟩
  · go_wp2_with (refine HI.mono ?_; rintro e w1 ⟨⟨z, rfl, hz⟩, hb1⟩; rw [← HB.out] at hz; have hz2 : 0 ≤ z := hz.2 rfl; clear hz)
    go_ret
    exact ⟨by first | rfl | exact ret_bool (by simp; omega) | exact ret_bool (by simp), hb1⟩

/-- slices.IndexFunc over a plan's launches, where closure 34 answers r j at launch j. -/
theorem idxL34 (p0 : Value) (g n cap : Nat) (d : Nat → Nat) (r : Nat → Bool) (w : World) (hn : n ≤ 6) (hg : g < w.heap.size) (hp : PlanAt w g n d)
    (H : ∀ W j lb lc, j < n → Below w.heap.size w W → lb < W.heap.size → W.cell? ⟨lb, 0, none⟩ = some (.int .i64 (j : Int)) →
      Calls Tryd.prog 34 #[.agg #[.int .i64 (d j : Nat), .int .i64 0, .int .i64 0, .slice (some ⟨lb, 0, none⟩) 1 lc], p0] W fun e w' => e = .returned (.bool (r j)) ∧ Below W.heap.size W w') :
    Calls Tryd.prog 77 #[.slice (some ⟨g, 0, none⟩) n cap, .func (.func 34) #[] #[p0]] w fun e w' => (∃ z : Int, e = .returned (.int .i64 z) ∧ (0 ≤ z ↔ ∃ j, j < n ∧ r j = true)) ∧ Below w.heap.size w w' := by
  go_enter Tryd.func77, Tryd.ntmps77
  go_wp2
  go_loopw [5, 8] (fun _ i wr => ∃ k : Nat, k ≤ n ∧ i = .int .i64 (k : Int) ∧ Below w.heap.size w wr ∧ (∀ j, j < k → r j = false)) (fun _ i _ => n - (intOf i).toNat)
  case atStart => exact ⟨0, Nat.zero_le _, rfl, Below.refl _ _, fun j hj => absurd hj (Nat.not_lt_zero _)⟩
  case round =>
    obtain ⟨k, hk, rfl, hb, hr⟩ := hrel
    have HR := Lib.hid hr
    clear hr
    by_cases hlt : k < n
    · obtain ⟨c0, c1, c2, lb, lc, c3, c4, c5⟩ := (hp.below hg hb (Nat.le_refl _)) k hlt
      have HW := Lib.hid (H wr k lb lc hlt hb c4 c5)
      clear H hp
      cases hrk : r k with
      | false =>
        have HRK := Lib.hid hrk
        rw [hrk] at HW
        clear hrk
        go_wp2_with (refine HW.out.mono ?_; rintro e w1 ⟨rfl, hb1⟩)
        go_roundw
        case rel =>
          refine ⟨k + 1, by omega, by go_num, hb.trans (hb1.mono hb.size), fun j hj => ?_⟩
          by_cases hjk : j = k
          · rw [hjk]; exact HRK.out
          · exact HR.out j (by omega)
        case measure => simp [intOf]; omega
      | true =>
        have HRK := Lib.hid hrk
        rw [hrk] at HW
        clear hrk
        go_wp2_with (refine HW.out.mono ?_; rintro e w1 ⟨rfl, hb1⟩)
        go_ret
        exact ⟨⟨(k : Int), rfl, by constructor
                                   · intro _; exact ⟨k, hlt, HRK.out⟩
                                   · intro _; omega⟩, hb.trans (hb1.mono hb.size)⟩
    · clear H hp
      go_wp2
      go_ret
      exact ⟨⟨-1, rfl, by constructor
                          · intro h; omega
                          · rintro ⟨j, hj, hjr⟩
                            rw [HR.out j (by omega)] at hjr; cases hjr⟩, hb⟩
theorem anyL34 (p0 : Value) (g n cap : Nat) (d : Nat → Nat) (r : Nat → Bool) (b : Bool) (w : World) (hn : n ≤ 6) (hg : g < w.heap.size) (hp : PlanAt w g n d) (hbr : b = true ↔ ∃ j, j < n ∧ r j = true)
    (H : ∀ W j lb lc, j < n → Below w.heap.size w W → lb < W.heap.size → W.cell? ⟨lb, 0, none⟩ = some (.int .i64 (j : Int)) →
      Calls Tryd.prog 34 #[.agg #[.int .i64 (d j : Nat), .int .i64 0, .int .i64 0, .slice (some ⟨lb, 0, none⟩) 1 lc], p0] W fun e w' => e = .returned (.bool (r j)) ∧ Below W.heap.size W w') :
    Calls Tryd.prog 33 #[.slice (some ⟨g, 0, none⟩) n cap, .func (.func 34) #[] #[p0]] w fun e w' => e = .returned (.bool b) ∧ Below w.heap.size w w' := by
  have HI := idxL34 p0 g n cap d r w hn hg hp H
  have HB := Lib.hid hbr
  clear H hp hbr
  go_enter Tryd.func33, Tryd.ntmps33
  cases b
  · go_wp2_with (refine HI.mono ?_; rintro e w1 ⟨⟨z, rfl, hz⟩, hb1⟩; rw [← HB.out] at hz; have hz2 : ¬ (0 ≤ z) := (fun h => Bool.false_ne_true (hz.1 h)); clear hz)
    go_ret
    exact ⟨by first | rfl | exact ret_bool (by simp; omega) | exact ret_bool (by simp), hb1⟩
  · go_wp2_with (refine HI.mono ?_; rintro e w1 ⟨⟨z, rfl, hz⟩, hb1⟩; rw [← HB.out] at hz; have hz2 : 0 ≤ z := hz.2 rfl; clear hz)
    go_ret
    exact ⟨by first | rfl | exact ret_bool (by simp; omega) | exact ret_bool (by simp), hb1⟩
end Go.Proofs.YtempbknidpmncaaDoor
