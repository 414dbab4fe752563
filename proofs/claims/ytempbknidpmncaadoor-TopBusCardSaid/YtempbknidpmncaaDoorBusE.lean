/-
  TopBus: the walks of witness, Schedule and Serves.
-/
import Derived.Test.YtempbknidpmncaaDoorBusD
import Derived.Deep.LoopGhost
import Derived.Deep.OwnRows
namespace Go.Proofs.YtempbknidpmncaaDoor
open Go.RowKit Go.Shelf Go.Deep

/-- c ints, told by a function. -/
def rangeV (c : Nat) (f : Nat → Int) : Array Value := ((List.range c).map fun i => Value.int .i64 (f i)).toArray
theorem rangeV_get {c : Nat} {f : Nat → Int} {i : Nat} (h : i < c) : (rangeV c f)[i]? = some (.int .i64 (f i)) := by simp [rangeV, h]
theorem rangeV_set (c : Nat) (f : Nat → Int) (i : Nat) (x : Int) : (rangeV c f).setIfInBounds i (.int .i64 x) = rangeV c (fun j => if j = i then x else f j) := by
  apply Array.ext
  · simp [rangeV]
  · intro j h1 h2
    simp only [rangeV, Array.size_setIfInBounds, List.size_toArray, List.length_map, List.length_range] at h1
    rw [Array.getElem_setIfInBounds]
    · by_cases hj : i = j
      · subst hj; simp [rangeV]
      · simp [rangeV, hj, Ne.symm hj]
    · simpa [rangeV] using h1
theorem rangeV_zero (c : Nat) : madeCells #[Value.int .i64 0] c = rangeV c (fun _ => 0) := by
  apply Array.ext
  · simp [rangeV, madeCells]
  · intro j h1 h2
    simp [rangeV, madeCells, Nat.mod_one]

theorem rangeV_congr {c : Nat} {f h : Nat → Int} (e : ∀ i, i < c → f i = h i) : rangeV c f = rangeV c h := by
  unfold rangeV
  congr 1
  exact List.map_congr_left fun i hi => by rw [e i (List.mem_range.1 hi)]
theorem sum_le (p : Job → Bool) (js : List Job) (h : ∀ j ∈ js, j.left ≤ 1000) : ((js.filter p).map (·.left)).sum ≤ js.length * 1000 := by
  induction js with
  | nil => simp
  | cons j js ih =>
    have h1 := h j (List.mem_cons_self ..)
    have h2 := ih (fun j hj => h j (List.mem_cons_of_mem _ hj))
    simp only [List.filter_cons, List.length_cons]
    split
    · simp only [List.map_cons, List.sum_cons]
      exact Nat.le_trans (Nat.add_le_add h1 h2) (by rw [Nat.succ_mul, Nat.add_comm]; exact Nat.le_refl _)
    · exact Nat.le_trans h2 (Nat.mul_le_mul_right _ (Nat.le_succ _))

/-- What the jobs ask that lie from a to b. -/
def dem (js : List Job) (a b : Nat) : Nat := ((js.filter fun j => decide (a ≤ j.fr) && decide (j.en ≤ b)).map (·.left)).sum
/-- What the jobs ask that begin at f and end by b. -/
def at_ (js : List Job) (f b : Nat) : Nat := ((js.filter fun j => decide (j.fr = f) && decide (j.en ≤ b)).map (·.left)).sum

theorem at_snoc (js : List Job) (j : Job) (f b : Nat) : at_ (js ++ [j]) f b = at_ js f b + (if j.fr = f ∧ j.en ≤ b then j.left else 0) := by
  simp only [at_, List.filter_append, List.map_append, List.sum_append]
  by_cases h : j.fr = f ∧ j.en ≤ b
  · simp [h.1, h.2]
  · rw [if_neg h]; simp only [List.filter_cons, List.filter_nil]
    rw [if_neg (by simpa using h)]; simp
theorem dem_succ (js : List Job) (a b : Nat) : dem js a b = at_ js a b + dem js (a + 1) b := by
  induction js with
  | nil => rfl
  | cons j js ih =>
    simp only [dem, at_, List.filter_cons] at *
    by_cases h1 : j.en ≤ b
    · by_cases h2 : j.fr = a
      · have h4 : ¬ a + 1 ≤ j.fr := by omega
        have h5 : a ≤ j.fr := by omega
        simp only [h1, h2, decide_true, Bool.and_true, Nat.le_refl, if_true, List.map_cons, List.sum_cons]
        rw [if_neg (by simp)]; rw [ih]; omega
      · by_cases h3 : a ≤ j.fr
        · have h4 : a + 1 ≤ j.fr := by omega
          simp [h1, h2, h3, h4]; rw [ih]; omega
        · have h4 : ¬ a + 1 ≤ j.fr := by omega
          simp [h1, h2, h3, h4]; rw [ih]
    · simp [h1]; rw [ih]
/-- Jobs begin ahead of their ends. -/
theorem dem_none (js : List Job) (b : Nat) (h : ∀ j ∈ js, j.fr < j.en) : dem js b b = 0 := by
  induction js with
  | nil => rfl
  | cons j js ih =>
    have hj := h j (List.mem_cons_self ..)
    have := ih (fun j hj => h j (List.mem_cons_of_mem _ hj))
    simp only [dem, List.filter_cons] at *
    have h2 : (decide (b ≤ j.fr) && decide (j.en ≤ b)) = false := by simp; omega
    rw [h2]; simpa using this

def WitPost (js : List Job) (c : Nat) (e : Ending) : Prop := ∃ a b : Nat, e = .returned (.agg #[.int .i64 (a : Int), .int .i64 (b : Int)]) ∧
  ((1 ≤ b ∧ b ≤ c ∧ a < b ∧ b - a < dem js a b) ∨ (a = 0 ∧ b = 0 ∧ ∀ a' b', 1 ≤ b' → b' ≤ c → a' < b' → dem js a' b' ≤ b' - a'))

theorem res28 {tmps : Array Value} {w : World} {b4 : Nat} {x y : Int} (h4 : tmps.getD 4 undef = .pointer (some ⟨b4, 0, none⟩)) (c0 : w.cell? ⟨b4, 0, none⟩ = some (.int .i64 x)) (c1 : w.cell? ⟨b4, 1, none⟩ = some (.int .i64 y)) :
    (results Tryd.f28 tmps).run Tryd.prog w = .ok (.agg #[.int .i64 x, .int .i64 y]) w := by
  have h4' : tmps[4]?.getD undef = .pointer (some ⟨b4, 0, none⟩) := by simpa [Array.getD_eq_getD_getElem?] using h4
  simp [results, Tryd.results28, go_sem, h4', c0, c1]

set_option maxHeartbeats 1000000 in
theorem witness_any (g cap c : Nat) (js : List Job) (hlen : js.length ≤ 2000) (hc1 : 1 ≤ c) (hc : c ≤ 1000) (hlb : ∀ j ∈ js, j.left ≤ 1000 ∧ j.fr < j.en ∧ j.en ≤ c) (w : World) (hgw : g < w.heap.size) (hJ : JobsAt w g js) :
    Calls Tryd.prog 28 #[.slice (some ⟨g, 0, none⟩) js.length cap, .int .i64 (c : Int)] w fun e w' => WitPost js c e ∧ Below w.heap.size w w' := by
  have hmk : ∀ W : World, (Instr.makeSlice 24 (.int .i64 (c : Int)) (.int .i64 (c : Int))).run Tryd.prog W = .ok (.slice (some ⟨W.heap.size, 0, none⟩) c c) (W.alloc (.cells (rangeV c (fun _ => 0)) 3)) := by
    intro W
    rw [← rangeV_zero]
    exact run_make_row' 24 3 (.int .i64 0) 8 Tryd.underlying24 Tryd.info3' rfl .i64 .i64 c (by omega) (by omega) W
  go_enter Tryd.func28, Tryd.ntmps28
  go_wp2
  go_step3
  go_wp2
  go_step3
  go_wp2
  go_loopw [6, 7, 9, 10, 11, 21] (fun t6 _ _ _ _ _ wr => ∃ b : Nat, 1 ≤ b ∧ b ≤ c + 1 ∧ t6 = .int .i64 (b : Int) ∧ Blk wr w.heap.size #[.int .i64 0, .int .i64 0] 32 ∧ Blk wr (w.heap.size + 1) #[.int .i64 0, .int .i64 0] 32 ∧ Below w.heap.size w wr ∧
      Hid (∀ a' b', 1 ≤ b' → b' < b → a' < b' → dem js a' b' ≤ b' - a')) (fun t6 _ _ _ _ _ _ => c + 1 - (intOf t6).toNat)
  case atStart =>
    refine ⟨1, by omega, by omega, rfl, (Blk.new w _ _).alloc _, ?_, ((Below.refl _ w).alloc (Nat.le_refl _) _).alloc (by simp) _, Lib.hid (fun a' b' h1 h2 => by omega)⟩
    have := Blk.new (w.alloc (Obj.cells #[Value.int IntKind.i64 0, Value.int IntKind.i64 0] 32)) #[Value.int IntKind.i64 0, Value.int IntKind.i64 0] 32
    simpa using this
  case round =>
    obtain ⟨b, hb1, hb2, rfl, hB4, hB5, hbel, HD⟩ := hrel
    have hs5 := hB5.lt
    by_cases hbc : b ≤ c
    · obtain ⟨wo, rfl⟩ : ∃ wo : World, wo = wr := ⟨_, rfl⟩
      have hmB := Blk.new wo (rangeV c (fun _ => 0)) 3
      have hs0 := hbel.size
      go_wp2
      go_loopw [9, 21] (fun _ i wx => ∃ k : Nat, k ≤ js.length ∧ i = .int .i64 (k : Int) ∧ Blk wx wo.heap.size (rangeV c (fun f => (at_ (js.take k) f b : Nat))) 3 ∧ Blk wx w.heap.size #[.int .i64 0, .int .i64 0] 32 ∧ Blk wx (w.heap.size + 1) #[.int .i64 0, .int .i64 0] 32 ∧ Below w.heap.size w wx) (fun _ i _ => js.length - (intOf i).toNat)
      case atStart => exact ⟨0, Nat.zero_le _, rfl, by simpa [at_] using hmB, hB4.alloc _, hB5.alloc _, hbel.alloc hbel.size _⟩
      case round =>
        obtain ⟨k, hk, rfl, hbm, hb4, hb5, hbx⟩ := hrel
        by_cases hkl : k < js.length
        · obtain ⟨j, hj⟩ : ∃ j, js[k]? = some j := ⟨js[k], by simp [hkl]⟩
          have hjm := hlb j (List.mem_of_getElem? hj)
          have hce : ∀ o, wr.cell? ⟨g, o, none⟩ = w.cell? ⟨g, o, none⟩ := fun o => hbx.cell (p := ⟨g, o, none⟩) hgw
          obtain ⟨c0, c1, c2, c3⟩ := hJ k j hj
          rw [← hce] at c0 c1 c2 c3
          have hms := hbm.lt
          have HS : Hid (js.take (k + 1) = js.take k ++ [j]) := Lib.hid (take_snoc' hj)
          clear hce hj
          by_cases hen : j.en ≤ b
          · have hfc : j.fr < c := by omega
            have m0 := hbm.cell j.fr (rangeV_get (f := fun f => (at_ (js.take k) f b : Nat)) hfc)
            have mf := hbm.frozen j.fr
            have hat : at_ (js.take k) j.fr b ≤ 2000 * 1000 := by
              have h1 := sum_le (fun x => decide (x.fr = j.fr) && decide (x.en ≤ b)) (js.take k) (fun x hx => (hlb x (List.mem_of_mem_take hx)).1)
              have h2 : (js.take k).length ≤ 2000 := by simp; omega
              exact Nat.le_trans h1 (Nat.mul_le_mul_right _ h2)
            have HR : Hid (∀ i, i < c → ((at_ (js.take (k + 1)) i b : Nat) : Int) = if i = j.fr then ((at_ (js.take k) j.fr b : Nat) : Int) + (j.left : Int) else ((at_ (js.take k) i b : Nat) : Int)) := Lib.hid (by
              intro f _; rw [HS.out, at_snoc]
              by_cases hf : f = j.fr
              · subst hf; rw [if_pos ⟨rfl, hen⟩, if_pos rfl]; omega
              · rw [if_neg (fun h => hf h.1.symm), if_neg hf]; omega)
            go_wp2
            refine wp_region_ord [(0, 0, 0), (1, 0, 0), (2, 2, 2), (3, 0, 7), (4, 2, 15), (5, 0, 0), (6, 2, 32), (7, 0, 127), (8, 0, 255), (9, 3, 511)] false (by kernel_rfl) (by kernel_rfl) ?_
            repeat (first | (refine tx_P rfl (fun K hK => ?_); go_simp; refine hK _ _ ?_; clear hK K) | (refine tx_L rfl (fun K hK => ?_); go_simp; refine hK _ _ ?_; clear hK K) | (refine tx_E rfl (fun K hK => ?_); go_simp; refine hK _ _ ?_; clear hK K))
            refine tx_nil ?_
            go_wp2
            go_roundw
            case rel =>
              refine ⟨k + 1, by omega, by go_num, ?_, hb4.setCell_other (a := ⟨wo.heap.size, j.fr, none⟩) (by simp; omega) _ |>.alloc _, hb5.setCell_other (a := ⟨wo.heap.size, j.fr, none⟩) (by simp; omega) _ |>.alloc _, ((hbx.setCell (p := ⟨wo.heap.size, j.fr, none⟩) (by simp; omega) _).alloc (by simpa [World.setCell] using hbx.size) _).drew⟩
              have e1 := (hbm.setCell j.fr (.int .i64 (((at_ (js.take k) j.fr b : Nat) : Int) + (j.left : Int)))).alloc (Obj.cells #[Value.int IntKind.i64 j.msg, Value.int IntKind.i64 j.fr, Value.int IntKind.i64 j.en, Value.int IntKind.i64 j.left] 132)
              rw [rangeV_set, rangeV_congr (fun i hi => (HR.out i hi).symm)] at e1
              exact e1
            case measure => simp [intOf]; omega
          · have HR : Hid ((fun f => ((at_ (js.take (k + 1)) f b : Nat) : Int)) = fun f => ((at_ (js.take k) f b : Nat) : Int)) := Lib.hid (by
              funext f; rw [HS.out, at_snoc, if_neg (fun h => hen h.2)]; simp)
            go_wp2
            go_roundw
            case rel => exact ⟨k + 1, by omega, by go_num, by rw [HR.out]; exact hbm.alloc _, hb4.alloc _, hb5.alloc _, hbx.alloc hbx.size _⟩
            case measure => simp [intOf]; omega
        · have hke : k = js.length := by omega
          have HK := Lib.hid hke; clear hke
          have HR : Hid ((fun f => ((at_ (js.take k) f b : Nat) : Int)) = fun f => ((at_ js f b : Nat) : Int)) := Lib.hid (by rw [HK.out, List.take_length])
          rw [HR.out] at hbm
          clear HR HK
          have hms := hbm.lt
          go_wp2
          obtain ⟨wp, rfl⟩ : ∃ wp : World, wp = wr := ⟨_, rfl⟩
          go_loopw [10, 11] (fun t10 t11 wx => ∃ p : Nat, p ≤ b ∧ t11 = .int .i64 ((p : Int) - 1) ∧ t10 = .int .i64 (dem js p b : Nat) ∧ wx = wp ∧ Hid (∀ a', p ≤ a' → a' < b → dem js a' b ≤ b - a')) (fun _ t11 _ => (intOf t11 + 1).toNat)
          case atStart => exact ⟨b, Nat.le_refl _, rfl, by rw [dem_none js b (fun j hj => (hlb j hj).2.1)]; rfl, rfl, Lib.hid (fun a' h1 h2 => by omega)⟩
          case round =>
            obtain ⟨p, hp, rfl, rfl, rfl, HA⟩ := hrel
            by_cases hp0 : 1 ≤ p
            · obtain ⟨q, rfl⟩ : ∃ q, p = q + 1 := ⟨p - 1, by omega⟩
              rw [show (((q + 1 : Nat) : Int) - 1) = (q : Int) from by omega]
              have hqc : q < c := by omega
              have m0 := hbm.cell q (rangeV_get (f := fun f => (at_ js f b : Nat)) hqc)
              have hds := dem_succ js q b
              have HDS := Lib.hid hds
              have hle1 := sum_le (fun j => decide (q ≤ j.fr) && decide (j.en ≤ b)) js (fun j hj => (hlb j hj).1)
              have hle2 : dem js q b ≤ 2000 * 1000 := Nat.le_trans hle1 (Nat.mul_le_mul_right _ hlen)
              have hb1' : at_ js q b ≤ 2000 * 1000 := by omega
              have hb2' : dem js (q + 1) b ≤ 2000 * 1000 := by omega
              clear hds hle1 hle2
              by_cases hov : b - q < dem js q b
              · have hd : decide ((b : Int) - (q : Int) < ((dem js (q + 1) b : Nat) : Int) + ((at_ js q b : Nat) : Int)) = true := by
                  have := HDS.out; simp; omega
                have f5 := hb5.frozen 0
                have f5' := hb5.frozen 1
                have g5 := hb5.cell 0 rfl
                have g5' := hb5.cell 1 rfl
                have g4 := hb4.cell 0 rfl
                have g4' := hb4.cell 1 rfl
                have f4 := hb4.frozen 0
                have f4' := hb4.frozen 1
                go_wp2
                rw [Exit.noGoto_ret]
                have e4 := (((hb4.setCell_other (a := ⟨w.heap.size + 1, 0, none⟩) (by simp) (.int .i64 (q : Int))).setCell_other (a := ⟨w.heap.size + 1, 1, none⟩) (by simp) (.int .i64 (b : Int))).setCell 0 (.int .i64 (q : Int))).setCell 1 (.int .i64 (b : Int))
                refine bodyPost_ret (res28 rfl (e4.cell 0 rfl) (e4.cell 1 rfl)) rfl ⟨⟨q, b, rfl, .inl ⟨hb1, hbc, by omega, hov⟩⟩, ?_⟩
                exact (((hbx.setCell (p := ⟨w.heap.size + 1, 0, none⟩) (by simp) _).setCell (p := ⟨w.heap.size + 1, 1, none⟩) (by simp) _).setCell (p := ⟨w.heap.size, 0, none⟩) (Nat.le_refl _) _).setCell (p := ⟨w.heap.size, 1, none⟩) (Nat.le_refl _) _
              · have hd : decide ((b : Int) - (q : Int) < ((dem js (q + 1) b : Nat) : Int) + ((at_ js q b : Nat) : Int)) = false := by
                  have := HDS.out; simp; omega
                go_wp2
                go_round
                case rel => exact ⟨q, by omega, by go_num, by rw [HDS.out]; go_num, trivial, Lib.hid (fun a' h1 h2 => by
                  by_cases he : a' = q
                  · subst he; omega
                  · exact HA.out a' (by omega) h2)⟩
                case measure => simp [intOf]
            · obtain rfl : p = 0 := by omega
              go_wp2
              go_roundw
              case rel => exact ⟨b + 1, by omega, by omega, by go_num, hb4, hb5, hbx, Lib.hid (fun a' b' h1 h2 h3 => by
                by_cases he : b' = b
                · subst he; exact HA.out a' (by omega) h3
                · exact HD.out a' b' h1 (by omega) h3)⟩
              case measure => simp [intOf]; omega
    · have g5 := hB5.cell 0 rfl
      have g5' := hB5.cell 1 rfl
      have g4 := hB4.cell 0 rfl
      have g4' := hB4.cell 1 rfl
      have f4 := hB4.frozen 0
      have f4' := hB4.frozen 1
      go_wp2
      rw [Exit.noGoto_ret]
      have e4 := (hB4.setCell 0 (.int .i64 0)).setCell 1 (.int .i64 0)
      refine bodyPost_ret (res28 rfl (e4.cell 0 rfl) (e4.cell 1 rfl)) rfl ⟨⟨0, 0, rfl, .inr ⟨rfl, rfl, fun a' b' h1 h2 h3 => HD.out a' b' h1 (by omega) h3⟩⟩, ?_⟩
      exact (hbel.setCell (p := ⟨w.heap.size, 0, none⟩) (Nat.le_refl _) _).setCell (p := ⟨w.heap.size, 1, none⟩) (Nat.le_refl _) _
end Go.Proofs.YtempbknidpmncaaDoor
