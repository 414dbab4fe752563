/-
  TopBus: the walk of Serves.
-/
import Derived.Test.YtempbknidpmncaaDoorBusF
namespace Go.Proofs.YtempbknidpmncaaDoor
open Go.RowKit Go.Shelf Go.Deep

/-- How many of the first k slots lie in period q (of p slots) and are given to message i. -/
def cntUp (t : List Int) (i p q k : Nat) : Nat := ((List.range k).filter fun s => decide (s / p = q) && decide (t[s]? = some (i : Int))).length
theorem cntUp_succ (t : List Int) (i p q k : Nat) : cntUp t i p q (k + 1) = cntUp t i p q k + (if k / p = q ∧ t[k]? = some (i : Int) then 1 else 0) := by
  simp only [cntUp, List.range_succ, List.filter_append, List.length_append]
  by_cases h : k / p = q ∧ t[k]? = some (i : Int)
  · simp [h.1, h.2]
  · rw [if_neg h, List.filter_cons, if_neg (by simpa using h)]; simp
theorem cntUp_le (t : List Int) (i p q k : Nat) : cntUp t i p q k ≤ k := by
  have := List.length_filter_le (fun s => decide (s / p = q) && decide (t[s]? = some (i : Int))) (List.range k)
  simpa [cntUp] using this
/-- Each message has its slots in each of its periods. -/
def AllRight (l : List Msg) (c : Nat) (t : List Int) : Prop := ∀ i m, l[i]? = some m → ∀ q, q < c / m.period → cntUp t i m.period q c = m.size

def IntsAt (w : World) (b : Nat) (t : List Int) : Prop := ∀ s x, t[s]? = some x → w.cell? ⟨b, s, none⟩ = some (.int .i64 x)
theorem IntsAt.of_block {w w' : World} {b : Nat} {t : List Int} (h : IntsAt w b t) (he : w'.heap[b]? = w.heap[b]?) : IntsAt w' b t := fun s x hx =>
  (World.cell?_of_block (w := w) (a := ⟨b, s, none⟩) he).trans (h s x hx)

/-- The outer row: slices of the inner ones, as far as they are made. -/
def gotV (c n : Nat) (l : List Msg) (gs : List Nat) : Array Value := ((List.range n).map fun i => match gs[i]? with
  | some g => Value.slice (some ⟨g, 0, none⟩) (c / (l.getD i msg0).period) (c / (l.getD i msg0).period)
  | none => Value.slice none 0 0).toArray
theorem gotV_get {c n : Nat} {l : List Msg} {gs : List Nat} {i g : Nat} {m : Msg} (hi : i < n) (hg : gs[i]? = some g) (hm : l[i]? = some m) : (gotV c n l gs)[i]? = some (.slice (some ⟨g, 0, none⟩) (c / m.period) (c / m.period)) := by
  simp [gotV, hi, hg, List.getD, hm]
theorem gotV_set {c n : Nat} {l : List Msg} {gs : List Nat} {g : Nat} {m : Msg} (hi : gs.length < n) (hm : l[gs.length]? = some m) : (gotV c n l gs).setIfInBounds gs.length (.slice (some ⟨g, 0, none⟩) (c / m.period) (c / m.period)) = gotV c n l (gs ++ [g]) := by
  apply Array.ext
  · simp [gotV]
  · intro j h1 h2
    simp only [gotV, Array.size_setIfInBounds, List.size_toArray, List.length_map, List.length_range] at h1
    rw [Array.getElem_setIfInBounds (by simpa [gotV] using h1)]
    by_cases hj : gs.length = j
    · subst hj; simp [gotV, List.getD, hm]
    · rw [if_neg hj]
      by_cases hlt : j < gs.length
      · simp [gotV, List.getElem?_append_left hlt]
      · have h3 : (gs ++ [g])[j]? = none := List.getElem?_eq_none (by simp; omega)
        have h4 : gs[j]? = none := List.getElem?_eq_none (by omega)
        simp [gotV, h3, h4]
theorem gotV_none {c n : Nat} {l : List Msg} {gs : List Nat} (hi : gs.length < n) : (gotV c n l gs)[gs.length]? = some (.slice none 0 0) := by
  simp [gotV, hi]
theorem gotV_zero (c n : Nat) (l : List Msg) : madeCells #[Value.slice none 0 0] n = gotV c n l [] := by
  apply Array.ext
  · simp [gotV, madeCells]
  · intro j h1 h2
    simp [gotV, madeCells, Nat.mod_one]

theorem Tryd.info24' : (Tryd.prog.info? 24).map (fun i => (i.zero, i.size, i.bytes)) = some (some (.slice none 0 0), 1, 24) := by kernel_rfl

set_option maxHeartbeats 1000000 in
theorem Serves_long (b cap : Nat) (l : List Msg) (hg : Good l) (hn : ¬ njobs (cyc l) l ≤ 256) (v : Value) (w : World) (hm : MsgsAt w b l) (hbw : b < w.heap.size) :
    Calls Tryd.prog 10 #[.slice (some ⟨b, 0, none⟩) l.length cap, v] w fun e w' => e = .returned (.bool false) ∧ Below w.heap.size w w' := by
  have hcr := cycRes_no hn
  have hC : ∀ W, MsgsAt W b l → b < W.heap.size → Calls Tryd.prog 8 #[.slice (some ⟨b, 0, none⟩) l.length cap] W fun e w' => e = .returned (.tuple #[.int .i64 0, .int .i64 3]) ∧ Below W.heap.size W w' := fun W h1 h2 =>
    (Cycle_any b cap l hg W h1 h2).mono fun e w' h => by rwa [hcr] at h
  have hne : ((3 : Int) != 0) = true := by decide
  clear hcr
  go_enter Tryd.func10, Tryd.ntmps10
  go_wp2_with fail
  refine (hC _ hm hbw).mono ?_
  rintro e w1 ⟨rfl, hb1⟩
  go_wp2_with fail
  go_ret
  exact ⟨rfl, hb1⟩

set_option maxHeartbeats 1000000 in
theorem Serves_any (b cap : Nat) (l : List Msg) (hg : Good l) (hn : njobs (cyc l) l ≤ 256) (tb tc : Nat) (t : List Int) (htl : t.length = cyc l) (htv : ∀ x ∈ t, x = -1 ∨ (0 ≤ x ∧ x < l.length)) (w : World) (hm : MsgsAt w b l) (hbw : b < w.heap.size) (ht : IntsAt w tb t) (htw : tb < w.heap.size) :
    Calls Tryd.prog 10 #[.slice (some ⟨b, 0, none⟩) l.length cap, .slice (some ⟨tb, 0, none⟩) t.length tc] w fun e w' => (∃ r : Bool, e = .returned (.bool r) ∧ (r = true ↔ AllRight l (cyc l) t)) ∧ Below w.heap.size w w' := by
  have hc200 := Nat.le_of_dvd (by omega) (cyc_dvd l hg.period)
  have hc1 := Nat.pos_of_dvd_of_pos (cyc_dvd l hg.period) (by omega)
  have hl8 := hg.len
  have hcr := cycRes_yes hn
  have hC : ∀ W, MsgsAt W b l → b < W.heap.size → Calls Tryd.prog 8 #[.slice (some ⟨b, 0, none⟩) l.length cap] W fun e w' => e = .returned (.tuple #[.int .i64 (cyc l : Nat), .int .i64 0]) ∧ Below W.heap.size W w' := fun W h1 h2 =>
    (Cycle_any b cap l hg W h1 h2).mono fun e w' h => by rwa [hcr] at h
  have hne : ((t.length : Int) != ((cyc l : Nat) : Int)) = false := by rw [htl]; simp
  have hmk : ∀ W : World, (Instr.makeSlice 89 (.int .i64 (l.length : Int)) (.int .i64 (l.length : Int))).run Tryd.prog W = .ok (.slice (some ⟨W.heap.size, 0, none⟩) l.length l.length) (W.alloc (.cells (gotV (cyc l) l.length l []) 24)) := by
    intro W
    rw [← gotV_zero]
    exact run_make_row' 89 24 (.slice none 0 0) 24 Tryd.underlying89 Tryd.info24' rfl .i64 .i64 l.length (by omega) (by omega) W
  have htl200 : t.length ≤ 200 := by omega
  have HT := Lib.hid htl
  clear hcr htl
  generalize hcc : cyc l = c at *
  have HC := Lib.hid hcc
  clear hcc
  go_enter Tryd.func10, Tryd.ntmps10
  go_wp2_with fail
  refine (hC _ hm hbw).mono ?_
  rintro e w1 ⟨rfl, hb1⟩
  have hm1 : MsgsAt w1 b l := hm.of_block (hb1.block b hbw)
  have ht1 : IntsAt w1 tb t := ht.of_block (hb1.block tb htw)
  have hs1 := hb1.size
  clear hC
  go_wp2_with fail
  have hG0 := Blk.new w1 (gotV c l.length l []) 24
  have hne1 : ((t.length : Int) != (c : Int)) = false := hne
  go_loopw [8, 9, 34] (fun _ _ i wr => ∃ (k : Nat) (gs : List Nat), k ≤ l.length ∧ gs.length = k ∧ i = .int .i64 (k : Int) ∧ Blk wr w1.heap.size (gotV c l.length l gs) 24 ∧
      (∀ (i g : Nat) (m : Msg), gs[i]? = some g → l[i]? = some m → w1.heap.size < g ∧ Blk wr g (rangeV (c / m.period) (fun _ => 0)) 3) ∧ gs.Nodup ∧ Below w.heap.size w wr) (fun _ _ i _ => l.length - (intOf i).toNat)
  case atStart => exact ⟨0, [], Nat.zero_le _, rfl, rfl, hG0, fun i g m h => by simp at h, List.nodup_nil, hb1.alloc hs1 _⟩
  case round =>
    obtain ⟨k, gs, hk, hgl, rfl, hG, hgs, hnd, hbel⟩ := hrel
    by_cases hlt : k < l.length
    · obtain ⟨m, hmk'⟩ : ∃ m, l[k]? = some m := ⟨l[k], by simp [hlt]⟩
      have hmem : m ∈ l := List.mem_of_getElem? hmk'
      have hp := hg.p_le hmem
      have hs := hg.size m hmem
      have hce : ∀ o, wr.cell? ⟨b, o, none⟩ = w.cell? ⟨b, o, none⟩ := fun o => hbel.cell (p := ⟨b, o, none⟩) hbw
      obtain ⟨c0, c1, c2, c3⟩ := hm k m hmk'
      rw [← hce] at c0 c1 c2 c3
      subst hgl
      have hq1 : 0 ≤ (((c : Nat) : Int) / ((m.period : Nat) : Int)) := Int.ediv_nonneg (by omega) (by omega)
      have hq2 : (((c : Nat) : Int) / ((m.period : Nat) : Int)) ≤ 200 := Int.le_trans (Int.ediv_le_self _ (by omega)) (by omega)
      have hmk2 : ∀ W : World, (Instr.makeSlice 24 (.int .i64 ((c : Int) / (m.period : Int))) (.int .i64 ((c : Int) / (m.period : Int)))).run Tryd.prog W = .ok (.slice (some ⟨W.heap.size, 0, none⟩) (c / m.period) (c / m.period)) (W.alloc (.cells (rangeV (c / m.period) (fun _ => 0)) 3)) := by
        intro W
        have hle := Nat.div_le_self c m.period
        rw [← rangeV_zero, ← Int.natCast_ediv]
        exact run_make_row' 24 3 (.int .i64 0) 8 Tryd.underlying24 Tryd.info3' rfl .i64 .i64 (c / m.period) (by omega) (by omega) W
      have gc := hG.cell gs.length (gotV_none hlt)
      have gf := hG.frozen gs.length
      have hGs := hG.lt
      have HM := Lib.hid hmk'
      clear hce hmk'
      go_wp2
      go_roundw
      case rel =>
        have hsz : ∀ v, (wr.setCell ⟨w1.heap.size, gs.length, none⟩ v).heap.size = wr.heap.size := fun v => by simp [World.setCell]
        refine ⟨gs.length + 1, gs ++ [wr.heap.size + 1], by omega, by simp, by go_num, ?_, ?_, ?_, ?_⟩
        · rw [← gotV_set hlt HM.out]; exact ((hG.setCell gs.length _).alloc _).alloc _
        · intro i g' m' hgi hmi
          by_cases hi : i < gs.length
          · rw [List.getElem?_append_left hi] at hgi
            obtain ⟨h1, h2⟩ := hgs i g' m' hgi hmi
            exact ⟨h1, ((h2.setCell_other (a := ⟨w1.heap.size, gs.length, none⟩) (by simp; omega) _).alloc _).alloc _⟩
          · have hie : i = gs.length := by
              have := (List.getElem?_eq_some_iff.1 hgi).1
              simp at this; omega
            subst hie
            simp only [List.getElem?_append_right (Nat.le_refl _), Nat.sub_self, List.getElem?_cons_zero, Option.some.injEq] at hgi
            subst hgi
            have hmm : m' = m := by have := HM.out; rw [this] at hmi; injection hmi with h; exact h.symm
            subst hmm
            refine ⟨by omega, ?_⟩
            have hnw := Blk.new ((wr.setCell ⟨w1.heap.size, gs.length, none⟩ (.slice (some ⟨wr.heap.size + 1, 0, none⟩) (c / m'.period) (c / m'.period))).alloc (.cells #[Value.string m'.name, Value.int .i64 m'.size, Value.int .i64 m'.period, Value.int .i64 m'.period] 28)) (rangeV (c / m'.period) (fun _ => 0)) 3
            rw [World.size_alloc, hsz] at hnw
            exact hnw
        · rw [List.nodup_append]
          refine ⟨hnd, by simp, fun x hx y hy => ?_⟩
          simp only [List.mem_singleton] at hy
          subst hy
          obtain ⟨i, hi⟩ := List.mem_iff_getElem?.1 hx
          have hil := (List.getElem?_eq_some_iff.1 hi).1
          obtain ⟨_, h2⟩ := hgs i x l[i] hi (by simp [show i < l.length by omega])
          have := h2.lt
          omega
        · have h1 := hbel.setCell (p := ⟨w1.heap.size, gs.length, none⟩) hs1 (.slice (some ⟨wr.heap.size + 1, 0, none⟩) (c / m.period) (c / m.period))
          have h2 := h1.size
          exact (h1.alloc h2 _).alloc (by simp [World.setCell]; have := hbel.size; omega) _
      case measure => simp [intOf]; omega
    · have hke : k = l.length := by omega
      have HKE : Hid (gs.length = l.length) := Lib.hid (by omega)
      clear hgl
      subst hke
      have hgs' : ∀ (i g : Nat) (m : Msg), gs[i]? = some g → l[i]? = some m → w1.heap.size < g ∧ Blk wr g (rangeV (c / m.period) (fun q => (cntUp t i m.period q 0 : Nat))) 3 := fun i g m h1 h2 => by
        obtain ⟨h3, h4⟩ := hgs i g m h1 h2
        exact ⟨h3, by simpa [cntUp] using h4⟩
      clear hgs
      go_wp2
      obtain ⟨wo, rfl⟩ : ∃ wo : World, wo = wr := ⟨_, rfl⟩
      go_loopw [10, 11, 50] (fun _ _ i wx => ∃ s : Nat, s ≤ t.length ∧ i = .int .i64 (s : Int) ∧ Blk wx w1.heap.size (gotV c l.length l gs) 24 ∧
        (∀ (i g : Nat) (m : Msg), gs[i]? = some g → l[i]? = some m → w1.heap.size < g ∧ Blk wx g (rangeV (c / m.period) (fun q => (cntUp t i m.period q s : Nat))) 3) ∧ Below w.heap.size w wx) (fun _ _ i _ => t.length - (intOf i).toNat)
      case atStart => exact ⟨0, Nat.zero_le _, rfl, hG, hgs', hbel⟩
      case round =>
        obtain ⟨s, hs, rfl, hG2, hgs2, hbel2⟩ := hrel
        by_cases hst : s < t.length
        · obtain ⟨x, hx⟩ : ∃ x, t[s]? = some x := ⟨t[s], by simp [hst]⟩
          have hcx : wr.cell? ⟨tb, s, none⟩ = some (.int .i64 x) := (hbel2.cell (p := ⟨tb, s, none⟩) htw).trans (ht s x hx)
          rcases htv x (List.mem_of_getElem? hx) with rfl | ⟨hx0, hxl⟩
          · have HX := Lib.hid hx
            clear hx
            go_wp2
            go_roundw
            case rel =>
              refine ⟨s + 1, by omega, by go_num, hG2, fun i g m h1 h2 => ?_, hbel2⟩
              obtain ⟨h3, h4⟩ := hgs2 i g m h1 h2
              refine ⟨h3, ?_⟩
              rw [rangeV_congr (h := fun q => (cntUp t i m.period q s : Nat)) (fun q _ => by rw [cntUp_succ, HX.out, if_neg (by simp)]; simp)]
              exact h4
            case measure => simp [intOf]; omega
          · obtain ⟨i0, rfl⟩ := Int.eq_ofNat_of_zero_le hx0
            have hil : i0 < l.length := by omega
            obtain ⟨m, hmi⟩ : ∃ m, l[i0]? = some m := ⟨l[i0], by simp [hil]⟩
            obtain ⟨gi, hgi⟩ : ∃ g, gs[i0]? = some g := ⟨gs[i0]'(by have := HKE.out; omega), by simp⟩
            have hmem : m ∈ l := List.mem_of_getElem? hmi
            have hp := hg.p_le hmem
            have hsz := hg.size m hmem
            have hdv : m.period ∣ c := by rw [← HC.out]; exact dvd_cyc m hmem
            obtain ⟨hGg, hgB⟩ := hgs2 i0 gi m hgi hmi
            have hce : ∀ o, wr.cell? ⟨b, o, none⟩ = w.cell? ⟨b, o, none⟩ := fun o => hbel2.cell (p := ⟨b, o, none⟩) hbw
            obtain ⟨c0, c1, c2, c3⟩ := hm i0 m hmi
            rw [← hce] at c0 c1 c2 c3
            have hsc : s < c := by have := HT.out; have := HC.out; omega
            have hqlt : s / m.period < c / m.period := by
              obtain ⟨d, hd⟩ := hdv
              rw [hd, Nat.mul_div_cancel_left _ (by omega)]
              exact Nat.div_lt_of_lt_mul (by rw [← hd]; exact hsc)
            have hqe : (s : Int) / (m.period : Int) = ((s / m.period : Nat) : Int) := (Int.natCast_ediv _ _).symm
            have hql : s / m.period ≤ s := Nat.div_le_self _ _
            obtain ⟨q, hqd⟩ : ∃ q, s / m.period = q := ⟨_, rfl⟩
            rw [hqd] at hqlt hqe hql
            have hG0' := hG2.cell i0 (gotV_get hil hgi hmi)
            have hI0 := hgB.cell (q) (rangeV_get (f := fun q => (cntUp t i0 m.period q s : Nat)) hqlt)
            have hIf := hgB.frozen (q)
            have hne2 : ((i0 : Int) == -1) = false := by simp
            have hmod : decide ((m.period : Int) ≤ (s : Int) % (m.period : Int)) = false := by
              have := Int.emod_lt_of_pos (s : Int) (show (0 : Int) < (m.period : Int) by omega)
              simp; omega
            have hmod0 : 0 ≤ (s : Int) % (m.period : Int) := Int.emod_nonneg _ (by omega)
            have hpn : ¬ m.period = 0 := by omega
            have htm : (s : Int).tmod (m.period : Int) = (s : Int) % (m.period : Int) := Int.tmod_eq_emod_of_nonneg (by omega)
            have htd : IntKind.i64.wrap ((s : Int) / (m.period : Int)) = (q : Int) := by
              rw [hqe]; exact IntWalk.i64_in _ (by omega)
            have hql2 : (q : Int) < (c : Int) / (m.period : Int) := by rw [← Int.natCast_ediv]; exact Int.ofNat_lt.2 hqlt
            have hcw : IntKind.i64.wrap (((cntUp t i0 m.period (q) s : Nat) : Int) + 1) = ((cntUp t i0 m.period (q) s : Nat) : Int) + 1 := IntWalk.i64_in _ (by have := cntUp_le t i0 m.period (q) s; omega)
            have hcl := cntUp_le t i0 m.period (q) s
            have hw1 : IntKind.i64.wrap ((l.length : Int) - 1) = (l.length : Int) - 1 := IntWalk.i64_in _ (by omega)
            have HX := Lib.hid hx
            have HM := Lib.hid hmi
            have HGI := Lib.hid hgi
            clear hx hmi hgi hce hdv hqe hqlt
            have HQD := Lib.hid hqd
            clear hqd hql
            go_wp2
            refine wp_region_ord [(0, 0, 0), (1, 0, 0), (2, 0, 2), (3, 0, 6), (4, 3, 15), (5, 0, 31), (6, 0, 63), (7, 0, 127), (8, 0, 127), (9, 0, 127), (10, 0, 895), (11, 0, 1919), (12, 2, 3967), (13, 0, 8191), (14, 0, 127), (15, 0, 127), (16, 0, 49279), (17, 0, 114815), (18, 2, 245887), (19, 0, 524287), (20, 0, 1048575)] false (by kernel_rfl) (by kernel_rfl) ?_
            repeat (first | (refine tx_P rfl (fun K hK => ?_); go_simp; refine hK _ _ ?_; clear hK K) | (refine tx_L rfl (fun K hK => ?_); go_simp; refine hK _ _ ?_; clear hK K))
            refine tx_E rfl (fun K hK => ?_)
            go_simp
            refine ⟨rfl, callsIn_wide.2 ((within_yes _ _ _ _ (by omega) (by omega)).mono ?_)⟩
            rintro e w' ⟨rfl, rfl⟩
            refine hK _ _ ?_; clear hK K
            repeat (first | (refine tx_P rfl (fun K hK => ?_); go_simp; refine hK _ _ ?_; clear hK K) | (refine tx_L rfl (fun K hK => ?_); go_simp; refine hK _ _ ?_; clear hK K))
            refine tx_nil ?_
            go_wp2
            refine wp_region_ord [(0, 0, 0), (1, 0, 0), (2, 0, 3), (3, 2, 7), (4, 0, 0), (5, 0, 0), (6, 0, 0), (7, 0, 96), (8, 0, 224), (9, 2, 480), (10, 0, 1008), (11, 0, 2047), (12, 2, 4095), (13, 0, 8191), (14, 0, 16383), (15, 3, 32767)] false (by kernel_rfl) (by kernel_rfl) ?_
            repeat (first | (refine tx_P rfl (fun K hK => ?_); go_simp; refine hK _ _ ?_; clear hK K) | (refine tx_L rfl (fun K hK => ?_); go_simp; refine hK _ _ ?_; clear hK K) | (refine tx_E rfl (fun K hK => ?_); go_simp; refine hK _ _ ?_; clear hK K))
            refine tx_nil ?_
            go_wp2
            go_roundw
            case rel =>
              refine ⟨s + 1, by omega, by go_num, hG2.setCell_other (a := ⟨gi, q, none⟩) (by simp; omega) _, fun i g m' h1 h2 => ?_, ((hbel2.setCell (p := ⟨gi, q, none⟩) (by simp; omega) _).drew).drew⟩
              obtain ⟨h3, h4⟩ := hgs2 i g m' h1 h2
              refine ⟨h3, ?_⟩
              by_cases hi : i = i0
              · subst hi
                have e1 : g = gi := by have := HGI.out; rw [this] at h1; injection h1 with h; exact h.symm
                have e2 : m' = m := by have := HM.out; rw [this] at h2; injection h2 with h; exact h.symm
                subst e1; subst e2
                have h5 := h4.setCell q (.int .i64 (((cntUp t i m'.period q s : Nat) : Int) + 1))
                rw [rangeV_set] at h5
                rw [rangeV_congr (h := fun j => if j = q then ((cntUp t i m'.period q s : Nat) : Int) + 1 else ((cntUp t i m'.period j s : Nat) : Int)) (fun j _ => by
                  rw [cntUp_succ, HX.out, HQD.out]
                  by_cases hj : j = q
                  · subst hj; rw [if_pos ⟨rfl, rfl⟩, if_pos rfl]; omega
                  · rw [if_neg (fun h => hj h.1.symm), if_neg hj]; omega)]
                exact h5
              · have hne3 : g ≠ gi := by
                  intro he
                  subst he
                  have := (List.getElem?_inj (List.getElem?_eq_some_iff.1 h1).1 hnd).1 (h1.trans HGI.out.symm)
                  exact hi this
                rw [rangeV_congr (h := fun j => ((cntUp t i m'.period j s : Nat) : Int)) (fun j _ => by
                  rw [cntUp_succ, HX.out, if_neg (fun h => hi (by have := h.2; simp at this; omega))]; rfl)]
                exact h4.setCell_other (a := ⟨gi, q, none⟩) hne3 _
            case measure => simp [intOf]; omega
        · have hse : s = t.length := by omega
          have hgs3 : ∀ (i g : Nat) (m : Msg), gs[i]? = some g → l[i]? = some m → w1.heap.size < g ∧ Blk wr g (rangeV (c / m.period) (fun q => (cntUp t i m.period q c : Nat))) 3 := fun i g m h1 h2 => by
            have h := hgs2 i g m h1 h2
            rw [hse, HT.out] at h
            exact h
          clear hgs2
          subst hse
          go_wp2
          obtain ⟨wp, rfl⟩ : ∃ wp : World, wp = wr := ⟨_, rfl⟩
          go_loopw [12, 13, 15, 96, 104, 105, 106] (fun _ _ _ i _ _ _ wx => ∃ k : Nat, k ≤ l.length ∧ i = .int .i64 (k : Int) ∧ Blk wx w1.heap.size (gotV c l.length l gs) 24 ∧
            (∀ (i g : Nat) (m : Msg), gs[i]? = some g → l[i]? = some m → w1.heap.size < g ∧ Blk wx g (rangeV (c / m.period) (fun q => (cntUp t i m.period q c : Nat))) 3) ∧ Below w.heap.size w wx ∧
            Hid (∀ i m, i < k → l[i]? = some m → ∀ q, q < c / m.period → cntUp t i m.period q c = m.size)) (fun _ _ _ i _ _ _ _ => l.length - (intOf i).toNat)
          case atStart => exact ⟨0, Nat.zero_le _, rfl, hG2, hgs3, hbel2, Lib.hid (fun i m h => by omega)⟩
          case round =>
            obtain ⟨k, hk, rfl, hG4, hgs4, hbel4, HOK⟩ := hrel
            by_cases hkl : k < l.length
            · obtain ⟨m, hmi⟩ : ∃ m, l[k]? = some m := ⟨l[k], by simp [hkl]⟩
              obtain ⟨gi, hgi⟩ : ∃ g, gs[k]? = some g := ⟨gs[k]'(by have := HKE.out; omega), by simp⟩
              have hmem : m ∈ l := List.mem_of_getElem? hmi
              have hp := hg.p_le hmem
              have hsz := hg.size m hmem
              obtain ⟨hGg, hgB⟩ := hgs4 k gi m hgi hmi
              have hce : ∀ o, wr.cell? ⟨b, o, none⟩ = w.cell? ⟨b, o, none⟩ := fun o => hbel4.cell (p := ⟨b, o, none⟩) hbw
              obtain ⟨c0, c1, c2, c3⟩ := hm k m hmi
              rw [← hce] at c0 c1 c2 c3
              have hG0' := hG4.cell k (gotV_get hkl hgi hmi)
              have hGl := hG4.lt
              have HM := Lib.hid hmi
              obtain ⟨n, hn'⟩ : ∃ n, c / m.period = n := ⟨_, rfl⟩
              have hnle : c / m.period ≤ c := Nat.div_le_self _ _
              rw [hn'] at hG0' hgB hnle
              have HN := Lib.hid hn'
              clear hce hmi hgi hn'
              go_wp2
              have hbA := (Blk.new wr #[Value.string m.name, Value.int .i64 m.size, Value.int .i64 m.period, Value.int .i64 m.period] 28)
              have hgA := hgB.alloc (Obj.cells #[Value.string m.name, Value.int .i64 m.size, Value.int .i64 m.period, Value.int .i64 m.period] 28)
              have hGA := hG4.alloc (Obj.cells #[Value.string m.name, Value.int .i64 m.size, Value.int .i64 m.period, Value.int .i64 m.period] 28)
              have hBA := hbel4.alloc hbel4.size (Obj.cells #[Value.string m.name, Value.int .i64 m.size, Value.int .i64 m.period, Value.int .i64 m.period] 28)
              have hSA : Hid (∀ (i g : Nat) (m' : Msg), gs[i]? = some g → l[i]? = some m' → w1.heap.size < g ∧ Blk (wr.alloc (Obj.cells #[Value.string m.name, Value.int .i64 m.size, Value.int .i64 m.period, Value.int .i64 m.period] 28)) g (rangeV (c / m'.period) (fun q => (cntUp t i m'.period q c : Nat))) 3) := Lib.hid (fun i g m' h1 h2 => ⟨(hgs4 i g m' h1 h2).1, (hgs4 i g m' h1 h2).2.alloc _⟩)
              have hbx0 := hbA.cell 1 rfl
              clear hgs4 hG4 hbel4 hgB hbA c0 c1 c2 c3 hG0'
              obtain ⟨bx, hbx⟩ : ∃ x, wr.heap.size = x := ⟨_, rfl⟩
              rw [hbx] at hbx0 ⊢
              obtain ⟨wq, hwq⟩ : ∃ x, (wr.alloc (Obj.cells #[Value.string m.name, Value.int .i64 m.size, Value.int .i64 m.period, Value.int .i64 m.period] 28)) = x := ⟨_, rfl⟩
              rw [hwq] at hbx0 hgA hGA hBA hSA ⊢
              clear hwq hbx
              go_loopw [15, 106] (fun _ i wx => ∃ q : Nat, q ≤ n ∧ i = .int .i64 (q : Int) ∧ wx = wq ∧ Hid (∀ q', q' < q → cntUp t k m.period q' c = m.size)) (fun _ i _ => n - (intOf i).toNat)
              case atStart => exact ⟨0, Nat.zero_le _, rfl, rfl, Lib.hid (fun q' h => by omega)⟩
              case round =>
                obtain ⟨q, hq, rfl, rfl, HQ⟩ := hrel
                by_cases hqn : q < n
                · have hI0 := hgA.cell q (rangeV_get (f := fun q => (cntUp t k m.period q c : Nat)) hqn)
                  have hcl := cntUp_le t k m.period q c
                  by_cases hcs : cntUp t k m.period q c = m.size
                  · have hd : (((cntUp t k m.period q c : Nat) : Int) != (m.size : Int)) = false := by rw [hcs]; simp
                    have HCS := Lib.hid hcs
                    clear hcs
                    go_wp2
                    go_roundw
                    case rel => exact ⟨q + 1, by omega, by go_num, trivial, Lib.hid (fun q' h => by
                      by_cases he : q' = q
                      · subst he; exact HCS.out
                      · exact HQ.out q' (by omega))⟩
                    case measure => simp [intOf]; omega
                  · have hd : (((cntUp t k m.period q c : Nat) : Int) != (m.size : Int)) = true := by simp; omega
                    have HCS := Lib.hid hcs
                    clear hcs
                    go_wp2
                    go_ret
                    refine ⟨⟨false, rfl, ⟨fun h => (by cases h), fun h => ?_⟩⟩, hBA⟩
                    exact absurd (h k m HM.out q (by rw [HN.out]; exact hqn)) HCS.out
                · have hqe : q = n := by omega
                  have HQE := Lib.hid hqe
                  clear hqe
                  go_wp2
                  go_roundw
                  case rel => exact ⟨k + 1, by omega, by go_num, hGA, hSA.out, hBA, Lib.hid (fun i m' h1 h2 q' h3 => by
                    by_cases he : i = k
                    · subst he
                      have e : m' = m := by have := HM.out; rw [this] at h2; injection h2 with h; exact h.symm
                      subst e
                      exact HQ.out q' (by rw [HN.out] at h3; have := HQE.out; omega)
                    · exact HOK.out i m' (by omega) h2 q' h3)⟩
                  case measure => simp [intOf]; omega
            · have hke2 : k = l.length := by omega
              have HKE2 := Lib.hid hke2
              clear hke2
              go_wp2
              go_ret
              refine ⟨⟨true, rfl, ⟨fun _ i m h1 q h2 => HOK.out i m (by have := (List.getElem?_eq_some_iff.1 h1).1; have := HKE2.out; omega) h1 q h2, fun _ => rfl⟩⟩, hbel4⟩
end Go.Proofs.YtempbknidpmncaaDoor
