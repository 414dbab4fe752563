/-
  TopBus: the walk of Schedule.
-/
import Derived.Test.YtempbknidpmncaaDoorBusE
namespace Go.Proofs.YtempbknidpmncaaDoor
open Go.RowKit Go.Shelf Go.Deep

def jobsAll (l : List Msg) : List Job := jobsUpTo (cyc l) l l.length

def SchedPost (l : List Msg) (w : World) (e : Ending) (w' : World) : Prop :=
  (256 < njobs (cyc l) l ∧ e = .returned (.tuple #[.slice none 0 0, .agg #[.int .i64 0, .int .i64 0], .int .i64 3])) ∨
  (njobs (cyc l) l ≤ 256 ∧ ∃ t v, madeL (jobsAll l) (cyc l) = some t ∧ e = .returned (.tuple #[v, .agg #[.int .i64 0, .int .i64 0], .int .i64 0]) ∧ w'.ownsRow w.heap.size 3 1 v t.length (intsV t)) ∨
  (njobs (cyc l) l ≤ 256 ∧ madeL (jobsAll l) (cyc l) = none ∧ ∃ a b : Nat, e = .returned (.tuple #[.slice none 0 0, .agg #[.int .i64 (a : Int), .int .i64 (b : Int)], .int .i64 7]) ∧
    ((1 ≤ b ∧ b ≤ cyc l ∧ a < b ∧ b - a < dem (jobsAll l) a b) ∨ (a = 0 ∧ b = 0 ∧ ∀ a' b', 1 ≤ b' → b' ≤ cyc l → a' < b' → dem (jobsAll l) a' b' ≤ b' - a')))

theorem res9 {tmps : Array Value} {w : World} {b3 : Nat} {x y : Int} {v2 v4 : Value} (h2 : tmps.getD 2 undef = v2) (h3 : tmps.getD 3 undef = .pointer (some ⟨b3, 0, none⟩)) (h4 : tmps.getD 4 undef = v4) (c0 : w.cell? ⟨b3, 0, none⟩ = some (.int .i64 x)) (c1 : w.cell? ⟨b3, 1, none⟩ = some (.int .i64 y)) :
    (results Tryd.f9 tmps).run Tryd.prog w = .ok (.tuple #[v2, .agg #[.int .i64 x, .int .i64 y], v4]) w := by
  have h2' : tmps[2]?.getD undef = v2 := by simpa [Array.getD_eq_getD_getElem?] using h2
  have h3' : tmps[3]?.getD undef = .pointer (some ⟨b3, 0, none⟩) := by simpa [Array.getD_eq_getD_getElem?] using h3
  have h4' : tmps[4]?.getD undef = v4 := by simpa [Array.getD_eq_getD_getElem?] using h4
  simp [results, Tryd.results9, go_sem, h2', h3', h4', c0, c1]

theorem dvd_cyc {l : List Msg} : ∀ m ∈ l, m.period ∣ cyc l := by
  have key : ∀ (l : List Msg) (c : Nat), c ∣ l.foldl (fun c m => Nat.lcm c m.period) c ∧ ∀ m ∈ l, m.period ∣ l.foldl (fun c m => Nat.lcm c m.period) c := by
    intro l
    induction l with
    | nil => intro c; exact ⟨Nat.dvd_refl _, fun m h => by cases h⟩
    | cons x l ih =>
      intro c
      obtain ⟨h1, h2⟩ := ih (Nat.lcm c x.period)
      refine ⟨Nat.dvd_trans (Nat.dvd_lcm_left _ _) h1, fun m hm => ?_⟩
      rcases List.mem_cons.1 hm with rfl | hm
      · exact Nat.dvd_trans (Nat.dvd_lcm_right _ _) h1
      · exact h2 m hm
  exact (key l 1).2

/-- What the jobs of good messages are like. -/
theorem jobs_good {l : List Msg} (hg : Good l) : ∀ j ∈ jobsAll l, j.left ≤ 1000 ∧ j.fr < j.en ∧ j.en ≤ cyc l := by
  intro j hj
  obtain ⟨i, hi, hj⟩ := List.mem_flatMap.1 hj
  have hi' := List.mem_range.1 hi
  obtain ⟨q, hq, rfl⟩ := List.mem_map.1 hj
  have hq' := List.mem_range.1 hq
  have hm : l.getD i msg0 = l[i] := by simp [List.getD, hi']
  rw [hm] at hq' ⊢
  have hmem : l[i] ∈ l := List.getElem_mem _
  have hs := hg.size _ hmem
  have hp := hg.p_le hmem
  obtain ⟨d, hd⟩ := dvd_cyc l[i] hmem
  rw [hd, Nat.mul_div_cancel_left _ (by omega)] at hq'
  refine ⟨by simp only [jobOf]; omega, by simp only [jobOf]; omega, ?_⟩
  simp only [jobOf]
  rw [hd, Nat.mul_comm (l[i].period) d]
  calc q * l[i].period + l[i].period = (q + 1) * l[i].period := (Nat.succ_mul _ _).symm
    _ ≤ d * l[i].period := Nat.mul_le_mul_right _ hq'

theorem own_base0 {w : World} {base e size n : Nat} {v : Value} {xs : List Value} (h : w.ownsRow base e size v n xs) {b : Nat} (hb : b ≤ base) : w.ownsRow b e size v n xs := by
  obtain ⟨h1, h2⟩ := h
  refine ⟨h1, ?_⟩
  rcases h2 with h2 | ⟨g, cap, cur, hv, hg, r⟩
  · exact .inl h2
  · exact .inr ⟨g, cap, cur, hv, by omega, r⟩
theorem njobs_pos {l : List Msg} (hg : Good l) : 1 ≤ njobs (cyc l) l := by
  obtain ⟨m, r, rfl⟩ : ∃ m r, l = m :: r := by
    cases l with
    | nil => have := hg.len1; simp at this
    | cons m r => exact ⟨m, r, rfl⟩
  have hs := hg.size m (List.mem_cons_self ..)
  have hd := dvd_cyc (l := m :: r) m (List.mem_cons_self ..)
  have hc1 := Nat.pos_of_dvd_of_pos (cyc_dvd (m :: r) hg.period) (by omega)
  have := Nat.div_pos (Nat.le_of_dvd hc1 hd) (by omega : 0 < m.period)
  simp only [njobs, List.map_cons, List.sum_cons]
  omega

set_option maxHeartbeats 1000000 in
theorem Schedule_any (b cap : Nat) (l : List Msg) (hg : Good l) (w : World) (hm : MsgsAt w b l) (hbw : b < w.heap.size) :
    Calls Tryd.prog 9 #[.slice (some ⟨b, 0, none⟩) l.length cap] w fun e w' => SchedPost l w e w' ∧ Below w.heap.size w w' := by
  have hc200 := Nat.le_of_dvd (by omega) (cyc_dvd l hg.period)
  have hc1 := Nat.pos_of_dvd_of_pos (cyc_dvd l hg.period) (by omega)
  have hb3 := Blk.new w #[.int .i64 0, .int .i64 0] 32
  have hba := (Below.refl w.heap.size w).alloc (Nat.le_refl _) (.cells #[.int .i64 0, .int .i64 0] 32)
  by_cases hn : njobs (cyc l) l ≤ 256
  · have hcr := cycRes_yes hn
    have hC : ∀ W, MsgsAt W b l → b < W.heap.size → Calls Tryd.prog 8 #[.slice (some ⟨b, 0, none⟩) l.length cap] W fun e w' => e = .returned (.tuple #[.int .i64 (cyc l : Nat), .int .i64 0]) ∧ Below W.heap.size W w' := fun W h1 h2 =>
      (Cycle_any b cap l hg W h1 h2).mono fun e w' h => by rwa [hcr] at h
    have hjl : (jobsAll l).length ≤ 256 := by
      rw [jobsAll, jobsUpTo_length _ _ _ (Nat.le_refl _), List.take_length]; exact hn
    have hjg := jobs_good hg
    go_enter Tryd.func9, Tryd.ntmps9
    go_wp2_with (go_at_call 8; refine (hC _ (hm.of_block (hba.block b hbw)) (by simp; omega)).mono ?_; rintro e w1 ⟨rfl, hb1⟩)
    have hnp := njobs_pos hg
    have hsz1 := hb1.size
    rw [World.size_alloc] at hsz1
    have hm1 : MsgsAt w1 b l := (hm.of_block (hba.block b hbw)).of_block (hb1.block b (by simp; omega))
    have hb31 : Blk w1 w.heap.size #[.int .i64 0, .int .i64 0] 32 := hb3.below hb1 (by simp)
    have hbel1 : Below w.heap.size w w1 := hba.trans (hb1.mono (by simp))
    refine (jobs_any b cap l hg (cyc l) hc200 dvd_cyc _ hm1 (by omega)).mono ?_
    rintro e w2 ⟨⟨v, rfl, hown2⟩, hb2⟩
    have hjlen : (jobsUpTo (cyc l) l l.length).length = (jobsAll l).length := rfl
    have hjpos : 1 ≤ (jobsUpTo (cyc l) l l.length).length := by rw [jobsUpTo_length _ _ _ (Nat.le_refl _), List.take_length]; exact hnp
    obtain ⟨g, gc, rfl, hgb, hglt⟩ : ∃ g gc, v = .slice (some ⟨g, 0, none⟩) (jobsUpTo (cyc l) l l.length).length gc ∧ w1.heap.size ≤ g ∧ g < w2.heap.size := by
      rcases hown2.2 with ⟨_, h0⟩ | ⟨g, gc, cur, hv, hb, hh, _⟩
      · omega
      · exact ⟨g, gc, hv, hb, (Array.getElem?_eq_some_iff.1 hh).1⟩
    have hb32 : Blk w2 w.heap.size #[.int .i64 0, .int .i64 0] 32 := hb31.below hb2 (by omega)
    have hm2 : MsgsAt w2 b l := hm1.of_block (hb2.block b (by omega))
    have hbel2 : Below w.heap.size w w2 := hbel1.trans (hb2.mono (by omega))
    have HJ := Lib.hid hjg
    have HO := Lib.hid hown2
    clear hjg hown2 hm hm1 hbel1 hcr
    simp only []
    go_wp2_with fail
    refine (made_any g gc (cyc l) (jobsUpTo (cyc l) l l.length) (by omega) (by omega) (fun j hj => (HJ.out j hj).1) _ hglt (own_base0 HO.out (Nat.zero_le _))).mono ?_
    rintro e w3 ⟨hpost, hg3⟩
    have hb33 : Blk w3 w.heap.size #[.int .i64 0, .int .i64 0] 32 := hb32.grown hg3 (by simp; omega)
    have hm3 : MsgsAt w3 b l := hm2.of_block (hg3.block b (by have := hbel2.size; omega) (by simp; omega))
    have hs23 := hg3.size
    have hbel3 : Below w.heap.size w w3 := hbel2.grown hg3 hbel2.size (fun k hk => by cases hk; omega)
    have hf0 := hb33.frozen 0
    have hf1 := hb33.frozen 1
    have hc0 := hb33.cell 0 rfl
    have hc1' := hb33.cell 1 rfl
    clear hb31 hb32 hm2 hbel2 hg3 HO
    rcases hpost with ⟨t, v, hmade, rfl, hrow⟩ | ⟨hmade, rfl⟩
    · have HM := Lib.hid hmade
      clear hmade
      go_wp2_with fail
      have e3 := (hb33.setCell 0 (.int .i64 0)).setCell 1 (.int .i64 0)
      refine bodyPost_ret (res9 rfl rfl rfl (e3.cell 0 rfl) (e3.cell 1 rfl)) rfl ⟨.inr (.inl ⟨hn, t, v, HM.out, rfl, ?_⟩), ?_⟩
      · exact own_set (own_set (own_base0 hrow (by omega)) hb33 (by decide) 0 _) (hb33.setCell 0 (.int .i64 0)) (by decide) 1 _
      · exact (hbel3.setCell (p := ⟨w.heap.size, 0, none⟩) (Nat.le_refl _) _).setCell (p := ⟨w.heap.size, 1, none⟩) (Nat.le_refl _) _
    · have HM := Lib.hid hmade
      clear hmade
      go_wp2_with fail
      refine (jobs_any b cap l hg (cyc l) hc200 dvd_cyc _ hm3 (by omega)).mono ?_
      rintro e w4 ⟨⟨v, rfl, hown4⟩, hb4⟩
      obtain ⟨g4, gc4, rfl, hgb4, hglt4⟩ : ∃ g gc, v = .slice (some ⟨g, 0, none⟩) (jobsUpTo (cyc l) l l.length).length gc ∧ w3.heap.size ≤ g ∧ g < w4.heap.size := by
        rcases hown4.2 with ⟨_, h0⟩ | ⟨g, gc, cur, hv, hb, hh, _⟩
        · omega
        · exact ⟨g, gc, hv, hb, (Array.getElem?_eq_some_iff.1 hh).1⟩
      have HO := Lib.hid hown4
      clear hown4 hf0 hf1 hc0 hc1'
      simp only []
      go_wp2_with fail
      refine (witness_any g4 gc4 (cyc l) (jobsUpTo (cyc l) l l.length) (by omega) hc1 (by omega) HJ.out _ hglt4 (JobsAt_own HO.out)).mono ?_
      rintro e w5 ⟨⟨x, y, rfl, hxy⟩, hb5⟩
      have hs34 := hb4.size
      have hb34 : Blk w4 w.heap.size #[.int .i64 0, .int .i64 0] 32 := hb33.below hb4 (by omega)
      have hb35 : Blk w5 w.heap.size #[.int .i64 0, .int .i64 0] 32 := hb34.below hb5 (by omega)
      have hbel5 : Below w.heap.size w w5 := (hbel3.trans (hb4.mono (by omega))).trans (hb5.mono (by omega))
      have hf0 := hb35.frozen 0
      have hf1 := hb35.frozen 1
      have hc0 := hb35.cell 0 rfl
      have hc1' := hb35.cell 1 rfl
      have HXY := Lib.hid hxy
      clear hxy
      go_wp2_with fail
      have e3 := (hb35.setCell 0 (.int .i64 (x : Int))).setCell 1 (.int .i64 (y : Int))
      refine bodyPost_ret (res9 rfl rfl rfl (e3.cell 0 rfl) (e3.cell 1 rfl)) rfl ⟨.inr (.inr ⟨hn, HM.out, x, y, rfl, HXY.out⟩), ?_⟩
      exact (hbel5.setCell (p := ⟨w.heap.size, 0, none⟩) (Nat.le_refl _) _).setCell (p := ⟨w.heap.size, 1, none⟩) (Nat.le_refl _) _
  · have hcr := cycRes_no hn
    have hC : ∀ W, MsgsAt W b l → b < W.heap.size → Calls Tryd.prog 8 #[.slice (some ⟨b, 0, none⟩) l.length cap] W fun e w' => e = .returned (.tuple #[.int .i64 0, .int .i64 3]) ∧ Below W.heap.size W w' := fun W h1 h2 =>
      (Cycle_any b cap l hg W h1 h2).mono fun e w' h => by rwa [hcr] at h
    go_enter Tryd.func9, Tryd.ntmps9
    go_wp2_with fail
    refine (hC _ (hm.of_block (hba.block b hbw)) (by simp; omega)).mono ?_
    rintro e w1 ⟨rfl, hb1⟩
    have hsz1 := hb1.size
    rw [World.size_alloc] at hsz1
    have hb31 : Blk w1 w.heap.size #[.int .i64 0, .int .i64 0] 32 := hb3.below hb1 (by simp)
    have hbel1 : Below w.heap.size w w1 := hba.trans (hb1.mono (by simp))
    have hf0 := hb31.frozen 0
    have hf1 := hb31.frozen 1
    have hc0 := hb31.cell 0 rfl
    have hc1' := hb31.cell 1 rfl
    have hne : ((3 : Int) != 0) = true := by decide
    clear hcr
    go_wp2_with fail
    have e3 := (hb31.setCell 0 (.int .i64 0)).setCell 1 (.int .i64 0)
    refine bodyPost_ret (res9 rfl rfl rfl (e3.cell 0 rfl) (e3.cell 1 rfl)) rfl ⟨.inl ⟨by omega, rfl⟩, ?_⟩
    exact (hbel1.setCell (p := ⟨w.heap.size, 0, none⟩) (Nat.le_refl _) _).setCell (p := ⟨w.heap.size, 1, none⟩) (Nat.le_refl _) _
end Go.Proofs.YtempbknidpmncaaDoor
