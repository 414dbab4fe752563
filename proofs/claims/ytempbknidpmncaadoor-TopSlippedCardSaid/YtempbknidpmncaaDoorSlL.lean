/-
  TopSlipped: the law's own closure: a copy of the plan with the days pushed on.
-/
import Derived.Test.YtempbknidpmncaaDoorSlK
namespace Go.Proofs.YtempbknidpmncaaDoor
open Go.RowKit
attribute [local go_sem] Oper.semAt_some maxB_two

theorem PlanAt.loads {w : World} {g n : Nat} {d : Nat → Nat} (h : PlanAt w g n d) : ∃ lbs lcs : Nat → Nat, ∀ j, j < n → w.cell? ⟨g, j * 4 + 3, none⟩ = some (.slice (some ⟨lbs j, 0, none⟩) 1 (lcs j)) ∧ lbs j < w.heap.size ∧ w.cell? ⟨lbs j, 0, none⟩ = some (.int .i64 (j : Int)) := by
  have h1 : ∀ j, ∃ p : Nat × Nat, j < n → w.cell? ⟨g, j * 4 + 3, none⟩ = some (.slice (some ⟨p.1, 0, none⟩) 1 p.2) ∧ p.1 < w.heap.size ∧ w.cell? ⟨p.1, 0, none⟩ = some (.int .i64 (j : Int)) := by
    intro j
    by_cases hj : j < n
    · obtain ⟨_, _, _, lb, lc, h3, h4, h5⟩ := h j hj
      exact ⟨(lb, lc), fun _ => ⟨h3, h4, h5⟩⟩
    · exact ⟨(0, 0), fun h => absurd h hj⟩
  obtain ⟨f, hf⟩ := Classical.axiomOfChoice h1
  exact ⟨fun j => (f j).1, fun j => (f j).2, fun j hj => hf j hj⟩

/-- A copy of a plan's launches in a block of the call's own; the loads lie in older memory. -/
structure OutAt (w0 W : World) (g n : Nat) (D lbs lcs : Nat → Nat) : Prop where
  old : w0.heap.size ≤ g
  blk : ∃ cs, Blk W g cs 51
  day : ∀ m, m < n → W.cell? ⟨g, m * 4, none⟩ = some (.int .i64 (D m : Nat))
  rest : ∀ m, m < n → W.cell? ⟨g, m * 4 + 1, none⟩ = some (.int .i64 0) ∧ W.cell? ⟨g, m * 4 + 2, none⟩ = some (.int .i64 0) ∧ W.cell? ⟨g, m * 4 + 3, none⟩ = some (.slice (some ⟨lbs m, 0, none⟩) 1 (lcs m))
  load : ∀ m, m < n → lbs m < w0.heap.size ∧ W.cell? ⟨lbs m, 0, none⟩ = some (.int .i64 (m : Int))
section
variable {w0 W : World} {g n : Nat} {D D' lbs lcs : Nat → Nat}
theorem OutAt.drew (h : OutAt w0 W g n D lbs lcs) : OutAt w0 W.drew g n D lbs lcs := ⟨h.old, h.blk, h.day, h.rest, h.load⟩
theorem OutAt.congr (h : OutAt w0 W g n D lbs lcs) (e : ∀ m, m < n → D m = D' m) : OutAt w0 W g n D' lbs lcs :=
  ⟨h.old, h.blk, fun m hm => by rw [← e m hm]; exact h.day m hm, h.rest, h.load⟩
theorem OutAt.lt (h : OutAt w0 W g n D lbs lcs) : g < W.heap.size := by obtain ⟨cs, hb⟩ := h.blk; exact hb.lt
theorem OutAt.frozen (h : OutAt w0 W g n D lbs lcs) (o : Nat) : W.frozen? ⟨g, o, none⟩ = false := by obtain ⟨cs, hb⟩ := h.blk; exact hb.frozen o
theorem OutAt.set (h : OutAt w0 W g n D lbs lcs) {j : Nat} (hj : j < n) (x : Nat) : OutAt w0 (W.setCell ⟨g, j * 4, none⟩ (.int .i64 (x : Int))) g n (upd D j x) lbs lcs where
  old := h.old
  blk := by obtain ⟨cs, hb⟩ := h.blk; exact ⟨_, hb.setCell _ _⟩
  day := fun m hm => by
    by_cases hmj : m = j
    · subst hmj; rw [upd_same]; exact World.cell?_setCell_same _ _ _ (h.day m hm)
    · have e : upd D j x m = D m := if_neg hmj
      rw [e]
      exact (World.cell?_setCell_other _ _ _ _ (by intro h; injection h; omega)).trans (h.day m hm)
  rest := fun m hm => by
    obtain ⟨h1, h2, h3⟩ := h.rest m hm
    exact ⟨(World.cell?_setCell_other _ _ _ _ (by intro h; injection h; omega)).trans h1, (World.cell?_setCell_other _ _ _ _ (by intro h; injection h; omega)).trans h2, (World.cell?_setCell_other _ _ _ _ (by intro h; injection h; omega)).trans h3⟩
  load := fun m hm => by
    obtain ⟨h1, h2⟩ := h.load m hm
    have := h.old
    exact ⟨h1, (World.cell?_setCell_other _ _ _ _ (by intro h; injection h; omega)).trans h2⟩
theorem OutAt.plan (h : OutAt w0 W g n D lbs lcs) (hs : w0.heap.size ≤ W.heap.size) : PlanAt W g n D := fun m hm => by
  obtain ⟨h1, h2, h3⟩ := h.rest m hm
  obtain ⟨h4, h5⟩ := h.load m hm
  exact ⟨h.day m hm, h1, h2, lbs m, lcs m, h3, by omega, h5⟩
end

set_option maxHeartbeats 2000000 in
theorem clone12 (w : World) (g n cap : Nat) (d : Nat → Nat) (hn : n ≤ 6) (hn1 : 1 ≤ n) (hg : g < w.heap.size) (hp : PlanAt w g n d) (lbs lcs : Nat → Nat)
    (hl : ∀ j, j < n → w.cell? ⟨g, j * 4 + 3, none⟩ = some (.slice (some ⟨lbs j, 0, none⟩) 1 (lcs j)) ∧ lbs j < w.heap.size ∧ w.cell? ⟨lbs j, 0, none⟩ = some (.int .i64 (j : Int))) :
    Calls Tryd.prog 12 #[.slice (some ⟨g, 0, none⟩) n cap] w fun e w' => (∃ g' cap', e = .returned (.slice (some ⟨g', 0, none⟩) n cap') ∧ OutAt w w' g' n d lbs lcs) ∧ Below w.heap.size w w' := by
  have q47 : ∀ (w : World) (a : Option Addr) (n c n' c' : Nat), (binOp .eql 47 (.slice a n c) (.slice none n' c')).run Tryd.prog w = .ok (.bool a.isNone) w := fun w a n c n' c' => Lib.run_eql_slice_nil w _ _ a n c n' c' Tryd.underlying47
  obtain ⟨i0, hi, hzz⟩ := Option.map_eq_some_iff.1 Tryd.info51'
  simp only [Prod.mk.injEq] at hzz
  obtain ⟨hz0, hz1, hz2⟩ := hzz
  have HP := Lib.hid hp
  have HL := Lib.hid hl
  clear hp hl
  go_enter Tryd.func12, Tryd.ntmps12
  go_wp2_with (at_builtin; refine wpList_append_own _ rfl _ _ 47 rfl w.heap.size 51 i0 _ 4 48 Tryd.underlying47 hi hz0 hz1 hz2 rfl (by decide) _ _ _ rfl (World.ownsRow_made w #[] 0 (Nat.le_refl _) (Nat.zero_le _) rfl) ⟨g, 0, none⟩ n cap (planC d lbs lcs n) rfl ?qc1 ?qc2 ?qc3 ?qc4 ?qc5 ?qc6 ?_)
  case qc1 => rw [planC_length]
  case qc2 =>
    intro j u hj
    have hjn : j < n * 4 := by
      have := (List.getElem?_eq_some_iff.1 hj).1
      rwa [planC_length] at this
    rw [Addr.add_lit]
    refine Lib.cell?_alloc_some _ ?_
    obtain ⟨k, o, hk, ho, rfl⟩ : ∃ k o, k < n ∧ o < 4 ∧ j = k * 4 + o := ⟨j / 4, j % 4, by omega, by omega, by omega⟩
    rw [planC_at d lbs lcs n k o hk ho] at hj
    obtain ⟨c0, c1, c2, _⟩ := HP.out k hk
    obtain ⟨c3, _, _⟩ := HL.out k hk
    have ho' : o = 0 ∨ o = 1 ∨ o = 2 ∨ o = 3 := by omega
    rcases ho' with rfl | rfl | rfl | rfl
    · have e : some (Value.int .i64 (d k : Nat)) = some u := hj
      rw [← e, Nat.zero_add]; exact c0
    · have e : some (Value.int .i64 0) = some u := hj
      rw [← e, Nat.zero_add]; exact c1
    · have e : some (Value.int .i64 0) = some u := hj
      rw [← e, Nat.zero_add]; exact c2
    · have e : some (Value.slice (some ⟨lbs k, 0, none⟩) 1 (lcs k)) = some u := hj
      rw [← e, Nat.zero_add]; exact c3
  case qc3 =>
    intro u hu
    simp only [planC, List.mem_flatMap] at hu
    obtain ⟨k, _, hu⟩ := hu
    simp only [List.mem_cons, List.not_mem_nil, or_false] at hu
    rcases hu with rfl | rfl | rfl | rfl <;> rfl
  case qc4 => unfold maxLen; omega
  case qc5 => omega
  case qc6 => simp
  intro v' w1 hown hgrow hnil
  go_wp2
  go_ret
  have hbb : Below w.heap.size w w1 := ((Below.refl _ w).alloc (Nat.le_refl _) _).grown hgrow (by simp) (by intro k hk; simp [Value.ownBlock] at hk; omega)
  refine ⟨?_, hbb⟩
  have hown2 : w1.ownsRow w.heap.size 51 4 v' n (planC d lbs lcs n) := by simpa using hown
  rcases hown2.2 with ⟨_, h0⟩ | ⟨g', cap', cs, rfl, hg', hh, h1, h2, h3, h4⟩
  · omega
  · have hc : ∀ k o, k < n → o < 4 → w1.cell? ⟨g', k * 4 + o, none⟩ = [Value.int .i64 (d k : Nat), .int .i64 0, .int .i64 0, .slice (some ⟨lbs k, 0, none⟩) 1 (lcs k)][o]? := fun k o hk ho => by
      rw [hown2.cellAt (k * 4 + o) (by omega)]; exact planC_at d lbs lcs n k o hk ho
    refine ⟨g', cap', rfl, ⟨hg', ⟨cs, hh⟩, fun m hm => by simpa using hc m 0 hm (by omega), fun m hm => ⟨hc m 1 hm (by omega), hc m 2 hm (by omega), hc m 3 hm (by omega)⟩, fun m hm => ?_⟩⟩
    obtain ⟨_, h5, h6⟩ := HL.out m hm
    exact ⟨h5, (hbb.cell (p := ⟨lbs m, 0, none⟩) h5).trans h6⟩

/-- The law's variables where its closure finds them. -/
structure LawAt (w : World) (K : Camp) (g cap i : Nat) (d : Nat → Nat) (Lb Ab Mb Sb Cb : Nat) : Prop where
  camp : CampAt w K
  plan : PlanOk w K g cap d
  l : w.cell? ⟨Lb, 0, none⟩ = some (.slice (some ⟨g, 0, none⟩) K.n cap)
  a : w.cell? ⟨Ab, 0, none⟩ = some (.int .i64 (i : Int))
  m : w.cell? ⟨Mb, 0, none⟩ = some (.int .i64 (K.n : Int))
  s : w.cell? ⟨Sb, 0, none⟩ = some (.int .i64 ((stepK K : Nat) : Int))
  c : Blk w Cb K.cells 46
  ll : Lb < w.heap.size
  la : Ab < w.heap.size
  lm : Mb < w.heap.size
  ls : Sb < w.heap.size
theorem LawAt.below {w w' : World} {K : Camp} {g cap i : Nat} {d : Nat → Nat} {Lb Ab Mb Sb Cb B : Nat} (h : LawAt w K g cap i d Lb Ab Mb Sb Cb) (hb : Below B w w') (hB : w.heap.size ≤ B) : LawAt w' K g cap i d Lb Ab Mb Sb Cb where
  camp := h.camp.mono hb hB
  plan := h.plan.below (hb.mono hB)
  l := (hb.cell (p := ⟨Lb, 0, none⟩) (Nat.lt_of_lt_of_le h.ll hB)).trans h.l
  a := (hb.cell (p := ⟨Ab, 0, none⟩) (Nat.lt_of_lt_of_le h.la hB)).trans h.a
  m := (hb.cell (p := ⟨Mb, 0, none⟩) (Nat.lt_of_lt_of_le h.lm hB)).trans h.m
  s := (hb.cell (p := ⟨Sb, 0, none⟩) (Nat.lt_of_lt_of_le h.ls hB)).trans h.s
  c := h.c.below hb (Nat.lt_of_lt_of_le h.c.lt hB)
  ll := Nat.lt_of_lt_of_le h.ll hb.size
  la := Nat.lt_of_lt_of_le h.la hb.size
  lm := Nat.lt_of_lt_of_le h.lm hb.size
  ls := Nat.lt_of_lt_of_le h.ls hb.size

def mixD (P d : Nat → Nat) (j : Nat) : Nat → Nat := fun m => if m < j then P m else d m
theorem mixD_at {P d : Nat → Nat} {j : Nat} : mixD P d j j = d j := if_neg (Nat.lt_irrefl _)
theorem mixD_lt {P d : Nat → Nat} {j m : Nat} (h : m < j) : mixD P d j m = P m := if_pos h
theorem upd_mixD (P d : Nat → Nat) (j : Nat) (m : Nat) : upd (mixD P d j) j (P j) m = mixD P d (j + 1) m := by
  unfold upd mixD
  by_cases h : m = j
  · subst h; simp
  · rw [if_neg h]
    by_cases h2 : m < j
    · rw [if_pos h2, if_pos (by omega)]
    · rw [if_neg h2, if_neg (by omega)]

set_option maxHeartbeats 4000000 in
theorem late11 (K : Camp) (w : World) (g cap i k : Nat) (d : Nat → Nat) (Lb Ab Mb Sb Cb : Nat) (h : LawAt w K g cap i d Lb Ab Mb Sb Cb) (hok : okN K.lat d K.n = true) (hi : i < K.n) (hk : k ≤ 10000) :
    Calls Tryd.prog 11 #[.int .i64 (k : Int), .pointer (some ⟨Lb, 0, none⟩), .pointer (some ⟨Ab, 0, none⟩), .pointer (some ⟨Mb, 0, none⟩), .pointer (some ⟨Sb, 0, none⟩), .pointer (some ⟨Cb, 0, none⟩)] w
      fun e w' => (∃ g' cap', e = .returned (.tuple #[.slice (some ⟨g', 0, none⟩) K.n cap', .bool (okD (stepK K) K.n d K.lat i k)]) ∧ PlanAt w' g' K.n (pushD (stepK K) d i k) ∧ g' < w'.heap.size) ∧ Below w.heap.size w w' := by
  have hn1 := h.camp.n1
  have hn6 := h.camp.n6
  have hag := h.camp.ag20
  have hcl := h.camp.cl19
  have hdB : ∀ j, j < K.n → d j ≤ 1000 := fun j hj => by have := okN_iff.1 hok j hj; have := h.camp.late j hj; omega
  obtain ⟨P, hP⟩ : ∃ P, P = pushD (stepK K) d i k := ⟨_, rfl⟩
  have hPlt : ∀ j, j < i → P j = d j := fun j hj => by rw [hP]; exact pushD_lt hj
  have hPat : P i = d i + k := by rw [hP]; exact pushD_at
  have hPgt : ∀ j, i ≤ j → P (j + 1) = max (d (j + 1)) (P j + stepK K) := fun j hj => by rw [hP]; exact pushD_gt hj
  have hPB : ∀ j, j < K.n → P j ≤ 11000 := fun j hj => by rw [hP]; have := pushD_bound (step := stepK K) (i := i) (k := k) h.plan.gap hdB j hj; omega
  have hod : okD (stepK K) K.n d K.lat i k = okN K.lat P K.n := by rw [hP]; rfl
  rw [← hP, hod]
  have hok0 : okN K.lat P i = true := okN_iff.2 fun j hj => by rw [hPlt j hj]; exact okN_iff.1 hok j (by omega)
  have hsK : stepK K ≤ 20 := by unfold stepK; omega
  obtain ⟨lbs, lcs, hl⟩ := h.plan.at_.loads
  have hC := clone12 w g K.n cap d hn6 hn1 h.plan.lt h.plan.at_ lbs lcs hl
  have HP1 := Lib.hid hPlt
  have HP2 := Lib.hid hPat
  have HP3 := Lib.hid hPgt
  have HP4 := Lib.hid hPB
  have HDB := Lib.hid hdB
  have HL := Lib.hid h
  have l0 := h.l
  clear hP hod hPlt hPat hPgt hPB hok hl hdB
  go_enter Tryd.func11, Tryd.ntmps11
  go_wp2_with (
    refine hC.mono ?_
    rintro e w1 ⟨⟨g1, cap1, rfl, ho⟩, hb1⟩
    have HL1 := HL.out.below hb1 (Nat.le_refl _)
    have a1 := HL1.a
    have m1 := HL1.m)
  clear a1 m1 l0 h hC HL1
  go_loopw [10, 11] (fun ok j wr => ∃ jj : Nat, i ≤ jj ∧ jj ≤ K.n ∧ j = .int .i64 (jj : Int) ∧ ok = .bool (okN K.lat P jj) ∧ OutAt w wr g1 K.n (mixD P d jj) lbs lcs ∧ Below w.heap.size w wr) (fun _ j _ => K.n - (intOf j).toNat)
  case atStart => exact ⟨i, Nat.le_refl _, by omega, rfl, by rw [hok0], ho.congr (fun m hm => by
    unfold mixD
    by_cases hmi : m < i
    · rw [if_pos hmi, HP1.out m hmi]
    · rw [if_neg hmi]), hb1⟩
  case round =>
    obtain ⟨j, hij, hjn, rfl, rfl, hout, hbr⟩ := hrel
    have HR := HL.out.below hbr (Nat.le_refl _)
    have r0 := HR.a
    have r1 := HR.m
    have r2 := HR.s
    clear HR ho hb1 hok0
    by_cases hlt : j < K.n
    · have d0 := hout.day j hlt
      rw [mixD_at] at d0
      have d0f := hout.frozen (j * 4)
      have hdj := HDB.out j hlt
      have hPj := HP4.out j hlt
      have hgl := hout.lt
      have hsr := hbr.size
      -- what is stored
      have hset := hout.set hlt (P j)
      have hset2 : OutAt w (wr.setCell ⟨g1, j * 4, none⟩ (.int .i64 (P j : Nat))) g1 K.n (mixD P d (j + 1)) lbs lcs := hset.congr (fun m _ => upd_mixD P d j m)
      have hbs : Below w.heap.size w (wr.setCell ⟨g1, j * 4, none⟩ (.int .i64 (P j : Nat))) := hbr.setCell (show w.heap.size ≤ g1 from hout.old) _
      by_cases hje : j = i
      · subst hje
        have hb : ((j : Int) == (j : Int)) = true := by simp
        have hv : IntKind.i64.wrap ((d j : Int) + (k : Int)) = (P j : Int) := by
          have := HP2.out
          rw [show (d j : Int) + (k : Int) = (P j : Int) by omega]; exact IntWalk.i64_in _ (by omega)
        have HS2 := Lib.hid hset2
        have HBS := Lib.hid hbs
        have HO := Lib.hid hout
        clear hset hset2 hbs hout
        go_wp2
        clear hb hv
        obtain ⟨W2, hW2⟩ : ∃ W2, W2 = (wr.setCell ⟨g1, j * 4, none⟩ (.int .i64 (P j : Nat))) := ⟨_, rfl⟩
        rw [← hW2]
        have ho2 : OutAt w W2 g1 K.n (mixD P d (j + 1)) lbs lcs := by rw [hW2]; exact HS2.out
        have hb2 : Below w.heap.size w W2 := by rw [hW2]; exact HBS.out
        clear hW2 r0 r1 r2 d0 d0f
        have H2 := HL.out.below hb2 (Nat.le_refl _)
        have e0 := ho2.day j hlt
        rw [mixD_lt (by omega)] at e0
        have e2 : W2.cell? ⟨Cb, 2, none⟩ = some (.slice (some ⟨K.gb, 0, none⟩) K.n K.gcap) := H2.c.cell 2 rfl
        obtain ⟨_, _, _, _, e4, _⟩ := H2.camp.g j hlt
        have HSC := Lib.hid (okN_succ K.lat P j)
        have HO2 := Lib.hid ho2
        clear ho2 H2
        have hlatj := HL.out.camp.late j hlt
        cases hb : okN K.lat P j with
        | true =>
          have HB := Lib.hid hb
          clear hb
          refine wp_region_ord [(0, 0, 0), (1, 0, 1), (2, 0, 3), (3, 0, 3), (4, 0, 15), (5, 0, 31), (6, 2, 63), (7, 0, 3), (8, 2, 131), (9, 0, 3), (10, 0, 899), (11, 0, 1923), (12, 2, 3971), (13, 0, 8191), (14, 0, 16383), (15, 0, 32767)] false (by kernel_rfl) (by kernel_rfl) ?_
          repeat (first | (refine tx_P rfl (fun Z hZ => ?_); go_simp; refine hZ _ _ ?_; clear hZ Z) | (refine tx_L rfl (fun Z hZ => ?_); go_simp; refine hZ _ _ ?_; clear hZ Z))
          refine tx_nil ?_
          go_wp2
          go_roundw
          case rel => exact ⟨j + 1, by omega, by omega, by go_num, by rw [HSC.out, HB.out, Bool.true_and], HO2.out.drew, hb2.drew⟩
          case measure => simp [intOf] <;> omega
        | false =>
          have HB := Lib.hid hb
          clear hb
          refine wp_region_ord [(0, 0, 0), (1, 0, 1), (2, 0, 3), (3, 0, 3), (4, 0, 15), (5, 0, 31), (6, 2, 63), (7, 0, 3), (8, 2, 131), (9, 0, 3), (10, 0, 899), (11, 0, 1923), (12, 2, 3971), (13, 0, 8191), (14, 0, 16383), (15, 0, 32767)] false (by kernel_rfl) (by kernel_rfl) ?_
          repeat (first | (refine tx_P rfl (fun Z hZ => ?_); go_simp; refine hZ _ _ ?_; clear hZ Z) | (refine tx_L rfl (fun Z hZ => ?_); go_simp; refine hZ _ _ ?_; clear hZ Z))
          refine tx_nil ?_
          go_wp2
          go_roundw
          case rel => exact ⟨j + 1, by omega, by omega, by go_num, by rw [HSC.out, HB.out, Bool.false_and], HO2.out.drew, hb2.drew⟩
          case measure => simp [intOf] <;> omega
      · have hb : ((j : Int) == (i : Int)) = false := by simp; omega
        obtain ⟨m, hm⟩ : ∃ m, m + 1 = j := ⟨j - 1, by omega⟩
        have m0 := hout.day m (by omega)
        rw [mixD_lt (by omega)] at m0
        have hPm := HP4.out m (by omega)
        have hPP := HP3.out m (by omega)
        rw [hm] at hPP
        have vk : IntKind.i64.wrap ((j : Int) - 1) = (m : Int) := by rw [show (j : Int) - 1 = (m : Int) by omega]; exact IntWalk.i64_in _ (by omega)
        obtain ⟨st, hst⟩ : ∃ st, stepK K = st := ⟨_, rfl⟩
        rw [hst] at r2 hPP hsK
        obtain ⟨y, hy⟩ : ∃ y, P m + st = y := ⟨_, rfl⟩
        rw [hy] at hPP
        have va : IntKind.i64.wrap ((P m : Int) + (st : Int)) = (y : Int) := by rw [show (P m : Int) + (st : Int) = (y : Int) by omega]; exact IntWalk.i64_in _ (by omega)
        have hmx := max2_nat (d j) y
        rw [← hPP] at hmx
        have hmn : m < K.n := by omega
        have hmn2 : (m : Int) < (K.n : Int) := by omega
        have HS2 := Lib.hid hset2
        have HBS := Lib.hid hbs
        have HO := Lib.hid hout
        clear hset hset2 hbs hout hy hPP hm hst
        go_wp2
        refine wp_region_ord [(0, 0, 0), (1, 0, 0), (2, 0, 0), (3, 0, 0), (4, 0, 12), (5, 0, 28), (6, 2, 60), (7, 0, 0), (8, 0, 0), (9, 0, 256), (10, 0, 896), (11, 0, 1920), (12, 2, 3968), (13, 2, 0), (14, 0, 16256), (15, 0, 32764), (16, 0, 65535), (17, 0, 131071), (18, 3, 262143)] false (by kernel_rfl) (by kernel_rfl) ?_
        repeat (first | (refine tx_P rfl (fun Z hZ => ?_); go_simp; refine hZ _ _ ?_; clear hZ Z) | (refine tx_L rfl (fun Z hZ => ?_); go_simp; refine hZ _ _ ?_; clear hZ Z))
        refine tx_E rfl (fun Z hZ => ?_)
        go_simp
        refine hZ _ _ ?_; clear hZ Z
        refine tx_nil ?_
        go_wp2
        clear hb vk va hmx m0
        obtain ⟨W2, hW2⟩ : ∃ W2, W2 = (wr.setCell ⟨g1, j * 4, none⟩ (.int .i64 (P j : Nat))).drew := ⟨_, rfl⟩
        rw [← hW2]
        have ho2 : OutAt w W2 g1 K.n (mixD P d (j + 1)) lbs lcs := by rw [hW2]; exact HS2.out.drew
        have hb2 : Below w.heap.size w W2 := by rw [hW2]; exact HBS.out.drew
        clear hW2 r0 r1 r2 d0 d0f
        have H2 := HL.out.below hb2 (Nat.le_refl _)
        have e0 := ho2.day j hlt
        rw [mixD_lt (by omega)] at e0
        have e2 : W2.cell? ⟨Cb, 2, none⟩ = some (.slice (some ⟨K.gb, 0, none⟩) K.n K.gcap) := H2.c.cell 2 rfl
        obtain ⟨_, _, _, _, e4, _⟩ := H2.camp.g j hlt
        have HSC := Lib.hid (okN_succ K.lat P j)
        have HO2 := Lib.hid ho2
        clear ho2 H2
        have hlatj := HL.out.camp.late j hlt
        cases hb : okN K.lat P j with
        | true =>
          have HB := Lib.hid hb
          clear hb
          refine wp_region_ord [(0, 0, 0), (1, 0, 1), (2, 0, 3), (3, 0, 3), (4, 0, 15), (5, 0, 31), (6, 2, 63), (7, 0, 3), (8, 2, 131), (9, 0, 3), (10, 0, 899), (11, 0, 1923), (12, 2, 3971), (13, 0, 8191), (14, 0, 16383), (15, 0, 32767)] false (by kernel_rfl) (by kernel_rfl) ?_
          repeat (first | (refine tx_P rfl (fun Z hZ => ?_); go_simp; refine hZ _ _ ?_; clear hZ Z) | (refine tx_L rfl (fun Z hZ => ?_); go_simp; refine hZ _ _ ?_; clear hZ Z))
          refine tx_nil ?_
          go_wp2
          go_roundw
          case rel => exact ⟨j + 1, by omega, by omega, by go_num, by rw [HSC.out, HB.out, Bool.true_and], HO2.out.drew, hb2.drew⟩
          case measure => simp [intOf] <;> omega
        | false =>
          have HB := Lib.hid hb
          clear hb
          refine wp_region_ord [(0, 0, 0), (1, 0, 1), (2, 0, 3), (3, 0, 3), (4, 0, 15), (5, 0, 31), (6, 2, 63), (7, 0, 3), (8, 2, 131), (9, 0, 3), (10, 0, 899), (11, 0, 1923), (12, 2, 3971), (13, 0, 8191), (14, 0, 16383), (15, 0, 32767)] false (by kernel_rfl) (by kernel_rfl) ?_
          repeat (first | (refine tx_P rfl (fun Z hZ => ?_); go_simp; refine hZ _ _ ?_; clear hZ Z) | (refine tx_L rfl (fun Z hZ => ?_); go_simp; refine hZ _ _ ?_; clear hZ Z))
          refine tx_nil ?_
          go_wp2
          go_roundw
          case rel => exact ⟨j + 1, by omega, by omega, by go_num, by rw [HSC.out, HB.out, Bool.false_and], HO2.out.drew, hb2.drew⟩
          case measure => simp [intOf] <;> omega
    · obtain rfl : j = K.n := by omega
      go_wp2
      go_ret2
      exact ⟨⟨g1, cap1, rfl, (hout.congr (fun m hm => mixD_lt hm)).plan hbr.size, hout.lt⟩, hbr⟩
end Go.Proofs.YtempbknidpmncaaDoor
