/-
  TopSlipped: the law's walk.
-/
import Derived.Test.YtempbknidpmncaaDoorSlM
import Derived.Test.YtempbknidpmncaaDoorOrd2
import Derived.Deep.Cut
import Derived.Deep.DeepCutAuto
import Derived.Deep.CutBlock
namespace Go.Proofs.YtempbknidpmncaaDoor
open Go.RowKit

theorem minB_two (ats : Array TypeId) (ty : TypeId) (a b : Value) : Builtin.min_ ats ty #[a, b] = (Builtin.min2 a b >>= fun s => pure s) := by simp only [Builtin.min_, List.foldlM_cons, List.foldlM_nil]
attribute [local go_sem] Oper.semAt_some maxB_two minB_two

theorem Blk.new' {W : World} {n : Nat} {cs : Array Value} {t : TypeId} (h : W.heap.size = n) : Blk (W.alloc (.cells cs t)) n cs t := by subst h; exact Blk.new W cs t

theorem Tryd.info49' : (Tryd.prog.info? 49).map (fun i => (i.zero, i.size, i.bytes)) = some (some (.agg #[(.string ⟨#[]⟩), (.int .i64 0), (.int .i64 0), (.int .i64 0), (.int .i64 0), (.bool false)]), 6, 56) := by kernel_rfl

def slN (ps : List Nat) : Nat := min (max ps.length 1) 6
theorem slN_le (ps : List Nat) : 1 ≤ slN ps ∧ slN ps ≤ 6 := by unfold slN; omega
theorem sl_n (ps : List Nat) : ∃ M : Nat, Builtin.max2 (.int .i64 (ps.length : Int)) (.int .i64 1) = (pure (.int .i64 (M : Int)) : Sem Value) ∧ Builtin.min2 (.int .i64 (M : Int)) (.int .i64 6) = (pure (.int .i64 (slN ps : Int)) : Sem Value) := by
  refine ⟨max ps.length 1, ?_, ?_⟩
  · simp only [Builtin.max2, gt_iff_lt]
    congr 2
    split <;> omega
  · simp only [Builtin.min2]
    congr 2
    unfold slN
    split <;> omega
def slD (ps : List Nat) (s : Nat) : Nat → Nat := dayOf s (fun i => dig ps i 50)
def prevD (D : Nat → Nat) : Nat → Nat
  | 0 => 0
  | k + 1 => D k
theorem slD_prev (ps : List Nat) (s : Nat) {k : Nat} (hk : 0 < k) : slD ps s k = prevD (slD ps s) k + dig ps k 50 + s := by
  cases k with
  | zero => omega
  | succ k => rfl
def slL (ps ss : List Nat) (s : Nat) : Nat → Nat := fun i => slD ps s i + dig ss i 50
theorem dig_le (ps : List Nat) (i : Nat) : dig ps i 50 ≤ 49 := by unfold dig; omega
theorem slD_le (ps : List Nat) {s : Nat} (hs : s ≤ 20) {i : Nat} (hi : i < 6) : slD ps s i ≤ 414 := by
  have h := dayOf_le (step := s) (dig_le ps) i
  have h2 : (i + 1) * (49 + s) ≤ 6 * 69 := Nat.mul_le_mul (by omega) (by omega)
  unfold slD; omega
theorem slD_succ (ps : List Nat) (s i : Nat) : slD ps s (i + 1) = slD ps s i + dig ps (i + 1) 50 + s := rfl

set_option maxRecDepth 20000 in
set_option maxHeartbeats 4000000 in
theorem TopSlipped_any (v0 v1 : Value) (ps ss : List Nat) (a b c x : Nat) (w : World) (ha : a < 256) (hb : b < 256) (hc : c < 256) (hx : x < 65536) (h0 : U16At w v0 ps) (h1 : U16At w v1 ss) :
    Calls Tryd.prog 4 #[v0, v1, .int .u8 (a : Int), .int .u8 (b : Int), .int .u8 (c : Int), .int .u16 (x : Int)] w fun e w' => e = .returned (.bool true) ∧ Below w.heap.size w w' := by
  obtain ⟨hN1, hN6⟩ := slN_le ps
  have hlen : ∃ A cap, v0 = .slice A ps.length cap ∧ ps.length ≤ 140737488351232 := by
    obtain ⟨A, cap, hv, hl, _⟩ := h0
    exact ⟨A, cap, hv, hl⟩
  obtain ⟨A, cap, rfl, hpl⟩ := hlen
  have H0 := Lib.hid h0
  have H1 := Lib.hid h1
  clear h0 h1
  obtain ⟨M, hM1, hM2⟩ := sl_n ps
  obtain ⟨ra, hra⟩ : ∃ ra, a % 20 = ra := ⟨_, rfl⟩
  obtain ⟨cl, hcl⟩ : ∃ cl, b % 20 = cl := ⟨_, rfl⟩
  obtain ⟨ag, hag⟩ : ∃ ag, 1 + ra = ag := ⟨_, rfl⟩
  have ea : (a : Int) % 20 = (ra : Int) := by omega
  have eb : (b : Int) % 20 = (cl : Int) := by omega
  have eg : 1 + (ra : Int) = (ag : Int) := by omega
  have hag1 : 1 ≤ ag := by omega
  have hag20 : ag ≤ 20 := by omega
  have hcl19 : cl ≤ 19 := by omega
  clear hra hcl hag
  generalize hN : slN ps = N at *
  obtain ⟨s, hs⟩ : ∃ s, max ag cl = s := ⟨_, rfl⟩
  have hmx := max2_nat ag cl
  rw [hs] at hmx
  have hs20 : s ≤ 20 := by omega
  have HS := Lib.hid hs
  clear hs
  obtain ⟨W1, hW1⟩ : ∃ W1, W1 = ((((w.alloc (.cells #[.int .i64 (N : Int)] 3)).alloc (.cells #[.string ⟨#[99]⟩, .int .i64 9, .int .i64 0, .int .i64 (ag : Int)] 39)).alloc (.cells #[.int .i64 0] 3)).alloc
    (.cells #[.string ⟨#[112]⟩, .int .i64 (cl : Int), .slice (some ⟨w.heap.size + 2, 0, none⟩) 1 1] 42)).alloc (.cells #[.slice (some ⟨w.heap.size + 1, 0, none⟩) 1 1, .slice (some ⟨w.heap.size + 3, 0, none⟩) 1 1, .slice none 0 0, .int .i64 0] 46) := ⟨_, rfl⟩
  have f0 : Blk W1 w.heap.size #[.int .i64 (N : Int)] 3 := by rw [hW1]; exact ((((Blk.new w _ _).alloc _).alloc _).alloc _).alloc _
  have f1 : Blk W1 (w.heap.size + 1) #[.string ⟨#[99]⟩, .int .i64 9, .int .i64 0, .int .i64 (ag : Int)] 39 := by rw [hW1]; exact ((((Blk.new' (by simp)).alloc _).alloc _).alloc _)
  have f2 : Blk W1 (w.heap.size + 2) #[.int .i64 0] 3 := by rw [hW1]; exact (((Blk.new' (by simp)).alloc _).alloc _)
  have f3 : Blk W1 (w.heap.size + 3) #[.string ⟨#[112]⟩, .int .i64 (cl : Int), .slice (some ⟨w.heap.size + 2, 0, none⟩) 1 1] 42 := by rw [hW1]; exact ((Blk.new' (by simp)).alloc _)
  have f4 : Blk W1 (w.heap.size + 4) (campC w.heap.size (.slice none 0 0)) 46 := by rw [hW1]; exact (Blk.new' (by simp))
  have hb1 : Below w.heap.size w W1 := by rw [hW1]; exact (((((Below.refl w.heap.size w).alloc (Nat.le_refl _) _).alloc (by simp) _).alloc (by simp; omega) _).alloc (by simp; omega) _).alloc (by simp; omega) _
  have hsz : W1.heap.size = w.heap.size + 5 := by rw [hW1]; simp
  go_enter Tryd.func4, Tryd.ntmps4
  go_wp2_with fail
  simp only [Nat.add_assoc, Nat.reduceAdd]
  rw [← show _ = _ from hW1]
  clear hW1
  have g0 : W1.cell? ⟨w.heap.size + 4, 0, none⟩ = some (.slice (some ⟨w.heap.size + 1, 0, none⟩) 1 1) := f4.cell 0 rfl
  have g1 : W1.cell? ⟨w.heap.size + 4, 1, none⟩ = some (.slice (some ⟨w.heap.size + 3, 0, none⟩) 1 1) := f4.cell 1 rfl
  have c3 := f1.cell 3 rfl
  have p1 := f3.cell 1 rfl
  refine wp_region_ord [(0, 0, 0), (1, 1, 1), (2, 0, 3), (3, 0, 7), (4, 1, 15), (5, 0, 0), (6, 1, 32), (7, 0, 96), (8, 0, 224), (9, 1, 480), (10, 0, 1023), (11, 3, 0), (12, 3, 4095)] true (by kernel_rfl) (by kernel_rfl) ?_
  repeat (first | (refine tx_P rfl (fun Z hZ => ?_); go_simp; refine hZ _ _ ?_; clear hZ Z) | (refine tx_L rfl (fun Z hZ => ?_); go_simp; refine hZ _ _ ?_; clear hZ Z) | (refine tx_H rfl (fun Z hZ => ?_); go_simp; refine ⟨_, fun w' hw' => by first | (rw [belowCellD hw' g0 (by first | omega | (simp; omega))]; rfl) | (rw [belowCellD hw' g1 (by first | omega | (simp; omega))]; rfl) | (rw [belowCellD hw' c3 (by first | omega | (simp; omega))]; rfl) | (rw [belowCellD hw' p1 (by first | omega | (simp; omega))]; rfl), ?_⟩; refine hZ _ _ ?_; clear hZ Z))
  refine tx_EK rfl (fun Z hZ => ?_)
  go_simp
  refine hZ _ _ (((below_of_drew W1).alloc (Nat.le_refl _) _).drew) ?_; clear hZ Z
  refine tx_EK rfl (fun Z hZ => ?_)
  go_simp
  refine hZ _ _ (((below_of_drew W1).alloc (Nat.le_refl _) _).drew) ?_; clear hZ Z
  refine tx_nil ?_
  have B0 : Bld w ((W1.alloc (.cells #[.int .i64 (s : Int)] 3)).alloc (.cells #[.slice none 0 0] 47)).drew N ag cl s 0 0 (slD ps s) (slL ps ss s) (fun _ => 0) (fun _ => 0) (.slice none 0 0) (.slice none 0 0) := by
    have bb : Below W1.heap.size W1 ((W1.alloc (.cells #[.int .i64 (s : Int)] 3)).alloc (.cells #[.slice none 0 0] 47)).drew := (((Below.refl _ _).alloc (Nat.le_refl _) _).alloc (by simp) _).drew
    refine ⟨⟨f0.below bb f0.lt, f1.below bb f1.lt, f2.below bb f2.lt, f3.below bb f3.lt, ?_⟩, f4.below bb f4.lt, ?_, ⟨⟨rfl, .inl ⟨rfl, rfl⟩⟩, fun k hk => absurd hk (Nat.not_lt_zero _)⟩, ⟨rfl, .inl ⟨rfl, rfl⟩⟩, hb1.trans (bb.mono (by omega))⟩
    · exact (Blk.new' hsz).alloc _
    · exact Blk.new' (by simp [hsz])
  have m0 := B0.fix.f0.cell 0 rfl
  clear g0 g1 c3 p1 f0 f1 f2 f3 f4 hb1 hmx hM1 hM2 ea eb eg
  go_upto_block 0 with fail
  simp only [Nat.add_assoc, Nat.reduceAdd]
  go_cut [17, 18, 19] (fun _ q _ wx => ∃ (v gv : Value) (lbs lcs : Nat → Nat), q = .int .i64 (sqs N : Nat) ∧ Bld w wx N ag cl s N N (slD ps s) (slL ps ss s) lbs lcs v gv)
  case rest =>
    obtain ⟨v, gv, lbs, lcs, rfl, hB⟩ := hcut
    obtain ⟨i, hi⟩ : ∃ i, c % N = i := ⟨_, rfl⟩
    have hiN : i < N := by rw [← hi]; exact Nat.mod_lt _ (by omega)
    have ei : (c : Int) % (N : Int) = (i : Int) := by rw [← Int.natCast_emod, hi]
    obtain ⟨K, g, cap', hKn, hKa, hKc, hKl, rfl, hL⟩ := hB.law hN1 hN6 hag1 hag20 hcl19 (fun j hj => by
      have h1 := slD_le ps hs20 (i := j) (by omega)
      have h2 := dig_le ss j
      unfold slL; omega) HS.out (dayOf_gap s N _) i
    subst hKn hKa hKc
    have hok : okN K.lat (slD ps s) K.n = true := okN_iff.2 (fun j hj => by rw [hKl]; unfold slL; omega)
    obtain ⟨S, hS1000, hS1, hS2⟩ := edge_ex (p := okD (stepK K) K.n (slD ps s) K.lat i) (okD_zero hL.plan.gap (fun j hj => okN_iff.1 hok j hj)) (n := 1001) (okD_far hiN (hL.camp.late i hiN) (by omega))
    have hmono : ∀ q, q ≤ S → okD (stepK K) K.n (slD ps s) K.lat i q = true := fun q hq => okD_mono hq hS1
    have hN0 : ¬ K.n = 0 := by omega
    have hN0' : ¬ (K.n : Int) = 0 := by omega
    have m0 := hB.fix.f0.cell 0 rfl
    have hbw := hB.below
    have hwc := hbw.size
    obtain ⟨W1, hW1⟩ : ∃ W1, W1 = wc.alloc (.cells #[.int .i64 (i : Int)] 3) := ⟨_, rfl⟩
    rw [← hW1] at hL
    have hbW : Below w.heap.size w W1 := by rw [hW1]; exact hbw.alloc hwc _
    have hbWs := hbW.size
    obtain ⟨d, hd⟩ : ∃ d, slD ps s = d := ⟨_, rfl⟩
    rw [hd] at hL hok hS1 hS2 hmono
    clear hB HS hKl hd hbw H0 H1 hi
    go_wp2_with fail
    rw [← hW1]
    obtain ⟨Ab, hAb⟩ : ∃ Ab, wc.heap.size = Ab := ⟨_, rfl⟩
    rw [hAb] at hL ⊢
    clear hW1 m0 hAb hwc
    have hbb : Below W1.heap.size W1 W1 := Below.refl _ _
    go_loopw [22, 23, 24] (fun a _ _ wr => ∃ q : Nat, q ≤ S ∧ a = .int .i64 (q : Int) ∧ Below W1.heap.size W1 wr) (fun a _ _ _ => S + 1 - (intOf a).toNat)
    case atStart => exact ⟨0, Nat.zero_le _, rfl, hbb⟩
    case round =>
      obtain ⟨q, hq, rfl, hbr⟩ := hrel
      have HR := hL.below hbr (Nat.le_refl _)
      have hbrs := hbr.size
      obtain ⟨q1, hq1⟩ : ∃ q1, q + 1 = q1 := ⟨_, rfl⟩
      have e1 : (q : Int) + 1 = (q1 : Int) := by omega
      have hF := late11 K wr g cap' i q1 d _ _ _ _ _ HR hok hiN (by omega)
      by_cases hqs : q < S
      · rw [hmono q1 (by omega)] at hF
        have HL := Lib.hid hL
        have HRR := Lib.hid HR
        clear hL HR
        go_wp2_with (refine hF.mono ?_; rintro e w2 ⟨⟨g', cp, rfl, -, -⟩, hb2⟩)
        go_roundw
        case rel => exact ⟨q1, by omega, by go_num, hbr.trans (hb2.mono hbrs)⟩
        case measure => simp [intOf] <;> omega
      · obtain rfl : q = S := by omega
        rw [hq1] at hS2
        rw [hS2] at hF
        have HRR := Lib.hid HR
        clear hL HR
        go_wp2_with (
          refine hF.mono ?_
          rintro e w2 ⟨⟨g', cp, rfl, -, -⟩, hb2⟩
          have L2 := HRR.out.below hb2 (Nat.le_refl _)
          have k0 : w2.cell? ⟨w.heap.size + 4, 0, none⟩ = some (.slice (some ⟨K.cb, 0, none⟩) 1 1) := L2.c.cell 0 rfl
          have k1 : w2.cell? ⟨w.heap.size + 4, 1, none⟩ = some (.slice (some ⟨K.pb, 0, none⟩) 1 1) := L2.c.cell 1 rfl
          have k2 : w2.cell? ⟨w.heap.size + 4, 2, none⟩ = some (.slice (some ⟨K.gb, 0, none⟩) K.n K.gcap) := L2.c.cell 2 rfl
          have k3 : w2.cell? ⟨w.heap.size + 4, 3, none⟩ = some (.int .i64 0) := L2.c.cell 3 rfl
          have kl := L2.l
          have ka := L2.a
          have HL2 := Lib.hid L2
          clear L2)
        refine (CheckPlan_any K w2 HL2.out.camp g cap' d HL2.out.plan).mono ?_
        rintro e w3 ⟨⟨z, c', rfl, h1, -⟩, hb3⟩
        obtain ⟨rfl, rfl⟩ := h1 hok
        clear h1
        have L3 := HL2.out.below hb3 (Nat.le_refl _)
        clear k0 k1 k2 k3 kl ka
        have k0 : w3.cell? ⟨w.heap.size + 4, 0, none⟩ = some (.slice (some ⟨K.cb, 0, none⟩) 1 1) := L3.c.cell 0 rfl
        have k1 : w3.cell? ⟨w.heap.size + 4, 1, none⟩ = some (.slice (some ⟨K.pb, 0, none⟩) 1 1) := L3.c.cell 1 rfl
        have k2 : w3.cell? ⟨w.heap.size + 4, 2, none⟩ = some (.slice (some ⟨K.gb, 0, none⟩) K.n K.gcap) := L3.c.cell 2 rfl
        have k3 : w3.cell? ⟨w.heap.size + 4, 3, none⟩ = some (.int .i64 0) := L3.c.cell 3 rfl
        have kl := L3.l
        have ka := L3.a
        have HL3 := Lib.hid L3
        clear L3
        go_wp2_with fail
        refine (Worth_any K w3 HL3.out.camp g cap' d HL3.out.plan hok).mono ?_
        rintro e w4 ⟨rfl, hb4⟩
        have L4 := HL3.out.below hb4 (Nat.le_refl _)
        clear k0 k1 k2 k3 kl ka
        have k0 : w4.cell? ⟨w.heap.size + 4, 0, none⟩ = some (.slice (some ⟨K.cb, 0, none⟩) 1 1) := L4.c.cell 0 rfl
        have k1 : w4.cell? ⟨w.heap.size + 4, 1, none⟩ = some (.slice (some ⟨K.pb, 0, none⟩) 1 1) := L4.c.cell 1 rfl
        have k2 : w4.cell? ⟨w.heap.size + 4, 2, none⟩ = some (.slice (some ⟨K.gb, 0, none⟩) K.n K.gcap) := L4.c.cell 2 rfl
        have k3 : w4.cell? ⟨w.heap.size + 4, 3, none⟩ = some (.int .i64 0) := L4.c.cell 3 rfl
        have kl := L4.l
        have ka := L4.a
        have HL4 := Lib.hid L4
        clear L4
        go_wp2_with fail
        refine (Room_any K w4 HL4.out.camp g cap' i d HL4.out.plan hok hiN).mono ?_
        rintro e w5 ⟨rfl, hb5⟩
        have L5 := HL4.out.below hb5 (Nat.le_refl _)
        clear k0 k1 k2 k3 kl ka
        have k0 : w5.cell? ⟨w.heap.size + 4, 0, none⟩ = some (.slice (some ⟨K.cb, 0, none⟩) 1 1) := L5.c.cell 0 rfl
        have k1 : w5.cell? ⟨w.heap.size + 4, 1, none⟩ = some (.slice (some ⟨K.pb, 0, none⟩) 1 1) := L5.c.cell 1 rfl
        have k2 : w5.cell? ⟨w.heap.size + 4, 2, none⟩ = some (.slice (some ⟨K.gb, 0, none⟩) K.n K.gcap) := L5.c.cell 2 rfl
        have k3 : w5.cell? ⟨w.heap.size + 4, 3, none⟩ = some (.int .i64 0) := L5.c.cell 3 rfl
        have kl := L5.l
        have ka := L5.a
        have HL5 := Lib.hid L5
        clear L5
        go_wp2_with fail
        refine (Slack_any K w5 HL5.out.camp g cap' i q d HL5.out.plan hok hiN hS1 (by rw [hq1]; exact hS2)).mono ?_
        rintro e w6 ⟨rfl, hb6⟩
        have v8 : IntKind.i64.wrap (8 - (i : Int)) = 8 - (i : Int) := IntWalk.i64_in _ (by omega)
        obtain ⟨dx, hdx⟩ : ∃ dx, x % 60 = dx := ⟨_, rfl⟩
        have edx : (x : Int) % 60 = (dx : Int) := by omega
        have hdx60 : dx < 60 := by omega
        clear hdx
        have L6 := HL5.out.below hb6 (Nat.le_refl _)
        clear k0 k1 k2 k3 kl ka
        have k0 : w6.cell? ⟨w.heap.size + 4, 0, none⟩ = some (.slice (some ⟨K.cb, 0, none⟩) 1 1) := L6.c.cell 0 rfl
        have k1 : w6.cell? ⟨w.heap.size + 4, 1, none⟩ = some (.slice (some ⟨K.pb, 0, none⟩) 1 1) := L6.c.cell 1 rfl
        have k2 : w6.cell? ⟨w.heap.size + 4, 2, none⟩ = some (.slice (some ⟨K.gb, 0, none⟩) K.n K.gcap) := L6.c.cell 2 rfl
        have k3 : w6.cell? ⟨w.heap.size + 4, 3, none⟩ = some (.int .i64 0) := L6.c.cell 3 rfl
        have kl := L6.l
        have ka := L6.a
        have HL6 := Lib.hid L6
        clear L6
        go_wp2_with fail
        obtain ⟨W7, hW7⟩ : ∃ W7, W7 = w6.alloc (.cells #[.int .i64 0, .int .i64 (q : Int), .int .i64 (q1 : Int), .int .i64 (dx : Int)] 3) := ⟨_, rfl⟩
        rw [← hW7]
        have hb67 : Below w6.heap.size w6 W7 := by rw [hW7]; exact (Below.refl _ _).alloc (Nat.le_refl _) _
        have hsb : Blk W7 w6.heap.size #[.int .i64 0, .int .i64 (q : Int), .int .i64 (q1 : Int), .int .i64 (dx : Int)] 3 := by rw [hW7]; exact Blk.new _ _ _
        have L7 := HL6.out.below hb67 (Nat.le_refl _)
        have hb17 : Below W1.heap.size W1 W7 := ((((((hbr.trans (hb2.mono hbrs)).trans (hb3.mono (by have := hb2.size; omega))).trans (hb4.mono (by have := hb2.size; have := hb3.size; omega))).trans (hb5.mono (by have := hb2.size; have := hb3.size; have := hb4.size; omega))).trans (hb6.mono (by have := hb2.size; have := hb3.size; have := hb4.size; have := hb5.size; omega))).trans (hb67.mono (by have := hb2.size; have := hb3.size; have := hb4.size; have := hb5.size; have := hb6.size; omega)))
        have hvals : ∀ r, r < 4 → ∃ n : Nat, n ≤ 1002 ∧ W7.cell? ⟨w6.heap.size, r, none⟩ = some (.int .i64 (n : Int)) := by
          intro r hr
          have : r = 0 ∨ r = 1 ∨ r = 2 ∨ r = 3 := by omega
          rcases this with rfl | rfl | rfl | rfl
          · exact ⟨0, by omega, hsb.cell 0 rfl⟩
          · exact ⟨q, by omega, hsb.cell 1 rfl⟩
          · exact ⟨q1, by omega, hsb.cell 2 rfl⟩
          · exact ⟨dx, by omega, hsb.cell 3 rfl⟩
        have HL7 := Lib.hid L7
        have hlt7 := hsb.lt
        have HV := Lib.hid hvals
        obtain ⟨sb, hsb2⟩ : ∃ sb, w6.heap.size = sb := ⟨_, rfl⟩
        rw [hsb2] at HV hlt7 ⊢
        have hbw7 : Below w.heap.size w W7 := hbW.trans (hb17.mono hbWs)
        clear hW7 hsb L7 hvals k0 k1 k2 k3 kl ka hsb2 hb17 hb67 edx v8 hF HRR HL2 HL3 HL4 HL5 HL6 hb2 hb3 hb4 hb5 hb6 hbr hbrs e1 ei hmono hS1 hS2
        have hbb7 : Below W7.heap.size W7 W7 := Below.refl _ _
        go_loopw [12, 35, 36, 37, 38, 39, 40, 41, 204] (fun _ _ _ _ _ _ _ _ ix wz => ∃ r : Nat, r ≤ 4 ∧ ix = .int .i64 (r : Int) ∧ Below W7.heap.size W7 wz) (fun _ _ _ _ _ _ _ _ ix _ => 4 - (intOf ix).toNat)
        case atStart => exact ⟨0, Nat.zero_le _, rfl, hbb7⟩
        case round =>
          obtain ⟨r, hr, rfl, hbz⟩ := hrel
          have hsz7 := hbz.size
          by_cases hr4 : r < 4
          · obtain ⟨n, hn, hcell⟩ := HV.out r hr4
            have hcz := (hbz.cell (p := ⟨sb, r, none⟩) hlt7).trans hcell
            have LZ := HL7.out.below hbz (Nat.le_refl _)
            have hFz := late11 K _ g cap' i n d _ _ _ _ _ LZ hok hiN (by omega)
            have HLZ := Lib.hid LZ
            have hDz := fun (w' : World) (L' : LawAt w' K g cap' i d (w.heap.size + 6) Ab w.heap.size (w.heap.size + 5) (w.heap.size + 4)) => Delay_any K w' L'.camp g cap' i n d L'.plan hok hiN (by omega)
            have HDZ := Lib.hid hDz
            obtain ⟨P, hP⟩ : ∃ P, pushD (stepK K) d i n = P := ⟨_, rfl⟩
            rw [hP] at hFz HDZ
            generalize okD (stepK K) K.n d K.lat i n = o at *
            clear hDz LZ hcell hP
            obtain ⟨wo, rfl⟩ : ∃ wo : World, wo = wr := ⟨_, rfl⟩
            go_wp2_with (
              refine hFz.mono ?_
              rintro e w8 ⟨⟨g8, c8, rfl, hp8, hg8⟩, hb8⟩
              have L8 := HLZ.out.below hb8 (Nat.le_refl _)
              have HP8 := Lib.hid hp8
              clear hp8
              have k0 : w8.cell? ⟨w.heap.size + 4, 0, none⟩ = some (.slice (some ⟨K.cb, 0, none⟩) 1 1) := L8.c.cell 0 rfl
              have k1 : w8.cell? ⟨w.heap.size + 4, 1, none⟩ = some (.slice (some ⟨K.pb, 0, none⟩) 1 1) := L8.c.cell 1 rfl
              have k2 : w8.cell? ⟨w.heap.size + 4, 2, none⟩ = some (.slice (some ⟨K.gb, 0, none⟩) K.n K.gcap) := L8.c.cell 2 rfl
              have k3 : w8.cell? ⟨w.heap.size + 4, 3, none⟩ = some (.int .i64 0) := L8.c.cell 3 rfl
              have kl := L8.l
              have ka := L8.a
              have HL8 := Lib.hid L8
              clear L8)
            refine (HDZ.out w8 HL8.out).mono ?_
            rintro e w9 ⟨⟨hy, hno⟩, hb9⟩
            have HL9 := Lib.hid (HL8.out.below hb9 (Nat.le_refl _))
            have m9 := HL9.out.m
            have hs9 := hb9.size
            have hs8 := hb8.size
            have hr5 : r + 1 ≤ 4 := hr4
            have hbz9 := (hbz.trans (hb8.mono hsz7)).trans (hb9.mono (Nat.le_trans hsz7 hs8))
            have hs79 := Nat.le_trans (Nat.le_trans hsz7 hs8) hs9
            clear k0 k1 k2 k3 kl ka
            cases o with
            | false =>
              obtain rfl := hno rfl
              clear hno hy
              go_wp2_with fail
              go_roundw
              case rel => exact ⟨r + 1, hr5, by go_num, hbz9⟩
              case measure => simp [intOf] <;> omega
            | true =>
              obtain ⟨g9, c9, rfl, hp9⟩ := hy rfl
              clear hno hy
              have HP9 := Lib.hid hp9
              clear hp9
              go_wp2_with fail
              have hb99 : Below w9.heap.size w9 w9 := Below.refl _ _
              have hnn := HL9.out.camp.n6
              go_loopw [12, 40, 41, 241] (fun _ _ _ jx wy => ∃ j : Nat, j ≤ K.n ∧ jx = .int .i64 (j : Int) ∧ Below w9.heap.size w9 wy) (fun _ _ _ jx _ => K.n - (intOf jx).toNat)
              case atStart => exact ⟨0, Nat.zero_le _, rfl, hb99⟩
              case round =>
                obtain ⟨j, hj, rfl, hby⟩ := hrel
                have hsy := hby.size
                by_cases hjn : j < K.n
                · have hq9 := HP9.out.at_.below HP9.out.lt hby (Nat.le_refl _)
                  have hq8 := (HP8.out.below hg8 hb9 (Nat.le_refl _)).below (show g8 < w9.heap.size by omega) hby (Nat.le_refl _)
                  obtain ⟨e0, e1', e2, lb, lc, e3, e4, e5⟩ := hq9 j hjn
                  obtain ⟨f0, f1, f2, lb', lc', f3, f4, f5⟩ := hq8 j hjn
                  clear hq9 hq8
                  obtain ⟨WX, hWX⟩ : ∃ WX, WX = wr.alloc (.cells #[.int .i64 (P j : Nat), .int .i64 0, .int .i64 0, .slice (some ⟨lb, 0, none⟩) 1 lc] 51) := ⟨_, rfl⟩
                  have hbX : Below wr.heap.size wr WX := by rw [hWX]; exact (Below.refl _ _).alloc (Nat.le_refl _) _
                  have hxX : Blk WX wr.heap.size #[.int .i64 (P j : Nat), .int .i64 0, .int .i64 0, .slice (some ⟨lb, 0, none⟩) 1 lc] 51 := by rw [hWX]; exact Blk.new _ _ _
                  have hg8x : g8 < wr.heap.size := by omega
                  have x0 := hxX.cell 0 rfl
                  have x1 := hxX.cell 1 rfl
                  have x2 := hxX.cell 2 rfl
                  have x3 := hxX.cell 3 rfl
                  have f0' := (hbX.cell (p := ⟨g8, j * 4, none⟩) hg8x).trans f0
                  have f3' := (hbX.cell (p := ⟨g8, j * 4 + 3, none⟩) hg8x).trans f3
                  have e5' := (hbX.cell (p := ⟨lb, 0, none⟩) e4).trans e5
                  have f5' := (hbX.cell (p := ⟨lb', 0, none⟩) f4).trans f5
                  have hEq := Tryd.slices_Equal_int lb 0 1 lc lb' 0 1 lc' [(j : Int)] [(j : Int)] WX.drew (by simp) (by simp) (by omega) (by omega) (fun k hk => by
                    obtain rfl : k = 0 := by simpa using hk
                    simpa using e5') (fun k hk => by
                    obtain rfl : k = 0 := by simpa using hk
                    simpa using f5')
                  have hEt : ((([(j : Int)] : List Int).take 1) == (([(j : Int)] : List Int).take 1)) = true := by simp
                  rw [hEt] at hEq
                  go_wp2_with fail
                  rw [← hWX]
                  clear hWX e0 e1' e2 e3 f0 f1 f2 f3
                  refine wp_region_ord [(0, 0, 0), (1, 2, 1), (2, 0, 0), (3, 0, 0), (4, 0, 12), (5, 0, 28), (6, 2, 60), (7, 0, 127), (8, 0, 255), (9, 0, 511), (10, 2, 1023), (11, 0, 2047), (12, 0, 4095), (13, 0, 8191), (14, 0, 16383), (15, 2, 32767), (16, 0, 65535), (17, 0, 131071), (18, 0, 262143), (19, 0, 524287), (20, 2, 1048575), (21, 0, 524287), (22, 0, 524287), (23, 0, 6815743), (24, 0, 15204351), (25, 2, 31981567), (26, 3, 67108863), (27, 0, 134217727), (28, 0, 268435455)] false (by kernel_rfl) (by kernel_rfl) ?_
                  repeat (first | (refine tx_P rfl (fun Z hZ => ?_); go_simp; refine hZ _ _ ?_; clear hZ Z) | (refine tx_L rfl (fun Z hZ => ?_); go_simp; refine hZ _ _ ?_; clear hZ Z))
                  refine tx_E rfl (fun Z hZ => ?_)
                  go_simp
                  refine ⟨rfl, callsIn_wide.2 (hEq.mono ?_)⟩
                  rintro e wq ⟨rfl, nq, rfl⟩
                  refine hZ _ _ ?_; clear hZ Z
                  repeat (first | (refine tx_P rfl (fun Z hZ => ?_); go_simp; refine hZ _ _ ?_; clear hZ Z) | (refine tx_L rfl (fun Z hZ => ?_); go_simp; refine hZ _ _ ?_; clear hZ Z))
                  refine tx_nil ?_
                  go_wp2_with fail
                  go_roundw
                  case rel => exact ⟨j + 1, by omega, by go_num, below_drewN (hby.trans (hbX.mono hsy)) _⟩
                  case measure => simp [intOf] <;> omega
                · go_wp2_with fail
                  go_roundw
                  case rel => exact ⟨r + 1, hr5, by go_num, hbz9.trans (hby.mono hs79)⟩
                  case measure => simp [intOf] <;> omega
          · go_wp2_with fail
            go_ret
            exact ⟨rfl, hbw7.trans (hbz.mono hbw7.size)⟩
  case first =>
    go_wp2_with fail
    go_loopw [17, 18, 19, 71] (fun dy q _ ix wr => ∃ (k : Nat) (v gv : Value) (lbs lcs : Nat → Nat), k ≤ N ∧ ix = .int .i64 (k : Int) ∧ dy = .int .i64 (prevD (slD ps s) k : Nat) ∧ q = .int .i64 (sqs k : Nat) ∧ Bld w wr N ag cl s k k (slD ps s) (slL ps ss s) lbs lcs v gv) (fun _ _ _ ix _ => N - (intOf ix).toNat)
    case atStart => exact ⟨0, _, _, _, _, Nat.zero_le _, rfl, rfl, rfl, B0⟩
    case round =>
      obtain ⟨k, v, gv, lbs, lcs, hk, rfl, rfl, rfl, hB⟩ := hrel
      clear B0 m0
      by_cases hlt : k < N
      · by_cases hkz : k = 0
        · subst hkz
          have hp0 : prevD (slD ps s) 0 = 0 := rfl
          have hs0 : sqs 0 = 0 := rfl
          have hU0 := digit_any (.slice A ps.length cap) ps 0 50 wr (H0.out.below hB.below) (by omega) (by omega) (by omega)
          have hU1 := digit_any v1 ss 0 50 wr.drew (H1.out.below hB.drew.below) (by omega) (by omega) (by omega)
          have hIt := Itoa_0 wr.drew
          have m5 := hB.fix.f5.cell 0 rfl
          have gl : wr.cell? ⟨w.heap.size + 4, 2, none⟩ = some gv := hB.camp.cell 2 rfl
          have hsw := hB.lv.lt
          obtain ⟨dg, hdg⟩ : ∃ x, dig ps 0 50 = x := ⟨_, rfl⟩
          obtain ⟨sg, hsg⟩ : ∃ x, dig ss 0 50 = x := ⟨_, rfl⟩
          have hdg49 := dig_le ps 0
          have hsg49 := dig_le ss 0
          have hdk : slD ps s 0 = dg := by rw [← hdg]; rfl
          obtain ⟨lk, hlk⟩ : ∃ x, slL ps ss s 0 = x := ⟨_, rfl⟩
          have hlk2 : lk = dg + sg := by rw [← hlk, ← hsg, ← hdg]; rfl
          rw [hdg] at hU0 hdg49
          rw [hsg] at hU1 hsg49
          have vl : IntKind.i64.wrap ((dg : Int) + (sg : Int)) = (lk : Int) := by rw [show (dg : Int) + (sg : Int) = (lk : Int) by omega]; exact IntWalk.i64_in _ (by omega)
          obtain ⟨g5, gcap5, w5, hr5, hown5, hb5, hgr5, -, -, -⟩ := run_append_one (P := Tryd.prog) (w0 := w) (W := wr.drew) w.heap.size 44 49 44 _ 6 56 Tryd.underlying44 Tryd.info49' rfl (by decide) gv 0 (cargoC (slL ps ss s) 0)
            [.string (dname 0), .int .i64 1, .int .i64 0, .int .i64 0, .int .i64 (lk : Int), .bool false] (by rfl) (by simp [Value.oneCell']) hB.drew.rowg hB.drew.below (show w.heap.size ≤ wr.heap.size by omega) (by unfold maxLen; omega) (by omega)
          have hr5' : (Builtin.append_ #[44, 44] 44 #[gv, .slice (some ⟨wr.heap.size, 0, none⟩) 1 1]).run Tryd.prog (wr.alloc (.cells #[.string (dname 0), .int .i64 1, .int .i64 0, .int .i64 0, .int .i64 (lk : Int), .bool false] 49)).drew = .ok (.slice (some ⟨g5, 0, none⟩) (0 + 1) gcap5) w5 := hr5
          obtain ⟨hc5, B5⟩ := hB.drew.cargo (by rw [cargoC_succ, hlk]; exact hown5) hgr5 hb5
          have c52 : w5.cell? ⟨w.heap.size + 4, 2, none⟩ = some gv := hc5.cell 2 rfl
          have c52f := hc5.frozen 2
          have HB := Lib.hid hB
          have HE := Lib.hid (And.intro hdk hlk2)
          have HB5 := Lib.hid B5
          clear hr5 hown5 hB B5 hdg hsg hdk hlk hlk2
          go_wp2_with (first
            | (refine hU0.mono ?_; rintro e w9 ⟨rfl, rfl⟩))
          refine O2.wp_region_ord [(0, 0, 0), (1, 1, 1), (2, 0, 0), (4, 0, 0), (5, 0, 16), (6, 0, 0), (7, 0, 0), (8, 0, 192), (9, 0, 0), (10, 0, 0), (11, 0, 0), (3, 3, 4), (12, 3, 3084), (13, 0, 7692), (14, 0, 16380), (15, 3, 32764), (16, 4, 65535), (17, 0, 131071), (18, 4, 262143)] true (by kernel_rfl) (by kernel_rfl) ?_
          repeat (first | (refine O2.tx_P rfl (fun Z hZ => ?_); go_simp; refine hZ _ _ ?_; clear hZ Z) | (refine O2.tx_L rfl (fun Z hZ => ?_); go_simp; refine hZ _ _ ?_; clear hZ Z) | (refine O2.tx_H rfl (fun Z hZ => ?_); go_simp; refine ⟨_, fun w' hw' => by first | (rw [belowCellD hw' gl (by first | omega | (simp; omega))]; rfl), ?_⟩; refine hZ _ _ ?_; clear hZ Z))
          refine O2.tx_EK rfl (fun Z hZ => ?_)
          go_simp
          refine ⟨rfl, callsIn_wide.2 (hIt.mono ?_)⟩
          rintro e w9 ⟨rfl, rfl⟩
          refine hZ _ _ (Below.refl _ _) ?_; clear hZ Z
          refine O2.tx_EK rfl (fun Z hZ => ?_)
          go_simp
          refine ⟨rfl, callsIn_wide.2 (hU1.mono ?_)⟩
          rintro e w9 ⟨rfl, rfl⟩
          refine hZ _ _ (Below.refl _ _) ?_; clear hZ Z
          repeat (first | (refine O2.tx_P rfl (fun Z hZ => ?_); go_simp; refine hZ _ _ ?_; clear hZ Z) | (refine O2.tx_L rfl (fun Z hZ => ?_); go_simp; refine hZ _ _ ?_; clear hZ Z))
          refine O2.tx_EK rfl (fun Z hZ => ?_)
          go_simp
          refine hZ _ _ (((below_of_drew wr).alloc (Nat.le_refl _) _).drew) ?_; clear hZ Z
          refine O2.tx_append _ rfl (.tmp 85) (.tmp 99) 44 44 rfl rfl rfl gv (.slice (some ⟨wr.heap.size, 0, none⟩) 1 1) _ w5 rfl rfl hr5' ?_
          go_simp
          repeat (first | (refine O2.tx_P rfl (fun Z hZ => ?_); go_simp; refine hZ _ _ ?_; clear hZ Z) | (refine O2.tx_L rfl (fun Z hZ => ?_); go_simp; refine hZ _ _ ?_; clear hZ Z))
          refine O2.tx_X rfl (fun Z hZ => ?_)
          go_simp
          refine hZ _ _ ?_; clear hZ Z
          refine O2.tx_nil ?_
          obtain ⟨W6, hW6⟩ : ∃ W6, W6 = w5.setCell ⟨w.heap.size + 4, 2, none⟩ (.slice (some ⟨g5, 0, none⟩) (0 + 1) gcap5) := ⟨_, rfl⟩
          rw [← hW6]
          have B6 := HB5.out
          rw [← hW6] at B6
          clear hW6
          have hs6 := B6.lv.lt
          have l6 : W6.cell? ⟨w.heap.size + 6, 0, none⟩ = some v := B6.lv.cell 0 rfl
          have B7 := B6.alloc (.cells #[.int .i64 (0 : Int)] 3)
          have hL7 := Blk.new W6 #[.int .i64 (0 : Int)] 3
          have HB7 := Lib.hid B7
          have HB6 := Lib.hid B6
          clear B6 B7
          go_wp2_with (
            at_builtin
            refine append_oneB w.heap.size rfl (.tmp 102) (.tmp 107) _ _ _ 4 48 (by exact rfl) Tryd.underlying47 Tryd.info51' rfl (by decide) _ 0 (planC (slD ps s) lbs lcs 0) [_, _, _, _] (by exact rfl) (W6.heap.size + 1) (by simp) (by exact rfl) rfl (by simp [Value.oneCell']) HB7.out.rowp.own HB7.out.below (by simp; omega) (by unfold maxLen; omega) (by omega) ?_
            intro g8 gcap8 w8 hown8 hb8 hgr8 hor8 hg8 hlt8
            obtain ⟨hl8, B8⟩ := HB7.out.launch (HB7.out.rowp.push (lb := W6.heap.size) (lc := 1) (by rw [HE.out.1]; exact hown8) hgr8 hL7 rfl (by omega)) hgr8 hb8
            have z8 := hl8.cell 0 rfl
            have z8f := hl8.frozen 0
            have HB8 := Lib.hid B8
            clear hl8 B8)
          go_roundw
          case rel => exact ⟨0 + 1, _, _, _, _, by omega, by go_num, by rw [← HE.out.1]; rfl, rfl, HB8.out⟩
          case measure => simp [intOf] <;> omega
        · have hk0 : decide (0 < k) = true := decide_eq_true (by omega)
          have hU0 := digit_any (.slice A ps.length cap) ps k 50 wr (H0.out.below hB.below) (by omega) (by omega) (by omega)
          have hU1 := digit_any v1 ss k 50 wr.drew (H1.out.below hB.drew.below) (by omega) (by omega) (by omega)
          have hIt := Itoa_digit k (by omega) wr.drew
          have m5 := hB.fix.f5.cell 0 rfl
          have gl : wr.cell? ⟨w.heap.size + 4, 2, none⟩ = some gv := hB.camp.cell 2 rfl
          have hsw := hB.lv.lt
          obtain ⟨dg, hdg⟩ : ∃ x, dig ps k 50 = x := ⟨_, rfl⟩
          obtain ⟨sg, hsg⟩ : ∃ x, dig ss k 50 = x := ⟨_, rfl⟩
          have hdg49 := dig_le ps k
          have hsg49 := dig_le ss k
          obtain ⟨dk, hdk⟩ : ∃ x, slD ps s k = x := ⟨_, rfl⟩
          obtain ⟨lk, hlk⟩ : ∃ x, slL ps ss s k = x := ⟨_, rfl⟩
          have hlk2 : lk = dk + sg := by rw [← hlk, ← hdk, ← hsg]; rfl
          have hdk6 := slD_le ps hs20 (i := k) (by omega)
          obtain ⟨pd, hpd⟩ : ∃ x, prevD (slD ps s) k = x := ⟨_, rfl⟩
          have hdk2 : dk = pd + dg + s := by rw [← hdk, ← hpd, ← hdg]; exact slD_prev ps s (by omega)
          rw [hpd]
          obtain ⟨mk, hmk⟩ : ∃ x, 1 + k = x := ⟨_, rfl⟩
          obtain ⟨kk, hkk⟩ : ∃ x, k * k = x := ⟨_, rfl⟩
          have hkk25 : k * k ≤ 5 * 5 := Nat.mul_le_mul (by omega) (by omega)
          have hsq := sqs_le (n := k) (by omega)
          rw [hdg] at hU0 hdg49
          rw [hsg] at hU1 hsg49
          rw [hdk] at hdk6
          rw [hkk] at hkk25
          have v7 : IntKind.i64.wrap ((pd : Int) + (dg : Int)) = (pd : Int) + (dg : Int) := IntWalk.i64_in _ (by omega)
          have v8 : IntKind.i64.wrap ((pd : Int) + (dg : Int) + (s : Int)) = (dk : Int) := by rw [show (pd : Int) + (dg : Int) + (s : Int) = (dk : Int) by omega]; exact IntWalk.i64_in _ (by omega)
          have v9 : (pd : Int) + (dg : Int) + (s : Int) = (dk : Int) := by omega
          have vm : IntKind.i64.wrap (1 + (k : Int)) = (mk : Int) := by rw [show 1 + (k : Int) = (mk : Int) by omega]; exact IntWalk.i64_in _ (by omega)
          have vk : IntKind.i64.wrap ((k : Int) * (k : Int)) = (kk : Int) := by rw [← Int.natCast_mul, hkk]; exact IntWalk.i64_in _ (by omega)
          have vl : IntKind.i64.wrap ((dk : Int) + (sg : Int)) = (lk : Int) := by rw [show (dk : Int) + (sg : Int) = (lk : Int) by omega]; exact IntWalk.i64_in _ (by omega)
          have vq : IntKind.i64.wrap ((sqs k : Int) + (kk : Int)) = (sqs k : Int) + (kk : Int) := IntWalk.i64_in _ (by omega)
          obtain ⟨g5, gcap5, w5, hr5, hown5, hb5, hgr5, -, -, -⟩ := run_append_one (P := Tryd.prog) (w0 := w) (W := wr.drew) w.heap.size 44 49 44 _ 6 56 Tryd.underlying44 Tryd.info49' rfl (by decide) gv k (cargoC (slL ps ss s) k)
            [.string (dname k), .int .i64 (mk : Int), .int .i64 (kk : Int), .int .i64 0, .int .i64 (lk : Int), .bool false] (by rfl) (by simp [Value.oneCell']) hB.drew.rowg hB.drew.below (show w.heap.size ≤ wr.heap.size by omega) (by unfold maxLen; omega) (by omega)
          have hr5' : (Builtin.append_ #[44, 44] 44 #[gv, .slice (some ⟨wr.heap.size, 0, none⟩) 1 1]).run Tryd.prog (wr.alloc (.cells #[.string (dname k), .int .i64 (mk : Int), .int .i64 (kk : Int), .int .i64 0, .int .i64 (lk : Int), .bool false] 49)).drew = .ok (.slice (some ⟨g5, 0, none⟩) (k + 1) gcap5) w5 := hr5
          obtain ⟨hc5, B5⟩ := hB.drew.cargo (by rw [cargoC_succ, hmk, hkk, hlk]; exact hown5) hgr5 hb5
          have c52 : w5.cell? ⟨w.heap.size + 4, 2, none⟩ = some gv := hc5.cell 2 rfl
          have c52f := hc5.frozen 2
          have HB := Lib.hid hB
          have HE := Lib.hid (And.intro hdk (And.intro hkk hlk2))
          have HB5 := Lib.hid B5
          clear hr5 hown5 hB B5 hdg hsg hdk hlk hmk hkk hlk2 hdk2 hpd
          go_wp2_with (first
            | (refine hU0.mono ?_; rintro e w9 ⟨rfl, rfl⟩))
          refine O2.wp_region_ord [(0, 0, 0), (1, 1, 1), (2, 0, 0), (4, 0, 0), (5, 0, 16), (6, 0, 0), (7, 0, 0), (8, 0, 192), (9, 0, 0), (10, 0, 0), (11, 0, 0), (3, 3, 4), (12, 3, 3084), (13, 0, 7692), (14, 0, 16380), (15, 3, 32764), (16, 4, 65535), (17, 0, 131071), (18, 4, 262143)] true (by kernel_rfl) (by kernel_rfl) ?_
          repeat (first | (refine O2.tx_P rfl (fun Z hZ => ?_); go_simp; refine hZ _ _ ?_; clear hZ Z) | (refine O2.tx_L rfl (fun Z hZ => ?_); go_simp; refine hZ _ _ ?_; clear hZ Z) | (refine O2.tx_H rfl (fun Z hZ => ?_); go_simp; refine ⟨_, fun w' hw' => by first | (rw [belowCellD hw' gl (by first | omega | (simp; omega))]; rfl), ?_⟩; refine hZ _ _ ?_; clear hZ Z))
          refine O2.tx_EK rfl (fun Z hZ => ?_)
          go_simp
          refine ⟨rfl, callsIn_wide.2 (hIt.mono ?_)⟩
          rintro e w9 ⟨rfl, rfl⟩
          refine hZ _ _ (Below.refl _ _) ?_; clear hZ Z
          refine O2.tx_EK rfl (fun Z hZ => ?_)
          go_simp
          refine ⟨rfl, callsIn_wide.2 (hU1.mono ?_)⟩
          rintro e w9 ⟨rfl, rfl⟩
          refine hZ _ _ (Below.refl _ _) ?_; clear hZ Z
          repeat (first | (refine O2.tx_P rfl (fun Z hZ => ?_); go_simp; refine hZ _ _ ?_; clear hZ Z) | (refine O2.tx_L rfl (fun Z hZ => ?_); go_simp; refine hZ _ _ ?_; clear hZ Z))
          refine O2.tx_EK rfl (fun Z hZ => ?_)
          go_simp
          refine hZ _ _ (((below_of_drew wr).alloc (Nat.le_refl _) _).drew) ?_; clear hZ Z
          refine O2.tx_append _ rfl (.tmp 85) (.tmp 99) 44 44 rfl rfl rfl gv (.slice (some ⟨wr.heap.size, 0, none⟩) 1 1) _ w5 rfl rfl hr5' ?_
          go_simp
          repeat (first | (refine O2.tx_P rfl (fun Z hZ => ?_); go_simp; refine hZ _ _ ?_; clear hZ Z) | (refine O2.tx_L rfl (fun Z hZ => ?_); go_simp; refine hZ _ _ ?_; clear hZ Z))
          refine O2.tx_X rfl (fun Z hZ => ?_)
          go_simp
          refine hZ _ _ ?_; clear hZ Z
          refine O2.tx_nil ?_
          obtain ⟨W6, hW6⟩ : ∃ W6, W6 = w5.setCell ⟨w.heap.size + 4, 2, none⟩ (.slice (some ⟨g5, 0, none⟩) (k + 1) gcap5) := ⟨_, rfl⟩
          rw [← hW6]
          have B6 := HB5.out
          rw [← hW6] at B6
          clear hW6
          have hs6 := B6.lv.lt
          have l6 : W6.cell? ⟨w.heap.size + 6, 0, none⟩ = some v := B6.lv.cell 0 rfl
          have B7 := B6.alloc (.cells #[.int .i64 (k : Int)] 3)
          have hL7 := Blk.new W6 #[.int .i64 (k : Int)] 3
          have HB7 := Lib.hid B7
          have HB6 := Lib.hid B6
          clear B6 B7
          go_wp2_with (
            at_builtin
            refine append_oneB w.heap.size rfl (.tmp 102) (.tmp 107) _ _ _ 4 48 (by exact rfl) Tryd.underlying47 Tryd.info51' rfl (by decide) _ k (planC (slD ps s) lbs lcs k) [_, _, _, _] (by exact rfl) (W6.heap.size + 1) (by simp) (by exact rfl) rfl (by simp [Value.oneCell']) HB7.out.rowp.own HB7.out.below (by simp; omega) (by unfold maxLen; omega) (by omega) ?_
            intro g8 gcap8 w8 hown8 hb8 hgr8 hor8 hg8 hlt8
            obtain ⟨hl8, B8⟩ := HB7.out.launch (HB7.out.rowp.push (lb := W6.heap.size) (lc := 1) (by rw [HE.out.1]; exact hown8) hgr8 hL7 rfl (by omega)) hgr8 hb8
            have z8 := hl8.cell 0 rfl
            have z8f := hl8.frozen 0
            have HB8 := Lib.hid B8
            clear hl8 B8)
          go_roundw
          case rel => exact ⟨k + 1, _, _, _, _, by omega, by go_num, by rw [← HE.out.1]; rfl, by show Value.int .i64 _ = Value.int .i64 ((sqs k + k * k : Nat) : Int); rw [HE.out.2.1]; go_num, HB8.out⟩
          case measure => simp [intOf] <;> omega
      · obtain rfl : k = N := by omega
        go_wp2
        go_meet
        exact ⟨_, _, _, _, rfl, hB⟩

end Go.Proofs.YtempbknidpmncaaDoor
