/-
  TopBus: the messages that the law builds, and the walk of the law: it answers true.
-/
import Derived.Test.YtempbknidpmncaaDoorBusPlain
import Derived.Test.YtempbknidpmncaaDoorItoa
import Derived.Deep.Cut
import Derived.Deep.DeepCutAuto
import Derived.Deep.CutBlock
namespace Go.Proofs.YtempbknidpmncaaDoor
open Go.RowKit Go.Shelf Go.Deep

def busTab : List Nat := [1, 2, 4, 5, 8, 10, 20, 25, 40, 50, 100]
def busP (ps : List Nat) (i : Nat) : Nat := busTab.getD (dig ps i 11) 1
def busM (ps ss : List Nat) (i : Nat) : Msg := ⟨dname i, 1 + dig ss i (busP ps i), busP ps i⟩
def busL (ps ss : List Nat) (k : Nat) : List Msg := (List.range k).map (busM ps ss)
def busN (ps : List Nat) : Nat := min (max ps.length 1) 8
theorem busN_le (ps : List Nat) : 1 ≤ busN ps ∧ busN ps ≤ 8 := by unfold busN; omega
theorem busL_length (ps ss : List Nat) (k : Nat) : (busL ps ss k).length = k := by simp [busL]
theorem busL_succ (ps ss : List Nat) (k : Nat) : busL ps ss (k + 1) = busL ps ss k ++ [busM ps ss k] := by simp [busL, List.range_succ]
theorem busP_in (ps : List Nat) (i : Nat) : 1 ≤ busP ps i ∧ busP ps i ≤ 100 ∧ busP ps i ∣ 200 := by
  have h : dig ps i 11 < 11 := Nat.mod_lt _ (by omega)
  unfold busP
  generalize dig ps i 11 = d at h
  have : ∀ d, d < 11 → 1 ≤ busTab.getD d 1 ∧ busTab.getD d 1 ≤ 100 ∧ busTab.getD d 1 ∣ 200 := by decide
  exact this d h
theorem busL_good (ps ss : List Nat) (k : Nat) (h1 : 1 ≤ k) (h8 : k ≤ 8) : Good (busL ps ss k) where
  len1 := by rw [busL_length]; exact h1
  len := by rw [busL_length]; exact h8
  nodup := by
    simp only [busL, List.map_map]
    rw [List.nodup_iff_pairwise_ne, List.pairwise_map]
    refine List.Pairwise.imp_of_mem ?_ List.pairwise_lt_range
    intro a b ha hb hlt he
    have := List.mem_range.1 ha
    have := List.mem_range.1 hb
    have := dname_inj (by omega) (by omega) he
    omega
  name := fun m hm => by
    obtain ⟨i, _, rfl⟩ := List.mem_map.1 hm
    exact ⟨Nat.le_refl 1, (by decide : 1 ≤ 32)⟩
  size := fun m hm => by
    obtain ⟨i, _, rfl⟩ := List.mem_map.1 hm
    have h := (busP_in ps i).1
    have := Nat.mod_lt (ss.getD i 0) h
    simp only [busM, dig]; omega
  period := fun m hm => by
    obtain ⟨i, _, rfl⟩ := List.mem_map.1 hm
    exact (busP_in ps i).2.2

def msgCells (m : Msg) : List Value := [.string m.name, .int .i64 m.size, .int .i64 m.period, .int .i64 m.period]
def cellsM (l : List Msg) : List Value := l.flatMap msgCells
theorem cellsM_snoc (a : List Msg) (m : Msg) : cellsM (a ++ [m]) = cellsM a ++ msgCells m := by simp [cellsM]
theorem cellsM_at : ∀ (l : List Msg) (i : Nat) (m : Msg) (o : Nat), l[i]? = some m → o < 4 → (cellsM l)[i * 4 + o]? = (msgCells m)[o]?
  | [], i, m, o, h, _ => by simp at h
  | x :: l, 0, m, o, h, ho => by
    simp only [List.getElem?_cons_zero, Option.some.injEq] at h
    subst h
    simp only [cellsM, List.flatMap_cons]
    rw [List.getElem?_append_left (by simp [msgCells]; omega)]
    simp
  | x :: l, i + 1, m, o, h, ho => by
    have := cellsM_at l i m o (by simpa using h) ho
    simp only [cellsM, List.flatMap_cons]
    rw [List.getElem?_append_right (by simp [msgCells]; omega)]
    have e : (i + 1) * 4 + o - (msgCells x).length = i * 4 + o := by simp [msgCells]; omega
    rw [e]; exact this
theorem cellsM_length (l : List Msg) : (cellsM l).length = l.length * 4 := by
  induction l with
  | nil => rfl
  | cons x a ih => simp only [cellsM, List.flatMap_cons, List.length_append, List.length_cons] at *; rw [ih]; simp [msgCells]; omega
theorem MsgsAt_own {w : World} {base g cap n : Nat} {l : List Msg} (hn : n = l.length) (h : w.ownsRow base 28 4 (.slice (some ⟨g, 0, none⟩) n cap) n (cellsM l)) : MsgsAt w g l := by
  intro i m hj
  have hi : i < l.length := (List.getElem?_eq_some_iff.1 hj).1
  have hc : ∀ o, o < 4 → w.cell? ⟨g, i * 4 + o, none⟩ = (msgCells m)[o]? := fun o ho => by
    rw [h.cellAt (i * 4 + o) (by omega)]; exact cellsM_at l i m o hj ho
  exact ⟨by simpa [msgCells] using hc 0 (by omega), hc 1 (by omega), hc 2 (by omega), hc 3 (by omega)⟩
theorem Tryd.info28' : (Tryd.prog.info? 28).map (fun i => (i.zero, i.size, i.bytes)) = some (some (.agg #[(.string ⟨#[]⟩), (.int .i64 0), (.int .i64 0), (.int .i64 0)]), 4, 40) := by kernel_rfl

theorem bus_n (ps : List Nat) : ∃ M : Nat, Builtin.max2 (.int .i64 (ps.length : Int)) (.int .i64 1) = (pure (.int .i64 (M : Int)) : Sem Value) ∧ Builtin.min2 (.int .i64 (M : Int)) (.int .i64 8) = (pure (.int .i64 (busN ps : Int)) : Sem Value) := by
  refine ⟨max ps.length 1, ?_, ?_⟩
  · simp only [Builtin.max2, gt_iff_lt]
    congr 2
    split <;> omega
  · simp only [Builtin.min2]
    congr 2
    unfold busN
    split <;> omega
theorem max_two' (ats : Array TypeId) (ty : TypeId) (a b : Value) : Builtin.max_ ats ty #[a, b] = (Builtin.max2 a b >>= fun s => pure s) := by simp only [Builtin.max_, List.foldlM_cons, List.foldlM_nil]
theorem min_two' (ats : Array TypeId) (ty : TypeId) (a b : Value) : Builtin.min_ ats ty #[a, b] = (Builtin.min2 a b >>= fun s => pure s) := by simp only [Builtin.min_, List.foldlM_cons, List.foldlM_nil]
attribute [local go_sem] Oper.semAt_some max_two' min_two'

theorem lcm_parts (c p : Nat) (hc : 0 < c) : ∃ q, c / Nat.gcd c p = q ∧ q * p = Nat.lcm c p ∧ q ≤ c := by
  have hgp : 0 < Nat.gcd c p := Nat.gcd_pos_of_pos_left _ hc
  refine ⟨_, rfl, ?_, Nat.div_le_self _ _⟩
  unfold Nat.lcm
  obtain ⟨d, hd⟩ := Nat.gcd_dvd_left c p
  generalize Nat.gcd c p = g at hd hgp
  subst hd
  rw [Nat.mul_div_cancel_left _ hgp, Nat.mul_assoc, Nat.mul_div_cancel_left _ hgp]
def busCells : Array Value := #[.int .i64 1, .int .i64 2, .int .i64 4, .int .i64 5, .int .i64 8, .int .i64 10, .int .i64 20, .int .i64 25, .int .i64 40, .int .i64 50, .int .i64 100]
theorem busCells_at (ps : List Nat) (i : Nat) : busCells[dig ps i 11]? = some (.int .i64 (busP ps i : Nat)) := by
  have h : dig ps i 11 < 11 := Nat.mod_lt _ (by omega)
  unfold busP
  generalize dig ps i 11 = d at h
  match d, h with
  | 0, _ => rfl
  | 1, _ => rfl
  | 2, _ => rfl
  | 3, _ => rfl
  | 4, _ => rfl
  | 5, _ => rfl
  | 6, _ => rfl
  | 7, _ => rfl
  | 8, _ => rfl
  | 9, _ => rfl
  | 10, _ => rfl

/-- The messages are built. -/
def Built (ps ss : List Nat) (w : World) (v c : Value) (wx : World) : Prop := ∃ g cap, v = .slice (some ⟨g, 0, none⟩) (busN ps) cap ∧ c = .int .i64 (cyc (busL ps ss (busN ps)) : Nat) ∧
  MsgsAt wx g (busL ps ss (busN ps)) ∧ w.heap.size ≤ g ∧ g < wx.heap.size ∧ Below w.heap.size w wx

theorem msgsAt_own_busL {w : World} {base g cap k : Nat} {ps ss : List Nat} (h : w.ownsRow base 28 4 (.slice (some ⟨g, 0, none⟩) k cap) k (cellsM (busL ps ss k))) : MsgsAt w g (busL ps ss k) :=
  MsgsAt_own (busL_length ps ss k).symm h

theorem usedL_le (c : Nat) (l : List Msg) (h : ∀ m ∈ l, m.size ≤ m.period) : usedL c l ≤ l.length * c := by
  induction l with
  | nil => simp [usedL]
  | cons m l ih =>
    have h1 := ih (fun m hm => h m (List.mem_cons_of_mem _ hm))
    have h2 := h m (List.mem_cons_self ..)
    have h3 : m.size * (c / m.period) ≤ c := Nat.le_trans (Nat.mul_le_mul_right _ h2) (Nat.mul_div_le c m.period)
    simp only [usedL, List.map_cons, List.sum_cons, List.length_cons] at *
    rw [Nat.succ_mul]; omega

theorem cntW_succ (t : List Int) (i a b k : Nat) : cntW t i a b (k + 1) = cntW t i a b k + (if a ≤ k ∧ k < b ∧ t[k]? = some (i : Int) then 1 else 0) := by
  simp only [cntW, List.range_succ, List.filter_append, List.length_append, List.filter_cons, List.filter_nil]
  by_cases h : a ≤ k ∧ k < b ∧ t[k]? = some (i : Int)
  · simp [h.1, h.2.1, h.2.2]
  · rw [if_neg h, if_neg (by simpa [and_assoc] using h)]; simp
theorem cntW_zero (t : List Int) (i a b : Nat) : ∀ k, k ≤ a → cntW t i a b k = 0
  | 0, _ => rfl
  | k + 1, h => by rw [cntW_succ, cntW_zero t i a b k (by omega), if_neg (by omega)]
theorem cntW_after' (t : List Int) (i a b : Nat) : ∀ d, cntW t i a b (b + d) = cntW t i a b b
  | 0 => rfl
  | d + 1 => by rw [← Nat.add_assoc, cntW_succ, cntW_after' t i a b d, if_neg (by omega)]; rfl
theorem cntW_after (t : List Int) (i a b c : Nat) (h : b ≤ c) : cntW t i a b c = cntW t i a b b := by
  have := cntW_after' t i a b (c - b)
  rwa [show b + (c - b) = c by omega] at this

set_option maxRecDepth 20000 in
set_option maxHeartbeats 4000000 in
theorem TopBus_any (v0 v1 : Value) (ps ss : List Nat) (w : World) (h0 : U16At w v0 ps) (h1 : U16At w v1 ss) :
    Calls Tryd.prog 3 #[v0, v1] w fun e w' => e = .returned (.bool true) ∧ Below w.heap.size w w' := by
  obtain ⟨hN1, hN8⟩ := busN_le ps
  have hlen : ∃ A cap, v0 = .slice A ps.length cap ∧ ps.length ≤ 140737488351232 := by
    obtain ⟨A, cap, hv, hl, _⟩ := h0
    exact ⟨A, cap, hv, hl⟩
  obtain ⟨A, cap, rfl, hpl⟩ := hlen
  have H0 := Lib.hid h0
  have H1 := Lib.hid h1
  clear h0 h1
  obtain ⟨M, hM1, hM2⟩ := bus_n ps
  go_enter Tryd.func3, Tryd.ntmps3
  go_upto_block 0 with fail
  go_cut [5, 6, 9, 10, 11, 12] (fun v c _ _ _ _ wx => Built ps ss w v c wx)
  case rest =>
    obtain ⟨g, gcap, rfl, rfl, hml, hg1, hg2, hbw⟩ := hcut
    have hgood := busL_good ps ss (busN ps) hN1 hN8
    have hL8 : (busL ps ss (busN ps)).length = busN ps := busL_length _ _ _
    generalize hLL : busL ps ss (busN ps) = L at *
    generalize hnn : busN ps = n at *
    clear hLL hnn hM1 hM2 H0 H1
    have hc200 := Nat.le_of_dvd (by omega) (cyc_dvd L hgood.period)
    have hc1 := hgood.cyc_pos
    have HC : Hid (∀ m ∈ L, m.period ∣ cyc L) := Lib.hid (fun m hm => dvd_cyc m hm)
    have hbc : Below wc.heap.size wc wc := Below.refl _ _
    subst hL8
    go_wp2_with fail
    go_loopw [7, 8, 14, 79] (fun a b _ i wr => ∃ k : Nat, k ≤ L.length ∧ i = .int .i64 (k : Int) ∧ a = .int .i64 (njobs (cyc L) (L.take k) : Nat) ∧ b = .int .i64 (usedL (cyc L) (L.take k) : Nat) ∧ Below wc.heap.size wc wr) (fun _ _ _ i _ => L.length - (intOf i).toNat)
    case atStart => exact ⟨0, Nat.zero_le _, rfl, rfl, rfl, hbc⟩
    case round =>
      obtain ⟨k, hk, rfl, rfl, rfl, hbel⟩ := hrel
      by_cases hlt : k < L.length
      · obtain ⟨m, hmk⟩ : ∃ m, L[k]? = some m := ⟨L[k], by simp [hlt]⟩
        have hmem : m ∈ L := List.mem_of_getElem? hmk
        have hp := hgood.p_le hmem
        have hs := hgood.size m hmem
        have hce : ∀ o, wr.cell? ⟨g, o, none⟩ = wc.cell? ⟨g, o, none⟩ := fun o => hbel.cell (p := ⟨g, o, none⟩) hg2
        obtain ⟨c0, c1, c2, c3⟩ := hml k m hmk
        rw [← hce] at c0 c1 c2 c3
        obtain ⟨q, hq⟩ : ∃ q, cyc L / m.period = q := ⟨_, rfl⟩
        have hqc : q ≤ cyc L := by rw [← hq]; exact Nat.div_le_self _ _
        have hqi : (cyc L : Int) / (m.period : Int) = (q : Int) := by rw [← Int.natCast_ediv, hq]
        have hn0 := njobs_le (cyc L) (L.take k)
        have hu0 := usedL_le (cyc L) (L.take k) (fun m hm => (hgood.size m (List.mem_of_mem_take hm)).2)
        have htl : (L.take k).length ≤ 8 := by rw [List.length_take]; omega
        have hn1 : njobs (cyc L) (L.take k) ≤ 8 * 200 := Nat.le_trans hn0 (Nat.mul_le_mul htl hc200)
        have hu1 : usedL (cyc L) (L.take k) ≤ 8 * 200 := Nat.le_trans hu0 (Nat.mul_le_mul htl hc200)
        have hsq : m.size * q ≤ 200 * 200 := Nat.mul_le_mul (by omega) (by omega)
        have HNJ : Hid (njobs (cyc L) (L.take (k + 1)) = njobs (cyc L) (L.take k) + q) := Lib.hid (by rw [take_snoc' hmk, njobs_snoc, hq])
        have HUS : Hid (usedL (cyc L) (L.take (k + 1)) = usedL (cyc L) (L.take k) + m.size * q) := Lib.hid (by rw [take_snoc' hmk, usedL_snoc, hq])
        have hw1 : IntKind.i64.wrap ((cyc L : Int) / (m.period : Int)) = (q : Int) := by rw [hqi]; exact IntWalk.i64_in _ (by omega)
        have hw2 : IntKind.i64.wrap ((m.size : Int) * (q : Int)) = ((m.size * q : Nat) : Int) := by rw [← Int.natCast_mul]; exact IntWalk.i64_in _ (by omega)
        have hp0 : ¬ m.period = 0 := by omega
        have hB := Blk.new wr #[Value.string m.name, Value.int .i64 m.size, Value.int .i64 m.period, Value.int .i64 m.period] 28
        have d1 := hB.cell 1 rfl
        have d2 := hB.cell 2 rfl
        generalize njobs (cyc L) (L.take k) = nj at *
        generalize usedL (cyc L) (L.take k) = us at *
        generalize hsz : m.size * q = sq at *
        have hw3 : IntKind.i64.wrap ((nj : Int) + (q : Int)) = (nj : Int) + (q : Int) := IntWalk.i64_in _ (by omega)
        have hw4 : IntKind.i64.wrap ((us : Int) + (sq : Int)) = (us : Int) + (sq : Int) := IntWalk.i64_in _ (by omega)
        have hw5 : IntKind.i64.wrap ((us : Int) + ((sq : Nat) : Int)) = ((us + sq : Nat) : Int) := by rw [hw4]; omega
        clear hw5
        clear hq hqi hsz hce hmk hn0 hu0 hB
        have HD1 := Lib.hid d1
        have HD2 := Lib.hid d2
        clear d1 d2
        go_wp2
        have e1 := HD1.out
        have e2 := HD2.out
        refine wp_region_ord [(0, 0, 0), (1, 0, 0), (2, 0, 0), (3, 2, 4), (4, 0, 14), (5, 0, 31), (6, 0, 0), (7, 0, 0), (8, 2, 128), (9, 0, 0), (10, 0, 0), (11, 2, 1024), (12, 0, 3584), (13, 0, 8064), (14, 0, 16320), (15, 0, 63), (16, 0, 65535)] false (by kernel_rfl) (by kernel_rfl) ?_
        repeat (first | (refine tx_P rfl (fun K hK => ?_); go_simp; refine hK _ _ ?_; clear hK K) | (refine tx_L rfl (fun K hK => ?_); go_simp; refine hK _ _ ?_; clear hK K))
        refine tx_nil ?_
        go_wp2
        go_roundw
        case rel => exact ⟨k + 1, by omega, by go_num, by rw [HNJ.out]; go_num, by rw [HUS.out]; go_num, (hbel.alloc hbel.size _).drew⟩
        case measure => simp [intOf]; omega
      · have hke : k = L.length := by omega
        have hkn : ¬ (k : Int) < (L.length : Int) := by omega
        have HKE := Lib.hid hke
        have hn0 := njobs_le (cyc L) (L.take k)
        have hu0 := usedL_le (cyc L) (L.take k) (fun m hm => (hgood.size m (List.mem_of_mem_take hm)).2)
        have htl : (L.take k).length ≤ 8 := by rw [List.length_take]; omega
        have hn1 : njobs (cyc L) (L.take k) ≤ 8 * 200 := Nat.le_trans hn0 (Nat.mul_le_mul htl hc200)
        have hu1 : usedL (cyc L) (L.take k) ≤ 8 * 200 := Nat.le_trans hu0 (Nat.mul_le_mul htl hc200)
        have HT : Hid (L.take k = L) := Lib.hid (by rw [hke, List.take_length])
        clear hke
        go_wp2_with fail
        rw [HT.out] at hn1 hu1 ⊢
        clear hn0 hu0 HT htl HKE hkn hlt hk
        have hbr : Below w.heap.size w wr := hbw.trans (hbel.mono hbw.size)
        have hmr : MsgsAt wr g L := hml.of_block (hbel.block g hg2)
        have hgr : g < wr.heap.size := Nat.lt_of_lt_of_le hg2 hbel.size
        have hsr := hbr.size
        clear hml hg2 hbw hbel hbc
        have HHN : Hid (used L = usedL (cyc L) L) := Lib.hid rfl
        have hus : used L ≤ 8 * 200 := hu1
        change usedL (cyc L) L ≤ 8 * 200 at hu1
        by_cases hn : njobs (cyc L) L ≤ 256
        · have hng : ¬ (256 : Int) < (njobs (cyc L) L : Nat) := by omega
          have hcr := cycRes_yes hn
          have hC : Calls Tryd.prog 8 #[.slice (some ⟨g, 0, none⟩) L.length gcap] wr fun e w' => e = .returned (.tuple #[.int .i64 (cyc L : Nat), .int .i64 0]) ∧ Below wr.heap.size wr w' := (Cycle_any g gcap L hgood wr hmr hgr).mono fun e w' h => by rwa [hcr] at h
          have HNN := Lib.hid hn
          clear hcr hn
          refine hC.mono ?_
          rintro e w1 ⟨rfl, hb1⟩
          have hm1 : MsgsAt w1 g L := hmr.of_block (hb1.block g hgr)
          have hg1' : g < w1.heap.size := Nat.lt_of_lt_of_le hgr hb1.size
          have hbr1 := hbr.trans (hb1.mono hsr)
          clear hC
          go_wp2_with fail
          refine (Schedule_any g gcap L hgood w1 hm1 hg1').mono ?_
          rintro e w2 ⟨hp, hb2⟩
          have hm2 : MsgsAt w2 g L := hm1.of_block (hb2.block g hg1')
          have hg2' : g < w2.heap.size := Nat.lt_of_lt_of_le hg1' hb2.size
          have hbr2 := hbr1.trans (hb2.mono hbr1.size)
          have hs2 := hbr2.size
          by_cases hu : usedL (cyc L) L ≤ cyc L
          · have hug : ¬ (cyc L : Int) < (usedL (cyc L) L : Nat) := by omega
            obtain ⟨t0, ht0⟩ := plain_made hgood (by rw [HHN.out]; exact hu)
            have hW : ∃ (t : List Int) (tb tcap : Nat), e = .returned (.tuple #[.slice (some ⟨tb, 0, none⟩) t.length tcap, .agg #[.int .i64 0, .int .i64 0], .int .i64 0]) ∧ madeL (jobsAll L) (cyc L) = some t ∧ w1.heap.size ≤ tb ∧ tb < w2.heap.size ∧ IntsAt w2 tb t ∧ t.length ≤ tcap ∧ tcap ≤ maxLen ∧ (∀ j, w2.frozen? ⟨tb, j, none⟩ = false) := by
              rcases hp with ⟨h, _⟩ | ⟨_, t, v, h, he, ho⟩ | ⟨_, h, _⟩
              · have := HNN.out; omega
              · rcases ho.2 with ⟨_, h0⟩ | ⟨tb, tcap, cur, hv, hbg, hh, hcap, hcm, _⟩
                · have := (plain_right hgood h).1; omega
                · subst hv
                  refine ⟨t, tb, tcap, he, h, hbg, (Array.getElem?_eq_some_iff.1 hh).1, ?_, hcap, hcm, fun j => by simp [World.frozen?, hh]⟩
                  intro s x hx
                  have hsl := (List.getElem?_eq_some_iff.1 hx).1
                  rw [ho.cellAt s (by omega)]
                  simp [intsV, hx]
              · rw [ht0] at h; cases h
            clear ht0 hp
            obtain ⟨t, tb, tcap, rfl, hmade, htb1, htb2, hti, htc, htm, hfz⟩ := hW
            obtain ⟨htl, htv, har, hidl⟩ := plain_right hgood hmade
            rw [HHN.out] at hidl
            have htl200 : t.length ≤ 200 := by omega
            have HTL := Lib.hid htl
            have HAR := Lib.hid har
            have HID := Lib.hid hidl
            have hc2 : ((cyc L : Int) != (cyc L : Int)) = false := by simp
            have hc3 : ((t.length : Int) != (cyc L : Int)) = false := by rw [htl]; simp
            have hm3 : MsgsAt (w2.alloc (.cells #[Value.int .i64 0, Value.int .i64 0] 32)) g L := hm2.of_block (Below.heap_alloc w2 _ g hg2')
            have ht3 : IntsAt (w2.alloc (.cells #[Value.int .i64 0, Value.int .i64 0] 32)) tb t := hti.of_block (Below.heap_alloc w2 _ tb htb2)
            have hz3 : Hid (∀ j, (w2.alloc (.cells #[Value.int .i64 0, Value.int .i64 0] 32)).frozen? ⟨tb, j, none⟩ = false) := Lib.hid (fun j => (World.frozen?_of_block (a := ⟨tb, j, none⟩) (Below.heap_alloc w2 _ tb htb2)).trans (hfz j))
            have hb3 : Below w.heap.size w (w2.alloc (.cells #[Value.int .i64 0, Value.int .i64 0] 32)) := hbr2.alloc hs2 _
            have hg3 : g < (w2.alloc (.cells #[Value.int .i64 0, Value.int .i64 0] 32)).heap.size := by simp; omega
            have htb3 : tb < (w2.alloc (.cells #[Value.int .i64 0, Value.int .i64 0] 32)).heap.size := by simp; omega
            have hS := (Serves_any g gcap L hgood HNN.out tb tcap t htl htv (w2.alloc (.cells #[Value.int .i64 0, Value.int .i64 0] 32)) hm3 hg3 ht3 htb3)
            have HMD := Lib.hid hmade
            have hwb : w.heap.size ≤ tb := by have := hbr1.size; omega
            have hgb : g < tb := by omega
            clear htl har hidl hti hfz hmade hm2 hg2' hbr2 hs2 htb2
            go_wp2_with fail
            refine hS.mono ?_
            rintro e w3 ⟨⟨r, rfl, hr⟩, hbs⟩
            have hrt : r = true := hr.2 HAR.out
            subst hrt
            have hm4 : MsgsAt w3 g L := hm3.of_block (hbs.block g hg3)
            have ht4 : IntsAt w3 tb t := ht3.of_block (hbs.block tb htb3)
            have hz4 : Hid (∀ j, w3.frozen? ⟨tb, j, none⟩ = false) := Lib.hid (fun j => (World.frozen?_of_block (a := ⟨tb, j, none⟩) (hbs.block tb htb3)).trans (hz3.out j))
            have hb4 : Below w.heap.size w w3 := hb3.trans (hbs.mono hb3.size)
            have hg4 : g < w3.heap.size := Nat.lt_of_lt_of_le hg3 hbs.size
            have htb4 : tb < w3.heap.size := Nat.lt_of_lt_of_le htb3 hbs.size
            clear hr hS hm3 ht3 hz3 hb3 hg3 htb3 hbs
            go_wp2_with fail
            go_loopw [26, 28, 206] (fun nd _ i wr => ∃ s : Nat, s ≤ t.length ∧ i = .int .i64 (s : Int) ∧ nd = .int .i64 (idleN (t.take s) : Nat) ∧ wr = w3) (fun _ _ i _ => t.length - (intOf i).toNat)
            case atStart => exact ⟨0, Nat.zero_le _, rfl, rfl, rfl⟩
            case round =>
              obtain ⟨s, hs, rfl, rfl, rfl⟩ := hrel
              have hidn : idleN (t.take s) ≤ 200 := by
                have h1 := List.length_filter_le (fun x => decide (x = -1)) (t.take s)
                have h2 : (t.take s).length ≤ 200 := by rw [List.length_take]; omega
                unfold idleN; omega
              by_cases hst : s < t.length
              · obtain ⟨x, hx⟩ : ∃ x, t[s]? = some x := ⟨t[s], by simp [hst]⟩
                have hcx := ht4 s x hx
                have HI : Hid (idleN (t.take (s + 1)) = idleN (t.take s) + (if x = -1 then 1 else 0)) := Lib.hid (by rw [take_snoc' hx, idleN_snoc])
                generalize idleN (t.take s) = nd at *
                clear hx
                by_cases hx1 : x = -1
                · subst hx1
                  go_wp2
                  go_roundw
                  case rel => exact ⟨s + 1, by omega, by go_num, by rw [HI.out]; go_num, trivial⟩
                  case measure => simp [intOf]; omega
                · have hx2 : (x == -1) = false := by simp [hx1]
                  have HX := Lib.hid hx1
                  clear hx1
                  go_wp2
                  go_roundw
                  case rel => exact ⟨s + 1, by omega, by go_num, by rw [HI.out, if_neg HX.out]; rfl, trivial⟩
                  case measure => simp [intOf]; omega
              · have hse : s = t.length := by omega
                have HT : Hid (idleN (t.take s) = idleN t) := Lib.hid (by rw [hse, List.take_length])
                have hsn : ¬ (s : Int) < (t.length : Int) := by omega
                rw [HT.out] at hidn ⊢
                clear HT hse
                go_wp2_with fail
                obtain ⟨w4, rfl⟩ : ∃ w4 : World, w4 = wr := ⟨_, rfl⟩
                have hbb : Below w4.heap.size w4 w4 := Below.refl _ _
                go_loopw [29, 30, 31, 32, 34, 217] (fun _ _ _ _ _ i wx => ∃ k : Nat, k ≤ L.length ∧ i = .int .i64 (k : Int) ∧ Below w4.heap.size w4 wx) (fun _ _ _ _ _ i _ => L.length - (intOf i).toNat)
                case atStart => exact ⟨0, Nat.zero_le _, rfl, hbb⟩
                case round =>
                  obtain ⟨k, hk, rfl, hbel⟩ := hrel
                  by_cases hlt : k < L.length
                  · obtain ⟨m, hmk⟩ : ∃ m, L[k]? = some m := ⟨L[k], by simp [hlt]⟩
                    have hmem : m ∈ L := List.mem_of_getElem? hmk
                    have hp := hgood.p_le hmem
                    have hs := hgood.size m hmem
                    obtain ⟨q, hq⟩ := HC.out m hmem
                    have HQ := Lib.hid hq
                    have hce : ∀ o, wr.cell? ⟨g, o, none⟩ = w4.cell? ⟨g, o, none⟩ := fun o => hbel.cell (p := ⟨g, o, none⟩) hg4
                    obtain ⟨c0, c1, c2, c3⟩ := hm4 k m hmk
                    rw [← hce] at c0 c1 c2 c3
                    have HAK : Hid (∀ j, j < q → cntW t k (j * m.period) (j * m.period + m.period) (cyc L) = m.size) := Lib.hid (fun j hj => by
                      rw [← cntUp_W _ _ _ _ _ (by omega)]
                      exact HAR.out k m hmk j (by rw [hq, Nat.mul_div_cancel_left _ (by omega)]; exact hj))
                    have hB := Blk.new wr #[Value.string m.name, Value.int .i64 m.size, Value.int .i64 m.period, Value.int .i64 m.period] 28
                    have hbel4 := hbel.alloc hbel.size (.cells #[Value.string m.name, Value.int .i64 m.size, Value.int .i64 m.period, Value.int .i64 m.period] 28)
                    clear hq hce hmk
                    obtain ⟨wo, rfl⟩ : ∃ wo : World, wo = wr := ⟨_, rfl⟩
                    go_wp2
                    go_loopw [31, 32, 34] (fun r _ _ wx => ∃ j : Nat, j ≤ q ∧ r = .int .i64 ((j * m.period : Nat) : Int) ∧ Below w4.heap.size w4 wx ∧ Blk wx wo.heap.size #[Value.string m.name, Value.int .i64 m.size, Value.int .i64 m.period, Value.int .i64 m.period] 28) (fun r _ _ _ => cyc L - (intOf r).toNat)
                    case atStart => exact ⟨0, Nat.zero_le _, by simp, hbel4, hB⟩
                    case round =>
                      obtain ⟨j, hj, rfl, hbx, hBx⟩ := hrel
                      have hjp : j * m.period ≤ cyc L := by rw [HQ.out, Nat.mul_comm m.period]; exact Nat.mul_le_mul_right _ hj
                      by_cases hjq : j < q
                      · have hjq2 : j * m.period + m.period ≤ t.length := by
                          have h1 : (j + 1) * m.period ≤ q * m.period := Nat.mul_le_mul_right _ hjq
                          have h2 := HQ.out
                          have h3 := HTL.out
                          rw [Nat.succ_mul] at h1
                          rw [Nat.mul_comm] at h2
                          omega
                        have d1 := hBx.cell 1 rfl
                        have d2 := hBx.cell 2 rfl
                        have HJ : Hid ((j + 1) * m.period = j * m.period + m.period) := Lib.hid (Nat.succ_mul ..)
                        have HAJ : Hid (cntW t k (j * m.period) (j * m.period + m.period) (cyc L) = m.size) := Lib.hid (HAK.out j hjq)
                        have hlt2 : ((j * m.period : Nat) : Int) < (cyc L : Int) := by have := HTL.out; omega
                        generalize hjm : j * m.period = jp at *
                        have HJP := Lib.hid hjm
                        clear hjm
                        have HC0 : Hid (cntW t k jp (jp + m.period) jp = 0) := Lib.hid (cntW_zero t k jp (jp + m.period) jp (Nat.le_refl _))
                        obtain ⟨w5, rfl⟩ : ∃ w5 : World, w5 = wr := ⟨_, rfl⟩
                        have htx : IntsAt w5 tb t := ht4.of_block (hbx.block tb htb4)
                        go_wp2
                        go_loopw [32, 34, 237] (fun n _ o wx => ∃ s : Nat, s ≤ m.period ∧ o = .int .i64 (s : Int) ∧ n = .int .i64 (cntW t k jp (jp + m.period) (jp + s) : Nat) ∧ wx = w5) (fun _ _ o _ => m.period - (intOf o).toNat)
                        case atStart => exact ⟨0, Nat.zero_le _, rfl, by rw [Nat.add_zero, HC0.out]; rfl, rfl⟩
                        case round =>
                          obtain ⟨s, hs', rfl, rfl, rfl⟩ := hrel
                          have hcn : cntW t k jp (jp + m.period) (jp + s) ≤ jp + s := by
                            have := List.length_filter_le (fun s => decide (jp ≤ s) && decide (s < jp + m.period) && decide (t[s]? = some (k : Int))) (List.range (jp + s))
                            simpa [cntW] using this
                          by_cases hsp : s < m.period
                          · obtain ⟨x, hx⟩ : ∃ x, t[jp + s]? = some x := ⟨t[jp + s]'(by omega), by simp⟩
                            have hcx := htx (jp + s) x hx
                            have HS : Hid (cntW t k jp (jp + m.period) (jp + (s + 1)) = cntW t k jp (jp + m.period) (jp + s) + (if x = (k : Int) then 1 else 0)) := Lib.hid (by
                              rw [← Nat.add_assoc, cntW_succ, hx]
                              by_cases hxk : x = (k : Int)
                              · rw [if_pos ⟨by omega, by omega, by rw [hxk]⟩, if_pos hxk]
                              · rw [if_neg (by rintro ⟨_, _, h⟩; injection h; omega), if_neg hxk])
                            generalize cntW t k jp (jp + m.period) (jp + s) = cn at *
                            clear hx
                            by_cases hxk : x = (k : Int)
                            · have hxb : (x == (k : Int)) = true := by simp [hxk]
                              have HX := Lib.hid hxk
                              clear hxk
                              go_wp2
                              go_roundw
                              case rel => exact ⟨s + 1, by omega, by go_num, by rw [HS.out, if_pos HX.out]; go_num, trivial⟩
                              case measure => simp [intOf]; omega
                            · have hxb : (x == (k : Int)) = false := by simp [hxk]
                              have HX := Lib.hid hxk
                              clear hxk
                              go_wp2
                              go_roundw
                              case rel => exact ⟨s + 1, by omega, by go_num, by rw [HS.out, if_neg HX.out]; rfl, trivial⟩
                              case measure => simp [intOf]; omega
                          · have hse : s = m.period := by omega
                            have HSE : Hid (cntW t k jp (jp + m.period) (jp + s) = m.size) := Lib.hid (by
                              rw [hse, ← HAJ.out]
                              exact (cntW_after t k jp (jp + m.period) (cyc L) (by have := HTL.out; omega)).symm)
                            rw [HSE.out] at hcn ⊢
                            have hsn : ¬ (s : Int) < (m.period : Int) := by omega
                            have hcs : ((m.size : Int) != (m.size : Int)) = false := by simp
                            clear hse
                            go_wp2
                            go_roundw
                            case rel => exact ⟨j + 1, by omega, by rw [HJ.out]; go_num, hbx, hBx⟩
                            case measure => simp [intOf]; omega
                      · have hge : ¬ ((j * m.period : Nat) : Int) < (cyc L : Int) := by rw [show j = q by omega, HQ.out, Nat.mul_comm]; omega
                        generalize hjm : j * m.period = jp at *
                        clear hjm
                        go_wp2
                        go_roundw
                        case rel => exact ⟨k + 1, by omega, by go_num, hbx⟩
                        case measure => simp [intOf]; omega
                  · have hkn : ¬ (k : Int) < (L.length : Int) := by omega
                    have htx : IntsAt wr tb t := ht4.of_block (hbel.block tb htb4)
                    have hmx : MsgsAt wr g L := hm4.of_block (hbel.block g hg4)
                    have hzx : Hid (∀ j, wr.frozen? ⟨tb, j, none⟩ = false) := Lib.hid (fun j => (World.frozen?_of_block (a := ⟨tb, j, none⟩) (hbel.block tb htb4)).trans (hz4.out j))
                    have hbx := hb4.trans (hbel.mono hb4.size)
                    have hgx := Nat.lt_of_lt_of_le hg4 hbel.size
                    have htbx := Nat.lt_of_lt_of_le htb4 hbel.size
                    clear hbel hbb hm4 ht4 hz4 hb4 hg4 htb4
                    go_wp2_with fail
                    obtain ⟨w5, rfl⟩ : ∃ w5 : World, w5 = wr := ⟨_, rfl⟩
                    go_loopw [35, 36, 254] (fun _ _ i wx => ∃ s : Nat, s ≤ t.length ∧ i = .int .i64 (s : Int) ∧ wx = w5 ∧ Hid (∀ (s' : Nat) (x : Int), s' < s → t[s']? = some x → x < 0)) (fun _ _ i _ => t.length - (intOf i).toNat)
                    case atStart => exact ⟨0, Nat.zero_le _, rfl, rfl, Lib.hid (fun s' x h => by omega)⟩
                    case round =>
                      obtain ⟨s, hs, rfl, rfl, hneg⟩ := hrel
                      by_cases hst : s < t.length
                      · obtain ⟨x, hx⟩ : ∃ x, t[s]? = some x := ⟨t[s], by simp [hst]⟩
                        have hcx := htx s x hx
                        by_cases hx0 : 0 ≤ x
                        · have hfz := hzx.out s
                          have HNO := Lib.hid (plain_less hgood HTL.out htv HAR.out hx hx0)
                          have htv2 : ∀ y ∈ t.set s (-1), y = -1 ∨ (0 ≤ y ∧ y < L.length) := fun y hy => by
                            rcases List.mem_or_eq_of_mem_set hy with h | h
                            · exact htv y h
                            · exact .inl h
                          have hbx5 := hbx.setCell (p := ⟨tb, s, none⟩) hwb (.int .i64 (-1))
                          have hm6 : MsgsAt (wr.setCell ⟨tb, s, none⟩ (.int .i64 (-1))) g L := hmx.of_block (Below.heap_setCell wr ⟨tb, s, none⟩ _ g (by simp; omega))
                          have ht6 : IntsAt (wr.setCell ⟨tb, s, none⟩ (.int .i64 (-1))) tb (t.set s (-1)) := by
                            intro s' y hy
                            by_cases hss : s' = s
                            · subst hss
                              rw [List.getElem?_set_self hst] at hy
                              cases hy
                              exact World.cell?_setCell_same _ _ _ hcx
                            · rw [List.getElem?_set_ne (Ne.symm hss)] at hy
                              rw [World.cell?_setCell_other _ _ _ _ (by intro h; injection h; omega)]
                              exact htx s' y hy
                          have hsz : (wr.setCell ⟨tb, s, none⟩ (.int .i64 (-1))).heap.size = wr.heap.size := by simp [World.setCell]
                          have hS : Calls Tryd.prog 10 #[.slice (some ⟨g, 0, none⟩) L.length gcap, .slice (some ⟨tb, 0, none⟩) t.length tcap] (wr.setCell ⟨tb, s, none⟩ (.int .i64 (-1))) fun e w' => (∃ r : Bool, e = .returned (.bool r) ∧ (r = true ↔ AllRight L (cyc L) (t.set s (-1)))) ∧ Below (wr.setCell ⟨tb, s, none⟩ (.int .i64 (-1))).heap.size (wr.setCell ⟨tb, s, none⟩ (.int .i64 (-1))) w' := by
                            have := Serves_any g gcap L hgood HNN.out tb tcap (t.set s (-1)) (by rw [List.length_set]; exact HTL.out) htv2 _ hm6 (by rw [hsz]; exact hgx) ht6 (by rw [hsz]; exact htbx)
                            rwa [List.length_set] at this
                          have HS := Lib.hid hS
                          have hbx6 := hbx5.size
                          have hidb : ((idleN t : Int) == ((cyc L : Int) - (usedL (cyc L) L : Nat))) = true := by have := HID.out; simp; omega
                          clear hS hsz hm6 ht6 hx
                          go_wp2_with fail
                          refine HS.out.mono ?_
                          rintro e w7 ⟨⟨r, rfl, hr⟩, hb7⟩
                          have hrf : r = false := by
                            cases r with
                            | false => rfl
                            | true => exact absurd (hr.1 rfl) HNO.out
                          subst hrf
                          clear hr
                          go_wp2_with fail
                          go_ret
                          exact ⟨rfl, hbx5.trans (hb7.mono hbx6)⟩
                        · have HX := Lib.hid hx
                          clear hx
                          go_wp2
                          go_roundw
                          case rel =>
                            refine ⟨s + 1, by omega, by go_num, trivial, Lib.hid (fun s' y h1 h2 => ?_)⟩
                            by_cases hss : s' = s
                            · subst hss; rw [HX.out] at h2; cases h2; omega
                            · exact hneg.out s' y (by omega) h2
                          case measure => simp [intOf]; omega
                      · exfalso
                        obtain ⟨s', x, h1, h2⟩ := plain_some hgood HTL.out HAR.out
                        have h3 := (List.getElem?_eq_some_iff.1 h1).1
                        have := hneg.out s' x (by omega) h1
                        omega
          · have hug : (cyc L : Int) < (usedL (cyc L) L : Nat) := by omega
            obtain ⟨hno, hdem⟩ := plain_not hgood (by rw [HHN.out]; omega)
            have hW : ∃ a b : Nat, e = .returned (.tuple #[.slice none 0 0, .agg #[.int .i64 (a : Int), .int .i64 (b : Int)], .int .i64 7]) ∧ 1 ≤ b ∧ b ≤ cyc L ∧ a < b ∧ b - a < dem (jobsAll L) a b := by
              rcases hp with ⟨h, _⟩ | ⟨_, t, v, h, _⟩ | ⟨_, _, a, b, he, h⟩
              · have := HNN.out; omega
              · rw [hno] at h; cases h
              · refine ⟨a, b, he, ?_⟩
                rcases h with h | ⟨rfl, rfl, h⟩
                · exact h
                · have := h 0 (cyc L) hc1 (Nat.le_refl _) hc1; omega
            obtain ⟨a, b, rfl, hb1', hbc', hab, hba⟩ := hW
            clear hp hdem hno
            have hc2 : ((cyc L : Int) != (cyc L : Int)) = false := by simp
            have hB0 := Blk.new w2 #[Value.int .i64 (a : Int), Value.int .i64 (b : Int)] 32
            have HB0 := Lib.hid hB0
            have hce0 := hB0.cell 0 rfl
            have hce1 := hB0.cell 1 rfl
            clear hB0
            go_wp2_with fail
            refine wp_region_ord [(0, 0, 0), (1, 2, 1), (2, 0, 0), (3, 2, 4), (4, 0, 3), (5, 0, 31)] false (by kernel_rfl) (by kernel_rfl) ?_
            repeat (first | (refine tx_P rfl (fun K hK => ?_); go_simp; refine hK _ _ ?_; clear hK K) | (refine tx_L rfl (fun K hK => ?_); go_simp; refine hK _ _ ?_; clear hK K))
            refine tx_nil ?_
            have hm3 : MsgsAt (w2.alloc (.cells #[Value.int .i64 (a : Int), Value.int .i64 (b : Int)] 32)).drew g L := hm2.of_block (Below.heap_alloc w2 _ g hg2')
            have hb3 : Below w.heap.size w (w2.alloc (.cells #[Value.int .i64 (a : Int), Value.int .i64 (b : Int)] 32)).drew := (hbr2.alloc hs2 _).drew
            have hg3 : g < (w2.alloc (.cells #[Value.int .i64 (a : Int), Value.int .i64 (b : Int)] 32)).drew.heap.size := by show g < (w2.alloc _).heap.size; simp; omega
            generalize (w2.alloc (.cells #[Value.int .i64 (a : Int), Value.int .i64 (b : Int)] 32)).drew = w3 at *
            clear hce0 hce1 HB0
            have hDU : ∀ k, dem (jobsUpTo (cyc L) L k) a b ≤ 1600 ∨ L.length < k := fun k => by
              rcases Nat.lt_or_ge L.length k with h | h
              · exact .inr h
              · have h1 := dem_upTo (cyc L) L HC.out hgood.p_pos a b k h
                have h2 := usedL_le (cyc L) (L.take k) (fun m hm => (hgood.size m (List.mem_of_mem_take hm)).2)
                have h3 : (L.take k).length ≤ 8 := by rw [List.length_take]; omega
                have h4 : usedL (cyc L) (L.take k) ≤ 8 * 200 := Nat.le_trans h2 (Nat.mul_le_mul h3 hc200)
                have h5 : cyc L * dem (jobsUpTo (cyc L) L k) a b ≤ cyc L * 1600 := by
                  rw [Nat.mul_comm (cyc L) 1600]
                  exact Nat.le_trans h1 (Nat.mul_le_mul h4 (by omega))
                exact .inl (Nat.le_of_mul_le_mul_left h5 hc1)
            have HDU := Lib.hid hDU
            have HJA : Hid (jobsAll L = jobsUpTo (cyc L) L L.length) := Lib.hid rfl
            have HBA := Lib.hid hba
            clear hDU hba
            have hbw3 : Below w3.heap.size w3 w3 := Below.refl _ _
            go_wp2_with fail
            go_loopw [22, 24, 25, 140] (fun nd _ _ i wr => ∃ k : Nat, k ≤ L.length ∧ i = .int .i64 (k : Int) ∧ nd = .int .i64 (dem (jobsUpTo (cyc L) L k) a b : Nat) ∧ Below w3.heap.size w3 wr) (fun _ _ _ i _ => L.length - (intOf i).toNat)
            case atStart => exact ⟨0, Nat.zero_le _, rfl, rfl, hbw3⟩
            case round =>
              obtain ⟨k, hk, rfl, rfl, hbel⟩ := hrel
              have hdu : dem (jobsUpTo (cyc L) L k) a b ≤ 1600 := by
                rcases HDU.out k with h | h
                · exact h
                · omega
              by_cases hlt : k < L.length
              · obtain ⟨m, hmk⟩ : ∃ m, L[k]? = some m := ⟨L[k], by simp [hlt]⟩
                have hmem : m ∈ L := List.mem_of_getElem? hmk
                have hp := hgood.p_le hmem
                have hs := hgood.size m hmem
                obtain ⟨q, hq⟩ := HC.out m hmem
                have HQ := Lib.hid hq
                have hce : ∀ o, wr.cell? ⟨g, o, none⟩ = w3.cell? ⟨g, o, none⟩ := fun o => hbel.cell (p := ⟨g, o, none⟩) hg3
                obtain ⟨c0, c1, c2, c3⟩ := hm3 k m hmk
                rw [← hce] at c0 c1 c2 c3
                have HDN : Hid (dem (jobsUpTo (cyc L) L (k + 1)) a b = dem (jobsUpTo (cyc L) L k) a b + m.size * inN m.period a b q) := Lib.hid (by
                  rw [jobsUpTo_next _ hmk, dem_append, dem_of, hq, Nat.mul_div_cancel_left _ (by omega)])
                have hB := Blk.new wr #[Value.string m.name, Value.int .i64 m.size, Value.int .i64 m.period, Value.int .i64 m.period] 28
                have hbel4 := hbel.alloc hbel.size (.cells #[Value.string m.name, Value.int .i64 m.size, Value.int .i64 m.period, Value.int .i64 m.period] 28)
                generalize dem (jobsUpTo (cyc L) L k) a b = du at *
                clear hq hce hmk
                obtain ⟨wo, rfl⟩ : ∃ wo : World, wo = wr := ⟨_, rfl⟩
                go_wp2
                go_loopw [22, 25] (fun nd r wx => ∃ j : Nat, j ≤ q ∧ r = .int .i64 ((j * m.period : Nat) : Int) ∧ nd = .int .i64 ((du + m.size * inN m.period a b j : Nat) : Int) ∧ Below w3.heap.size w3 wx ∧ Blk wx wo.heap.size #[Value.string m.name, Value.int .i64 m.size, Value.int .i64 m.period, Value.int .i64 m.period] 28) (fun _ r _ => cyc L - (intOf r).toNat)
                case atStart => exact ⟨0, Nat.zero_le _, by simp, by simp [inN], hbel4, hB⟩
                case round =>
                  obtain ⟨j, hj, rfl, rfl, hbx, hBx⟩ := hrel
                  have hjp : j * m.period ≤ cyc L := by rw [HQ.out, Nat.mul_comm m.period]; exact Nat.mul_le_mul_right _ hj
                  have hin : inN m.period a b j ≤ j := by
                    have := List.length_filter_le (fun q => decide (a ≤ q * m.period) && decide (q * m.period + m.period ≤ b)) (List.range j)
                    simpa [inN] using this
                  have hq200 : q ≤ 200 := by
                    have : q ≤ cyc L := by rw [HQ.out]; exact Nat.le_mul_of_pos_left _ (by omega)
                    omega
                  have hsn : m.size * inN m.period a b j ≤ 200 * 200 := Nat.mul_le_mul (by omega) (by omega)
                  by_cases hjq : j < q
                  · have hjq' : j * m.period < cyc L := by rw [HQ.out, Nat.mul_comm m.period]; exact Nat.mul_lt_mul_of_pos_right hjq (by omega)
                    have d1 := hBx.cell 1 rfl
                    have d2 := hBx.cell 2 rfl
                    have HJ : Hid ((j + 1) * m.period = j * m.period + m.period) := Lib.hid (Nat.succ_mul ..)
                    have HIN := Lib.hid (inN_succ m.period a b j)
                    have hlt2 : ((j * m.period : Nat) : Int) < (cyc L : Int) := by omega
                    generalize hjm : j * m.period = jp at *
                    have HJP := Lib.hid hjm
                    clear hjm
                    by_cases g1 : a ≤ jp
                    · have g1' : (a : Int) ≤ (jp : Int) := by omega
                      by_cases g2 : jp + m.period ≤ b
                      · have g2' : (jp : Int) + (m.period : Int) ≤ (b : Int) := by omega
                        have HV : Hid (m.size * inN m.period a b (j + 1) = m.size * inN m.period a b j + m.size) := Lib.hid (by
                          rw [HIN.out, if_pos ⟨g1, g2⟩, Nat.mul_add, Nat.mul_one])
                        generalize m.size * inN m.period a b j = mz at *
                        go_wp2
                        go_roundw
                        case rel => exact ⟨j + 1, by omega, by rw [HJ.out]; go_num, by rw [HV.out]; go_num, hbx, hBx⟩
                        case measure => simp [intOf]; omega
                      · have g2' : ¬ (jp : Int) + (m.period : Int) ≤ (b : Int) := by omega
                        have HV : Hid (m.size * inN m.period a b (j + 1) = m.size * inN m.period a b j) := Lib.hid (by
                          rw [HIN.out, if_neg (by omega), Nat.add_zero])
                        generalize m.size * inN m.period a b j = mz at *
                        go_wp2
                        go_roundw
                        case rel => exact ⟨j + 1, by omega, by rw [HJ.out]; go_num, by rw [HV.out], hbx, hBx⟩
                        case measure => simp [intOf]; omega
                    · have g1' : ¬ (a : Int) ≤ (jp : Int) := by omega
                      have HV : Hid (m.size * inN m.period a b (j + 1) = m.size * inN m.period a b j) := Lib.hid (by
                        rw [HIN.out, if_neg (by omega), Nat.add_zero])
                      generalize m.size * inN m.period a b j = mz at *
                      go_wp2
                      go_roundw
                      case rel => exact ⟨j + 1, by omega, by rw [HJ.out]; go_num, by rw [HV.out], hbx, hBx⟩
                      case measure => simp [intOf]; omega
                  · have hjq' : j = q := by omega
                    have HJQ := Lib.hid hjq'
                    have hge : ¬ ((j * m.period : Nat) : Int) < (cyc L : Int) := by rw [hjq', HQ.out, Nat.mul_comm]; omega
                    clear hjq'
                    generalize hjm : j * m.period = jp at *
                    clear hjm
                    go_wp2
                    go_roundw
                    case rel => exact ⟨k + 1, by omega, by go_num, by rw [HDN.out, HJQ.out], hbx⟩
                    case measure => simp [intOf]; omega
              · have hke : k = L.length := by omega
                have HDK : Hid (dem (jobsUpTo (cyc L) L k) a b = dem (jobsAll L) a b) := Lib.hid (by rw [hke]; rfl)
                have hkn : ¬ (k : Int) < (L.length : Int) := by omega
                have hnd : ((b : Int) - (a : Int)) < (dem (jobsUpTo (cyc L) L k) a b : Nat) := by have := HDK.out; have := HBA.out; omega
                clear hke
                generalize dem (jobsUpTo (cyc L) L k) a b = du at *
                have hdz : decide ((b : Int) - (a : Int) < (du : Int)) = true := by simp only [decide_eq_true_eq]; exact hnd
                go_wp2
                go_ret
                exact ⟨rfl, hb3.trans (hbel.mono hb3.size)⟩
        · have hng : (256 : Int) < (njobs (cyc L) L : Nat) := by omega
          have hcr := cycRes_no hn
          have hC : Calls Tryd.prog 8 #[.slice (some ⟨g, 0, none⟩) L.length gcap] wr fun e w' => e = .returned (.tuple #[.int .i64 0, .int .i64 3]) ∧ Below wr.heap.size wr w' := (Cycle_any g gcap L hgood wr hmr hgr).mono fun e w' h => by rwa [hcr] at h
          have HNN := Lib.hid hn
          clear hcr hn
          refine hC.mono ?_
          rintro e w1 ⟨rfl, hb1⟩
          have hm1 : MsgsAt w1 g L := hmr.of_block (hb1.block g hgr)
          have hg1' : g < w1.heap.size := Nat.lt_of_lt_of_le hgr hb1.size
          have hbr1 := hbr.trans (hb1.mono hsr)
          clear hC
          go_wp2_with fail
          refine (Schedule_any g gcap L hgood w1 hm1 hg1').mono ?_
          rintro e w2 ⟨hp, hb2⟩
          have hm2 : MsgsAt w2 g L := hm1.of_block (hb2.block g hg1')
          have hg2' : g < w2.heap.size := Nat.lt_of_lt_of_le hg1' hb2.size
          have hbr2 := hbr1.trans (hb2.mono hbr1.size)
          rcases hp with ⟨_, rfl⟩ | ⟨h, _⟩ | ⟨h, _⟩
          · go_wp2_with fail
            refine (Serves_long g gcap L hgood HNN.out _ _ (hm2.of_block (Below.heap_alloc w2 _ g hg2')) (by simp; omega)).mono ?_
            rintro e w3 ⟨rfl, hb3⟩
            go_wp2_with fail
            go_ret
            exact ⟨rfl, (hbr2.alloc hbr2.size _).trans (hb3.mono (by simp; have := hbr2.size; omega))⟩
          · exact absurd h HNN.out
          · exact absurd h HNN.out
  case first =>
    go_wp2_with fail
    go_loopw [5, 6, 9, 10, 11, 12] (fun v c i _ _ _ wr => ∃ k : Nat, k ≤ busN ps ∧ i = .int .i64 k ∧ c = .int .i64 (cyc (busL ps ss k) : Nat) ∧ wr.ownsRow w.heap.size 28 4 v k (cellsM (busL ps ss k)) ∧ Below w.heap.size w wr) (fun _ _ i _ _ _ _ => busN ps - (intOf i).toNat)
    case atStart => exact ⟨0, Nat.zero_le _, rfl, rfl, World.ownsRow_nil _ _ _ _, Below.refl _ _⟩
    case round =>
      obtain ⟨k, hk, rfl, rfl, hown, hb⟩ := hrel
      by_cases hlt : k < busN ps
      · have hkn : (k : Int) < (busN ps : Int) := by omega
        have hW1 := hb.alloc hb.size (.cells busCells 3)
        have hs1 := hW1.size
        have hd11 : dig ps k 11 < 11 := Nat.mod_lt _ (by omega)
        have hTab := (Blk.new wr busCells 3).cell (dig ps k 11) (busCells_at ps k)
        obtain ⟨hp1, hp2, hp3⟩ := busP_in ps k
        have hU0 := H0.out.below hW1
        have hU1 := H1.out.below hW1
        have HTab := Lib.hid hTab
        clear hTab
        go_wp2_with fail
        refine (digit_any _ ps k 11 _ hU0 (by omega) (by omega) (by omega)).mono ?_
        rintro e w' ⟨rfl, rfl⟩
        have hTab := HTab.out
        change (World.alloc wr (.cells _ 3)).cell? _ = _ at hTab
        go_wp2_with fail
        refine (Itoa_digit k (by omega) _).mono ?_
        rintro e w' ⟨rfl, rfl⟩
        go_wp2_with fail
        refine (digit_any _ ss k (busP ps k) _ hU1 (by omega) (by omega) (by omega)).mono ?_
        rintro e w' ⟨rfl, rfl⟩
        have hdg := Nat.mod_lt (ss.getD k 0) hp1
        have hdl : dig ss k (busP ps k) < busP ps k := hdg
        have hown1 := hown.alloc (.cells busCells 3)
        have hcl := Nat.le_of_dvd (by omega) (cyc_dvd (busL ps ss k) (fun m hm => by
          obtain ⟨i, _, rfl⟩ := List.mem_map.1 hm
          exact (busP_in ps i).2.2))
        have HC : Hid (cyc (busL ps ss (k + 1)) = Nat.lcm (cyc (busL ps ss k)) (busP ps k)) := Lib.hid (by rw [busL_succ, cyc_snoc]; rfl)
        have HCp : Hid (0 < cyc (busL ps ss k)) := Lib.hid (Nat.pos_of_dvd_of_pos (cyc_dvd (busL ps ss k) (fun m hm => by
          obtain ⟨i, _, rfl⟩ := List.mem_map.1 hm
          exact (busP_in ps i).2.2)) (by omega))
        have HL : Hid (cellsM (busL ps ss (k + 1)) = cellsM (busL ps ss k) ++ [.string (dname k), .int .i64 (1 + (dig ss k (busP ps k) : Int)), .int .i64 (busP ps k : Int), .int .i64 (busP ps k : Int)]) := Lib.hid (by
          rw [busL_succ, cellsM_snoc]; simp [msgCells, busM])
        generalize hcc : cyc (busL ps ss k) = cy at *
        clear hcc
        generalize hpp : busP ps k = p at *
        generalize hdd : dig ss k p = dg at *
        generalize dig ps k 11 = d11 at *
        clear HTab hdg hpp hdd hTab
        obtain ⟨wo, rfl⟩ : ∃ wo : World, wo = wr := ⟨_, rfl⟩
        go_wp2_with (at_builtin; refine append_oneB w.heap.size rfl (.tmp 51) (.tmp 62) _ _ _ 4 40 (by exact rfl) Tryd.underlying23 Tryd.info28' rfl (by decide) _ _ _ [_, _, _, _] (by exact rfl) (wo.heap.size + 1) (by simp) (by exact rfl) rfl (by simp [Value.oneCell']) hown1 hW1 (by omega) (by unfold maxLen; omega) (by omega) ?_; intro g gcap w3 hown3 hb3 hgr3 hor3 hg3 hlt3)
        go_loopw [11, 12] (fun a b wx => ∃ x y : Nat, x ≤ 1000 ∧ y ≤ 1000 ∧ a = .int .i64 (x : Int) ∧ b = .int .i64 (y : Int) ∧ Hid (Nat.gcd x y = Nat.gcd cy p) ∧ Hid (wx.ownsRow w.heap.size 28 4 (.slice (some ⟨g, 0, none⟩) (k + 1) gcap) (k + 1) (cellsM (busL ps ss k) ++ [.string (dname k), .int .i64 (1 + (dg : Int)), .int .i64 (p : Int), .int .i64 (p : Int)])) ∧ Below w.heap.size w wx) (fun _ b _ => (intOf b).toNat)
        case atStart => exact ⟨cy, p, by omega, by omega, rfl, rfl, Lib.hid rfl, Lib.hid hown3, hb3⟩
        case round =>
          obtain ⟨x, y, hx, hy, rfl, rfl, hxy, how, hbx⟩ := hrel
          by_cases hy0 : y = 0
          · subst hy0
            have hz : ((((0 : Nat) : Int)) != 0) = false := by simp
            have hxe : x = Nat.gcd cy p := by have := hxy.out; simpa using this
            obtain ⟨q, hq1, hlcm, hql⟩ := lcm_parts cy p HCp.out
            have hgp : 0 < Nat.gcd cy p := Nat.gcd_pos_of_pos_left _ HCp.out
            have hqe : (cy : Int) / (x : Int) = (q : Int) := by rw [hxe, ← Int.natCast_ediv, hq1]
            have hqpl : q * p ≤ 200 * 100 := Nat.mul_le_mul (by omega) (by omega)
            have hw1 : IntKind.i64.wrap ((cy : Int) / (x : Int)) = (q : Int) := by rw [hqe]; exact IntWalk.i64_in _ (by omega)
            have hw2 : IntKind.i64.wrap ((q : Int) * (p : Int)) = ((q * p : Nat) : Int) := by rw [← Int.natCast_mul]; exact IntWalk.i64_in _ (by omega)
            have hx0 : ¬ x = 0 := by omega
            have HLC := Lib.hid hlcm
            clear hlcm hqe hq1 hxe
            go_wp2
            go_roundw
            case rel => exact ⟨k + 1, by omega, by go_num, by rw [HC.out, ← HLC.out]; go_num, by rw [HL.out]; exact how.out, hbx⟩
            case measure => simp [intOf]; omega
          · have hz : (((y : Int)) != 0) = true := by simp; omega
            have hy1 : 1 ≤ y := by omega
            have hm := Nat.mod_lt x hy1
            have htm : (x : Int).tmod (y : Int) = (x : Int) % (y : Int) := Int.tmod_eq_emod_of_nonneg (by omega)
            go_wp2
            refine wp_region_ord [(0, 0, 0), (1, 0, 0), (2, 0, 0), (3, 0, 6), (4, 0, 3), (5, 0, 31)] false (by kernel_rfl) (by kernel_rfl) ?_
            repeat (first | (refine tx_P rfl (fun K hK => ?_); go_simp; refine hK _ _ ?_; clear hK K))
            refine tx_nil ?_
            go_wp2
            go_roundw
            case rel => exact ⟨y, x % y, hy, by omega, rfl, by simp, Lib.hid (by rw [← hxy.out, Nat.gcd_comm x y, Nat.gcd_rec y x, Nat.gcd_comm]), Lib.hid how.out, hbx.drew⟩
            case measure => simp [intOf]; omega
      · have hke : k = busN ps := by omega
        have hkn : ¬ (k : Int) < (busN ps : Int) := by omega
        have hv : ∃ g gcap, u5 = .slice (some ⟨g, 0, none⟩) k gcap ∧ w.heap.size ≤ g ∧ g < wr.heap.size := by
          rcases hown.2 with ⟨_, h0⟩ | ⟨g, gc, cur, hv, hbg, hh, _⟩
          · omega
          · exact ⟨g, gc, hv, hbg, (Array.getElem?_eq_some_iff.1 hh).1⟩
        obtain ⟨g, gcap, rfl, hg1, hg2⟩ := hv
        have HKE := Lib.hid hke
        clear hke
        go_wp2
        go_meet
        have hke := HKE.out
        subst hke
        exact ⟨g, gcap, rfl, rfl, msgsAt_own_busL hown, hg1, hg2, hb⟩
end Go.Proofs.YtempbknidpmncaaDoor
