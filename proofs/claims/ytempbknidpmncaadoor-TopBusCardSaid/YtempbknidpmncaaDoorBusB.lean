/-
  TopBus: the walks of jobs, waiting and made.
-/
import Derived.Test.YtempbknidpmncaaDoorBusA
namespace Go.Proofs.YtempbknidpmncaaDoor
open Go.RowKit

structure Job where
  msg : Nat
  fr : Nat
  en : Nat
  left : Nat
def jobCells (j : Job) : List Value := [.int .i64 j.msg, .int .i64 j.fr, .int .i64 j.en, .int .i64 j.left]
def cellsJ (js : List Job) : List Value := js.flatMap jobCells
def jobOf (i : Nat) (m : Msg) (j : Nat) : Job := ⟨i, j * m.period, j * m.period + m.period, m.size⟩
def msg0 : Msg := ⟨⟨#[]⟩, 0, 0⟩
def jobsOf (c : Nat) (l : List Msg) (i : Nat) : List Job := (List.range (c / (l.getD i msg0).period)).map (jobOf i (l.getD i msg0))
def jobsUpTo (c : Nat) (l : List Msg) (k : Nat) : List Job := (List.range k).flatMap (jobsOf c l)

theorem jobsUpTo_succ (c : Nat) (l : List Msg) (k : Nat) : jobsUpTo c l (k + 1) = jobsUpTo c l k ++ jobsOf c l k := by
  simp [jobsUpTo, List.range_succ, List.flatMap_append]
theorem cellsJ_append (a b : List Job) : cellsJ (a ++ b) = cellsJ a ++ cellsJ b := by simp [cellsJ]
theorem cellsJ_length (a : List Job) : (cellsJ a).length = a.length * 4 := by
  induction a with
  | nil => rfl
  | cons x a ih => simp only [cellsJ, List.flatMap_cons, List.length_append, List.length_cons] at *; rw [ih]; simp [jobCells]; omega
theorem jobsUpTo_length (c : Nat) (l : List Msg) : ∀ k, k ≤ l.length → (jobsUpTo c l k).length = njobs c (l.take k)
  | 0, _ => by simp [jobsUpTo, njobs]
  | k + 1, h => by
    have hk : l[k]? = some l[k] := by simp
    rw [jobsUpTo_succ, List.length_append, jobsUpTo_length c l k (by omega), take_snoc' hk, njobs_snoc]
    simp [jobsOf, List.getD, hk]

theorem Tryd.info132' : (Tryd.prog.info? 132).map (fun i => (i.zero, i.size, i.bytes)) = some (some (.agg #[(.int .i64 0), (.int .i64 0), (.int .i64 0), (.int .i64 0)]), 4, 32) := by kernel_rfl

set_option maxHeartbeats 400000 in
theorem jobs_any (b cap : Nat) (l : List Msg) (hg : Good l) (c : Nat) (hc200 : c ≤ 200) (hdv : ∀ m ∈ l, m.period ∣ c) (w : World) (hm : MsgsAt w b l) (hbw : b < w.heap.size) :
    Calls Tryd.prog 27 #[.slice (some ⟨b, 0, none⟩) l.length cap, .int .i64 c] w fun e w' => (∃ v, e = .returned v ∧ w'.ownsRow w.heap.size 132 4 v (jobsUpTo c l l.length).length (cellsJ (jobsUpTo c l l.length))) ∧ Below w.heap.size w w' := by
  have hl8 := hg.len
  go_enter Tryd.func27, Tryd.ntmps27
  go_wp2
  go_loopw [5, 8, 11] (fun v _ i wr => ∃ k : Nat, k ≤ l.length ∧ i = .int .i64 k ∧ wr.ownsRow w.heap.size 132 4 v (jobsUpTo c l k).length (cellsJ (jobsUpTo c l k)) ∧ Below w.heap.size w wr) (fun _ _ i _ => l.length - (intOf i).toNat)
  case atStart => exact ⟨0, Nat.zero_le _, rfl, World.ownsRow_nil _ _ _ _, Below.refl _ _⟩
  case round =>
    obtain ⟨k, hk, rfl, hown, hb⟩ := hrel
    by_cases hlt : k < l.length
    · obtain ⟨m, hmk⟩ : ∃ m, l[k]? = some m := ⟨l[k], by simp [hlt]⟩
      have hmem : m ∈ l := List.mem_of_getElem? hmk
      have hp := hg.p_le hmem
      have hs := hg.size m hmem
      have hc : ∀ o, wr.cell? ⟨b, o, none⟩ = w.cell? ⟨b, o, none⟩ := fun o => hb.cell (p := ⟨b, o, none⟩) hbw
      obtain ⟨c0, c1, c2, c3⟩ := hm k m hmk
      rw [← hc] at c0 c1 c2 c3
      have hgd : l.getD k msg0 = m := by simp [List.getD, hmk]
      have HG := Lib.hid hgd
      clear hc hmk hgd
      obtain ⟨q, hq⟩ := hdv m hmem
      have HQ := Lib.hid hq; clear hq
      have hbs := hb.size
      go_wp2
      go_loopw [5, 8] (fun v r wx => ∃ j : Nat, j ≤ q ∧ r = .int .i64 ((j * m.period : Nat) : Int) ∧ wx.ownsRow w.heap.size 132 4 v ((jobsUpTo c l k).length + j) (cellsJ (jobsUpTo c l k ++ (List.range j).map (jobOf k m))) ∧ Below w.heap.size w wx ∧ Blk wx wr.heap.size #[Value.string m.name, Value.int .i64 m.size, Value.int .i64 m.period, Value.int .i64 m.period] 28) (fun _ r _ => c - (intOf r).toNat)
      case atStart => exact ⟨0, Nat.zero_le _, by simp, by simpa using hown.alloc _, hb.alloc hb.size _, Blk.new _ _ _⟩
      case round =>
        obtain ⟨j, hj, rfl, hown2, hb2, hB⟩ := hrel
        have hjp : j * m.period ≤ c := by rw [HQ.out, Nat.mul_comm m.period]; exact Nat.mul_le_mul_right _ hj
        have hlen : (jobsUpTo c l k).length ≤ 1600 := by
          rw [jobsUpTo_length c l k (by omega)]
          have h1 := njobs_le c (l.take k)
          have h2 : (l.take k).length ≤ 8 := by simp; omega
          exact Nat.le_trans h1 (Nat.le_trans (Nat.mul_le_mul h2 hc200) (by omega))
        by_cases hjq : j < q
        · have hjq' : j * m.period < c := by rw [HQ.out, Nat.mul_comm m.period]; exact Nat.mul_lt_mul_of_pos_right hjq (by omega)
          have hq200 : q ≤ 200 := by
            have : q ≤ c := by rw [HQ.out]; exact Nat.le_mul_of_pos_left _ (by omega)
            omega
          have d1 := hB.cell 1 rfl
          have d2 := hB.cell 2 rfl
          have d3 := hB.cell 3 rfl
          have hlt2 : ((j * m.period : Nat) : Int) < (c : Int) := by omega
          have hbs2 := hb2.size
          have hsucc : (j + 1) * m.period = j * m.period + m.period := Nat.succ_mul ..
          have HJ := Lib.hid hsucc; clear hsucc
          have HR : Hid (cellsJ (jobsUpTo c l k ++ (List.range (j + 1)).map (jobOf k m)) = cellsJ (jobsUpTo c l k ++ (List.range j).map (jobOf k m)) ++ [.int .i64 (k : Int), .int .i64 ((j * m.period : Nat) : Int), .int .i64 (((j * m.period : Nat) : Int) + (m.period : Int)), .int .i64 (m.size : Int)]) := Lib.hid (by
            rw [List.range_succ, List.map_append, ← List.append_assoc, cellsJ_append _ (List.map _ _)]; simp [cellsJ, jobCells, jobOf])
          generalize hjm : j * m.period = jp at *
          have HJP := Lib.hid hjm; clear hjm
          have hne := ownBlock_ne hown2 hB (by decide)
          have HNE := Lib.hid hne; clear hne
          go_wp2_with (at_builtin; refine append_one w.heap.size rfl (.tmp 23) (.tmp 33) _ _ _ 4 32 (by exact rfl) Tryd.underlying86 Tryd.info132' rfl (by decide) _ _ _ [_, _, _, _] (by exact rfl) (by exact rfl) rfl (by simp [Value.oneCell']) hown2 hb2 (by omega) (by unfold maxLen; omega) (by omega) ?_; intro g gcap w3 hown3 hb3 hgr3 hor3 hg3 hlt3; have hB3 := hB.grown hgr3 HNE.out; have e2 := hB3.cell 2 rfl)
          go_roundw
          case rel =>
            refine ⟨j + 1, by omega, by rw [HJ.out]; go_num, ?_, hb3, hB3⟩
            rw [HR.out]; exact hown3
          case measure => simp [intOf]; omega
        · have hjq' : j = q := by omega
          have HJQ := Lib.hid hjq'
          have hge : ¬ ((j * m.period : Nat) : Int) < (c : Int) := by rw [hjq', HQ.out, Nat.mul_comm]; omega
          have HO : Hid (jobsUpTo c l (k + 1) = jobsUpTo c l k ++ (List.range j).map (jobOf k m)) := Lib.hid (by
            rw [jobsUpTo_succ]; congr 1; simp only [jobsOf, HG.out]; rw [HJQ.out, HQ.out, Nat.mul_div_cancel_left _ (by omega)])
          clear hjq'
          generalize hjm : j * m.period = jp at *
          clear hjm
          go_wp2
          go_roundw
          case rel =>
            refine ⟨k + 1, by omega, by go_num, ?_, hb2⟩
            rw [HO.out]; simpa using hown2
          case measure => simp [intOf]; omega
    · have hk' : k = l.length := by omega
      subst hk'
      go_wp2
      go_ret
      exact ⟨⟨_, rfl, hown⟩, hb⟩
end Go.Proofs.YtempbknidpmncaaDoor
