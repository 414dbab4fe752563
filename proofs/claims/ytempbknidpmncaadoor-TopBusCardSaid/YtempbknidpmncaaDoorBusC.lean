/-
  TopBus: the iterator over the jobs that wait, and made.
-/
import Derived.Test.YtempbknidpmncaaDoorBusB
import Derived.Shelf.RegionOpen
import Derived.Test.YtempbknidpmncaaDoorOrd
import Derived.Test.YtempbknidpmncaaDoorRng
namespace Go.Proofs.YtempbknidpmncaaDoor
open Go.RowKit Go.Shelf

/-- The block's cells are those of jobs. -/
def JobsAt (w : World) (g : Nat) (js : List Job) : Prop := ∀ i j, js[i]? = some j →
  w.cell? ⟨g, i * 4, none⟩ = some (.int .i64 j.msg) ∧ w.cell? ⟨g, i * 4 + 1, none⟩ = some (.int .i64 j.fr) ∧
  w.cell? ⟨g, i * 4 + 2, none⟩ = some (.int .i64 j.en) ∧ w.cell? ⟨g, i * 4 + 3, none⟩ = some (.int .i64 j.left)
theorem JobsAt.of_block {w w' : World} {g : Nat} {js : List Job} (h : JobsAt w g js) (he : w'.heap[g]? = w.heap[g]?) : JobsAt w' g js := by
  intro i m hm
  have hc : ∀ o, w'.cell? ⟨g, o, none⟩ = w.cell? ⟨g, o, none⟩ := fun o => World.cell?_of_block (w := w) (a := ⟨g, o, none⟩) he
  simp only [hc]
  exact h i m hm

abbrev Ix (js : List Job) := { i : Nat // i < js.length }
def ready (js : List Job) (slot : Nat) (i : Nat) : Bool := match js[i]? with | some j => decide (j.fr ≤ slot) && decide (0 < j.left) | none => false
def waitUp (js : List Job) (slot : Nat) : Nat → List (Ix js)
  | 0 => []
  | k + 1 => if h : k < js.length then (if ready js slot k then waitUp js slot k ++ [⟨k, h⟩] else waitUp js slot k) else waitUp js slot k
theorem waitUp_len (js : List Job) (slot : Nat) : ∀ k, (waitUp js slot k).length ≤ k
  | 0 => Nat.le_refl _
  | k + 1 => by
    have := waitUp_len js slot k
    unfold waitUp; split
    · split
      · simp; omega
      · omega
    · omega
theorem waitUp_yes {js : List Job} {slot k : Nat} (h : k < js.length) (hr : ready js slot k = true) : waitUp js slot (k + 1) = waitUp js slot k ++ [⟨k, h⟩] := by
  rw [waitUp, dif_pos h, if_pos hr]
theorem waitUp_no {js : List Job} {slot k : Nat} (hr : ready js slot k = false) : waitUp js slot (k + 1) = waitUp js slot k := by
  rw [waitUp]; split
  · rw [if_neg (by simp [hr])]
  · rfl
theorem waitUp_prefix (js : List Job) (slot : Nat) : ∀ {k m : Nat}, k ≤ m → waitUp js slot k <+: waitUp js slot m := by
  intro k m h
  induction m with
  | zero => have : k = 0 := by omega
            subst this; exact List.prefix_refl _
  | succ m ih =>
    by_cases hk : k = m + 1
    · subst hk; exact List.prefix_refl _
    · refine (ih (by omega)).trans ?_
      rw [waitUp]
      split
      · split
        · exact List.prefix_append _ _
        · exact List.prefix_refl _
      · exact List.prefix_refl _

attribute [local go_sem] Oper.semAt_some

set_option maxHeartbeats 800000 in
theorem waiting1_in (F : Fence) (n : Nat) (hfn : ∀ f, F.fn f) (hro : F.round = none) (hn : 1 ≤ n) (l Bs Bt g cap slot : Nat) (js : List Job) (hlen : js.length ≤ 2000) (J Jx : List (Ix js) → World → Prop) (hJd : ∀ pre W, J pre W → J pre W.drew)
    (hY : ∀ pre x W, J pre W → pre.length < js.length → YieldAt F (n - 1) Tryd.prog l #[.pointer (some ⟨g, x.1 * 4, none⟩)] W fun e W' =>
      (e = .returned (.bool true) ∧ J (pre ++ [x]) W' ∧ KeepS [Bs, Bt, g] W W') ∨ (e = .returned (.bool false) ∧ Jx (pre ++ [x]) W'))
    (W : World) (hBs : Blk W Bs #[.slice (some ⟨g, 0, none⟩) js.length cap] 86) (hBt : Blk W Bt #[.int .i64 (slot : Int)] 3) (hJ : JobsAt W g js) (h0 : J [] W) :
    CallsIn F n Tryd.prog 104 #[.func (.yield l) #[] #[], .pointer (some ⟨Bs, 0, none⟩), .pointer (some ⟨Bt, 0, none⟩)] W fun e W' => (∃ v, e = .returned v) ∧
      ((∃ ys, ys = waitUp js slot js.length ∧ J ys W') ∨ (∃ pre, pre <+: waitUp js slot js.length ∧ Jx pre W')) := by
  refine callsIn_of_wp Tryd.func104 rfl (hfn _) ?_ hro
  simp only [Tryd.ntmps104, List.size_toArray, List.length_cons, List.length_nil, Nat.reduceAdd, Nat.reduceSub, Array.replicate_succ, Array.replicate_zero, List.push_toArray, List.append_toArray, List.nil_append, List.cons_append]
  have cs := hBs.cell 0 rfl
  gi_wp2
  clear cs
  gi_loopw [8] (fun i wr => ∃ k : Nat, k ≤ js.length ∧ i = .int .i64 k ∧ J (waitUp js slot k) wr ∧ KeepS [Bs, Bt, g] W wr) (fun i _ => js.length - (intOf i).toNat)
  case atStart => exact ⟨0, Nat.zero_le _, rfl, h0, KeepS.refl _ _⟩
  case round =>
    obtain ⟨k, hk, rfl, hJk, hK⟩ := hrel
    have cs := (hBs.of_block (hK Bs (by simp))).cell 0 rfl
    have ct := (hBt.of_block (hK Bt (by simp))).cell 0 rfl
    by_cases hlt : k < js.length
    · obtain ⟨j, hj⟩ : ∃ j, js[k]? = some j := ⟨js[k], by simp [hlt]⟩
      obtain ⟨c0, c1, c2, c3⟩ := (hJ.of_block (hK g (by simp))) k j hj
      have hKd : KeepS [Bs, Bt, g] W wr.drew := hK
      have HD := Lib.hid hKd
      clear hKd
      by_cases h1 : j.fr ≤ slot
      · by_cases h2 : 0 < j.left
        · have hr := waitUp_yes hlt (show ready js slot k = true by simp [ready, hj, h1, h2])
          have HR := Lib.hid hr
          have hd : decide ((j.fr : Int) ≤ (slot : Int)) = true := by simp; omega
          have hd2 : decide ((0 : Int) < (j.left : Int)) = true := by simp; omega
          have hwl := waitUp_len js slot k
          obtain ⟨fn, tmps, assign, body, hy, hR⟩ := hY (waitUp js slot k) ⟨k, hlt⟩ wr.drew (hJd _ _ hJk) (by omega)
          have HRR := Lib.hid hR
          clear hr hj hJk hK hR
          gi_wp2
          refine wpIn_region_ord [(0, 0, 0), (1, 0, 1), (2, 0, 3), (3, 2, 7), (4, 2, 0), (5, 0, 31), (6, 0, 63), (7, 0, 127), (8, 0, 255), (9, 0, 511), (10, 2, 1023), (11, 0, 2047), (12, 0, 4095), (13, 0, 8191), (14, 0, 16383), (15, 0, 16383), (16, 3, 65535), (17, 0, 131071), (18, 0, 262143)] false (by kernel_rfl) hfn (by kernel_rfl) ?_
          repeat (first | (refine tx_P rfl (fun K hK => ?_); go_simp; refine hK _ _ ?_; clear hK K) | (refine tx_L rfl (fun K hK => ?_); go_simp; refine hK _ _ ?_; clear hK K))
          refine tx_E rfl (fun K hK => ?_)
          go_simp
          refine HRR.out.mono ?_
          rintro e W' (⟨rfl, hJ', hk'⟩ | ⟨rfl, hJx'⟩)
          · simp only []
            refine hK _ _ ?_; clear hK K
            repeat (first | (refine tx_P rfl (fun K hK => ?_); go_simp; refine hK _ _ ?_; clear hK K) | (refine tx_L rfl (fun K hK => ?_); go_simp; refine hK _ _ ?_; clear hK K))
            refine tx_nil ?_
            gi_wp2
            go_roundw
            case rel => exact ⟨k + 1, by omega, by go_num, by rw [HR.out]; exact hJ', HD.out.trans hk'⟩
            case measure => simp [intOf]; omega
          · simp only []
            refine hK _ _ ?_; clear hK K
            repeat (first | (refine tx_P rfl (fun K hK => ?_); go_simp; refine hK _ _ ?_; clear hK K) | (refine tx_L rfl (fun K hK => ?_); go_simp; refine hK _ _ ?_; clear hK K))
            refine tx_nil ?_
            gi_wp2
            refine bodyPost_ret (results_none rfl _ _ _) rfl ?_
            exact ⟨⟨_, rfl⟩, .inr ⟨_, by rw [← HR.out]; exact waitUp_prefix js slot hlt, hJx'⟩⟩
        · have hr := waitUp_no (k := k) (show ready js slot k = false by simp [ready, hj]; omega)
          have HR := Lib.hid hr
          have hd : decide ((j.fr : Int) ≤ (slot : Int)) = true := by simp; omega
          have hd2 : decide ((0 : Int) < (j.left : Int)) = false := by simp; omega
          have hJk' := hJd _ _ hJk
          clear hr hj hJk
          gi_wp2
          refine wpIn_region_ord [(0, 0, 0), (1, 0, 1), (2, 0, 3), (3, 2, 7), (4, 2, 0), (5, 0, 31), (6, 0, 63), (7, 0, 127), (8, 0, 255), (9, 0, 511), (10, 2, 1023), (11, 0, 2047), (12, 0, 4095), (13, 0, 8191), (14, 0, 16383), (15, 0, 16383), (16, 3, 65535), (17, 0, 131071), (18, 0, 262143)] false (by kernel_rfl) hfn (by kernel_rfl) ?_
          repeat (first | (refine tx_P rfl (fun K hK => ?_); go_simp; refine hK _ _ ?_; clear hK K) | (refine tx_L rfl (fun K hK => ?_); go_simp; refine hK _ _ ?_; clear hK K) | (refine tx_E rfl (fun K hK => ?_); go_simp; refine hK _ _ ?_; clear hK K))
          refine tx_nil ?_
          gi_wp2
          go_roundw
          case rel => exact ⟨k + 1, by omega, by go_num, by rw [HR.out]; exact hJk', HD.out⟩
          case measure => simp [intOf]; omega
      · have hr := waitUp_no (k := k) (show ready js slot k = false by simp [ready, hj]; omega)
        have HR := Lib.hid hr
        have hd : decide ((j.fr : Int) ≤ (slot : Int)) = false := by simp; omega
        have hJk' := hJd _ _ hJk
        clear hr hj hJk
        gi_wp2
        refine wpIn_region_ord [(0, 0, 0), (1, 0, 1), (2, 0, 3), (3, 2, 7), (4, 2, 0), (5, 0, 31), (6, 0, 63), (7, 0, 127), (8, 0, 255), (9, 0, 511), (10, 2, 1023), (11, 0, 2047), (12, 0, 4095), (13, 0, 8191), (14, 0, 16383), (15, 0, 16383), (16, 3, 65535), (17, 0, 131071), (18, 0, 262143)] false (by kernel_rfl) hfn (by kernel_rfl) ?_
        repeat (first | (refine tx_P rfl (fun K hK => ?_); go_simp; refine hK _ _ ?_; clear hK K) | (refine tx_L rfl (fun K hK => ?_); go_simp; refine hK _ _ ?_; clear hK K) | (refine tx_E rfl (fun K hK => ?_); go_simp; refine hK _ _ ?_; clear hK K))
        refine tx_nil ?_
        gi_wp2
        go_roundw
        case rel => exact ⟨k + 1, by omega, by go_num, by rw [HR.out]; exact hJk', HD.out⟩
        case measure => simp [intOf]; omega
    · have hk' : k = js.length := by omega
      gi_wp2
      go_end0
      exact ⟨⟨_, rfl⟩, .inl ⟨_, by rw [hk'], hJk⟩⟩

theorem waiting_any (J : Value) (slot : Nat) (w : World) (hJ : J.oneCell' = true) :
    Calls Tryd.prog 56 #[J, .int .i64 (slot : Int)] w fun e w' => e = .returned (.func (.func 104) #[] #[.pointer (some ⟨w.heap.size, 0, none⟩), .pointer (some ⟨w.heap.size + 1, 0, none⟩)]) ∧
      (w.alloc (.cells #[J] 86)).alloc (.cells #[.int .i64 (slot : Int)] 3) = w' := by
  go_enter Tryd.func56, Tryd.ntmps56
  go_wp2
  go_outline
  go_ret
  exact ⟨rfl, rfl⟩

/-- The iterator, as the law on a range over a function asks for it. -/
theorem waiting1_stops (F : Fence) (n : Nat) (hfn : ∀ f, F.fn f) (hro : F.round = none) (hn : 1 ≤ n) (Bs Bt g cap slot : Nat) (js : List Job) (hlen : js.length ≤ 2000) (w : World)
    (hBs : Blk w Bs #[.slice (some ⟨g, 0, none⟩) js.length cap] 86) (hBt : Blk w Bt #[.int .i64 (slot : Int)] 3) (hJ : JobsAt w g js) (hgw : g < w.heap.size) :
    SeqStopsK F n Tryd.prog 104 #[.pointer (some ⟨Bs, 0, none⟩), .pointer (some ⟨Bt, 0, none⟩)] (fun x : Ix js => #[.pointer (some ⟨g, x.1 * 4, none⟩)]) (KeepS [Bs, Bt, g])
      (fun xs => xs = waitUp js slot js.length) (fun pre => pre <+: waitUp js slot js.length) js.length w := by
  intro l J Jx W hW hJa hJxa hY h0
  exact waiting1_in F n hfn hro hn l Bs Bt g cap slot js hlen J Jx (fun pre X hj => hJa pre X X.drew none hj ⟨rfl, rfl, rfl, Nat.le_refl _, fun _ _ _ => rfl⟩ (fun r e => by cases e)) hY W
    (hBs.below hW hBs.lt) (hBt.below hW hBt.lt) (hJ.of_block (hW.block g hgw)) h0
end Go.Proofs.YtempbknidpmncaaDoor
