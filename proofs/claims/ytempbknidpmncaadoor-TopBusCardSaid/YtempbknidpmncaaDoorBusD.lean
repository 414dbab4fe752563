/-
  TopBus: made, which serves the jobs in the order of their ends.
-/
import Derived.Test.YtempbknidpmncaaDoorBusC
namespace Go.Proofs.YtempbknidpmncaaDoor
open Go.RowKit Go.Shelf

def job0 : Job := ⟨0, 0, 0, 0⟩
def better (js : List Job) (b : Option Nat) (x : Nat) : Option Nat := match b with
  | none => some x
  | some b => if (js.getD x job0).en < (js.getD b job0).en then some x else some b
def pickL (js : List Job) (pre : List (Ix js)) : Option Nat := pre.foldl (fun b x => better js b x.1) none
def pick (js : List Job) (slot : Nat) : Option Nat := pickL js (waitUp js slot js.length)
def served (j : Job) : Job := { j with left := j.left - 1 }
def stepE (js : List Job) (slot : Nat) : Option (List Job × Int) := match pick js slot with
  | none => some (js, -1)
  | some b => if (js.getD b job0).en ≤ slot then none else some (js.set b (served (js.getD b job0)), ((js.getD b job0).msg : Int))
def stAt (js : List Job) : Nat → Option (List Job × List Int)
  | 0 => some (js, [])
  | k + 1 => (stAt js k).bind fun s => (stepE s.1 k).map fun r => (r.1, s.2 ++ [r.2])
def madeL (js : List Job) (c : Nat) : Option (List Int) := (stAt js c).bind fun s => if waitUp s.1 c s.1.length = [] then some s.2 else none
def ptrJ (g : Nat) : Option Nat → Value
  | none => .pointer none
  | some b => .pointer (some ⟨g, b * 4, none⟩)
def intsV (l : List Int) : List Value := l.map fun x => .int .i64 x

theorem pickL_snoc (js : List Job) (pre : List (Ix js)) (x : Ix js) : pickL js (pre ++ [x]) = better js (pickL js pre) x.1 := by simp [pickL, List.foldl_append]
theorem better_lt {js : List Job} {b : Option Nat} {x : Nat} (hb : ∀ i, b = some i → i < js.length) (hx : x < js.length) : ∀ i, better js b x = some i → i < js.length := by
  intro i hi
  unfold better at hi
  cases b with
  | none => simp at hi; omega
  | some b =>
    simp only at hi
    split at hi
    · simp at hi; omega
    · exact hb i hi
theorem pickL_lt {js : List Job} : ∀ (pre : List (Ix js)) (b : Option Nat), (∀ i, b = some i → i < js.length) → ∀ i, pre.foldl (fun b x => better js b x.1) b = some i → i < js.length
  | [], _, hb => hb
  | x :: pre, _, hb => pickL_lt pre _ (better_lt hb x.2)

theorem waitUp_ready {js : List Job} {slot : Nat} : ∀ (k : Nat) (x : Ix js), x ∈ waitUp js slot k → ready js slot x.1 = true
  | 0, _, h => by cases h
  | k + 1, x, h => by
    unfold waitUp at h
    split at h
    · split at h
      · rename_i hr
        rcases List.mem_append.1 h with h | h
        · exact waitUp_ready k x h
        · rw [List.mem_singleton.1 h]; exact hr
      · exact waitUp_ready k x h
    · exact waitUp_ready k x h
theorem pickL_mem {js : List Job} : ∀ (pre : List (Ix js)) (b : Option Nat) (i : Nat), pre.foldl (fun b x => better js b x.1) b = some i → (b = some i ∨ ∃ x ∈ pre, x.1 = i)
  | [], _, _, h => .inl h
  | x :: pre, b, i, h => by
    rcases pickL_mem pre _ i h with h1 | ⟨y, hy, rfl⟩
    · unfold better at h1
      cases b with
      | none => simp at h1; exact .inr ⟨x, List.mem_cons_self .., h1⟩
      | some b =>
        simp only at h1
        split at h1
        · simp at h1; exact .inr ⟨x, List.mem_cons_self .., h1⟩
        · exact .inl h1
    · exact .inr ⟨y, List.mem_cons_of_mem _ hy, rfl⟩
theorem pick_ready {js : List Job} {slot b : Nat} (h : pick js slot = some b) : ready js slot b = true ∧ b < js.length := by
  rcases pickL_mem _ none b h with h | ⟨x, hx, rfl⟩
  · cases h
  · exact ⟨waitUp_ready _ x hx, x.2⟩

theorem stAt_none' {js : List Job} {k : Nat} : ∀ (d : Nat), stAt js k = none → stAt js (k + d) = none
  | 0, h => h
  | d + 1, h => by have := stAt_none' d h; rw [← Nat.add_assoc]; simp [stAt, this]
theorem stAt_none {js : List Job} {k c : Nat} (hk : k < c) (h : stAt js (k + 1) = none) : madeL js c = none := by
  have := stAt_none' (c - (k + 1)) h
  rw [show k + 1 + (c - (k + 1)) = c by omega] at this
  simp [madeL, this]
/-- A store into a block beyond what was there when the call began. -/
theorem grown_new {w0 w : World} {row : Option Nat} (h : w0.grownBy w row) {b : Nat} (hb : w0.heap.size ≤ b) (j : Nat) (v : Value) : w0.grownBy (w.setCell ⟨b, j, none⟩ v) row :=
  ⟨h.os, h.tape, h.output, by simpa [World.setCell] using h.size, fun i hi hne => (Below.heap_setCell w ⟨b, j, none⟩ v i (by simp; omega)).trans (h.block i hi hne)⟩

theorem Tryd.info3' : (Tryd.prog.info? 3).map (fun i => (i.zero, i.size, i.bytes)) = some (some (.int .i64 0), 1, 8) := by kernel_rfl

theorem JobsAt_own {w : World} {base g cap : Nat} {js : List Job} (h : w.ownsRow base 132 4 (.slice (some ⟨g, 0, none⟩) js.length cap) js.length (cellsJ js)) : JobsAt w g js := by
  intro i j hj
  have hi : i < js.length := (List.getElem?_eq_some_iff.1 hj).1
  have key : ∀ o, o < 4 → (cellsJ js)[i * 4 + o]? = (jobCells j)[o]? := by
    clear h
    intro o ho
    induction js generalizing i with
    | nil => simp at hi
    | cons x js ih =>
      cases i with
      | zero =>
        simp only [List.getElem?_cons_zero, Option.some.injEq] at hj
        subst hj
        simp only [cellsJ, List.flatMap_cons]
        rw [List.getElem?_append_left (by simp [jobCells]; omega)]
        simp
      | succ i =>
        simp only [List.getElem?_cons_succ] at hj
        have := ih i hj (by simpa using hi)
        simp only [cellsJ, List.flatMap_cons]
        rw [List.getElem?_append_right (by simp [jobCells]; omega)]
        have e : (i + 1) * 4 + o - (jobCells x).length = i * 4 + o := by simp [jobCells]; omega
        rw [e]; exact this
  have hc : ∀ o, o < 4 → w.cell? ⟨g, i * 4 + o, none⟩ = (jobCells j)[o]? := fun o ho => by
    rw [h.cellAt (i * 4 + o) (by omega)]; exact key o ho
  exact ⟨by simpa [jobCells] using hc 0 (by omega), hc 1 (by omega), hc 2 (by omega), hc 3 (by omega)⟩

theorem cellsJ_set (js : List Job) (b : Nat) (hb : b < js.length) (j : Job) (hj : js[b]? = some j) (x : Nat) : cellsJ (js.set b { j with left := x }) = (cellsJ js).set (b * 4 + 3) (.int .i64 x) := by
  induction js generalizing b with
  | nil => simp at hb
  | cons y js ih =>
    cases b with
    | zero =>
      simp only [List.getElem?_cons_zero, Option.some.injEq] at hj
      subst hj
      simp [cellsJ, jobCells]
    | succ b =>
      simp only [List.getElem?_cons_succ] at hj
      have := ih b (by simpa using hb) hj
      simp only [cellsJ, List.set_cons_succ, List.flatMap_cons] at this ⊢
      rw [this, List.set_append_right _ _ (by simp [jobCells]; omega)]
      congr 2
      simp [jobCells]; omega

/-- What made comes to. -/
def MadePost (js0 : List Job) (c : Nat) (w : World) (e : Ending) (w' : World) : Prop :=
  (∃ t v, madeL js0 c = some t ∧ e = .returned (.tuple #[v, .bool true]) ∧ w'.ownsRow w.heap.size 3 1 v t.length (intsV t)) ∨
  (madeL js0 c = none ∧ e = .returned (.tuple #[.slice none 0 0, .bool false]))

theorem res26 {tmps : Array Value} {w : World} {b4 b5 : Nat} {A : Option Addr} {n c : Nat} {v5 : Bool} (h4 : tmps.getD 4 undef = .pointer (some ⟨b4, 0, none⟩)) (h5 : tmps.getD 5 undef = .pointer (some ⟨b5, 0, none⟩)) (c4 : w.cell? ⟨b4, 0, none⟩ = some (.slice A n c)) (c5 : w.cell? ⟨b5, 0, none⟩ = some (.bool v5)) :
    (results Tryd.f26 tmps).run Tryd.prog w = .ok (.tuple #[.slice A n c, .bool v5]) w := by
  have h4' : tmps[4]?.getD undef = .pointer (some ⟨b4, 0, none⟩) := by simpa [Array.getD_eq_getD_getElem?] using h4
  have h5' : tmps[5]?.getD undef = .pointer (some ⟨b5, 0, none⟩) := by simpa [Array.getD_eq_getD_getElem?] using h5
  simp [results, Tryd.results26, go_sem, h4', h5', c4, c5]

attribute [local go_sem] Oper.semAt_some

set_option maxHeartbeats 1000000 in
theorem made_any (g cap c : Nat) (js0 : List Job) (hlen : js0.length ≤ 2000) (hc : c ≤ 1000) (hlb : ∀ j ∈ js0, j.left ≤ 1000) (w : World) (hgw : g < w.heap.size)
    (hown : w.ownsRow 0 132 4 (.slice (some ⟨g, 0, none⟩) js0.length cap) js0.length (cellsJ js0)) :
    Calls Tryd.prog 26 #[.slice (some ⟨g, 0, none⟩) js0.length cap, .int .i64 (c : Int)] w fun e w' => MadePost js0 c w e w' ∧ w.grownBy w' (some g) := by
  refine (callsIn_wide (n := 20)).1 ?_
  have hfn : ∀ f, Fence.wide.fn f := fun _ => trivial
  have hro : Fence.wide.round = none := rfl
  refine callsIn_of_wp_marks Tryd.func26 rfl trivial ?_ rfl
  simp only [Tryd.ntmps26, List.size_toArray, List.length_cons, List.length_nil, Nat.reduceAdd, Nat.reduceSub, Array.replicate_succ, Array.replicate_zero, List.push_toArray, List.append_toArray, List.nil_append, List.cons_append]
  gi_wp2
  refine wpIn_loop (fun a wr => ∃ (k : Nat) (jk : List Job) (tk : List Int) (v : Value) (Ds : List Nat), k ≤ c ∧ a.defers = Ds.map mark ∧ a.tmps.size = 65 ∧ a.tmps.getD 0 undef = .slice (some ⟨g, 0, none⟩) js0.length cap ∧ a.tmps.getD 1 undef = .int .i64 (c : Int) ∧ a.tmps.getD 4 undef = .pointer (some ⟨w.heap.size, 0, none⟩) ∧ a.tmps.getD 5 undef = .pointer (some ⟨w.heap.size + 1, 0, none⟩) ∧ a.tmps.getD 6 undef = v ∧ a.tmps.getD 10 undef = .int .i64 (c : Int) ∧ a.tmps.getD 11 undef = .int .i64 (k : Int) ∧
      stAt js0 k = some (jk, tk) ∧ jk.length = js0.length ∧ tk.length = k ∧ wr.ownsRow 0 132 4 (.slice (some ⟨g, 0, none⟩) js0.length cap) js0.length (cellsJ jk) ∧
      wr.ownsRow w.heap.size 3 1 v tk.length (intsV tk) ∧ Blk wr w.heap.size #[.slice none 0 0] 24 ∧ Blk wr (w.heap.size + 1) #[.bool false] 4 ∧ Marks w.heap.size wr Ds ∧ w.grownBy wr (some g) ∧ (∀ j ∈ jk, j.left ≤ 1000))
    (fun a _ => c - (intOf (a.tmps.getD 11 undef)).toNat) ?start ?round
  case start =>
    refine ⟨0, js0, [], .slice none 0 0, [], Nat.zero_le _, rfl, rfl, rfl, rfl, rfl, rfl, rfl, rfl, rfl, rfl, rfl, rfl, (hown.alloc _).alloc _, World.ownsRow_nil _ _ _ _, (Blk.new w _ _).alloc _, ?_, Marks.nil _ _, ?_⟩
    · have := Blk.new (w.alloc (.cells #[Value.slice none 0 0] 24)) #[Value.bool false] 4
      simpa using this
    · exact ⟨(World.grownBy_alloc w _ _).trans (World.grownBy_alloc _ _ _), hlb⟩
  case round =>
    rintro ⟨tm, df⟩ wr ⟨k, jk, tk, v, Ds, hk, hdf, hsz65, s0, s1, s4, s5, s6, s10, s11, hst, hjl, htl, hoj, hot, hB4, hB5, hM, hgr, hlk⟩
    dsimp only at hdf hsz65 s0 s1 s4 s5 s6 s10 s11
    obtain ⟨u, hu, hui⟩ := arr_lit tm 65 hsz65
    rw [hui] at s0 s1 s4 s5 s6 s10 s11
    have hfr : (Act.mk tm df) = { tmps := #[.slice (some ⟨g, 0, none⟩) js0.length cap, .int .i64 (c : Int), u 2, u 3, .pointer (some ⟨w.heap.size, 0, none⟩), .pointer (some ⟨w.heap.size + 1, 0, none⟩), v, u 7, u 8, u 9, .int .i64 (c : Int), .int .i64 (k : Int), u 12, u 13, u 14, u 15, u 16, u 17, u 18, u 19, u 20, u 21, u 22, u 23, u 24, u 25, u 26, u 27, u 28, u 29, u 30, u 31, u 32, u 33, u 34, u 35, u 36, u 37, u 38, u 39, u 40, u 41, u 42, u 43, u 44, u 45, u 46, u 47, u 48, u 49, u 50, u 51, u 52, u 53, u 54, u 55, u 56, u 57, u 58, u 59, u 60, u 61, u 62, u 63, u 64], defers := Ds.map mark } := by
      rw [hdf, hu]
      show (Act.mk #[u 0, u 1, u 2, u 3, u 4, u 5, u 6, u 7, u 8, u 9, u 10, u 11, u 12, u 13, u 14, u 15, u 16, u 17, u 18, u 19, u 20, u 21, u 22, u 23, u 24, u 25, u 26, u 27, u 28, u 29, u 30, u 31, u 32, u 33, u 34, u 35, u 36, u 37, u 38, u 39, u 40, u 41, u 42, u 43, u 44, u 45, u 46, u 47, u 48, u 49, u 50, u 51, u 52, u 53, u 54, u 55, u 56, u 57, u 58, u 59, u 60, u 61, u 62, u 63, u 64] _) = _
      rw [s0, s1, s4, s5, s6, s10, s11]
    rw [hfr]
    clear hfr hu hui hsz65 s0 s1 s4 s5 s6 s10 s11 hdf
    have hsz : w.heap.size + 1 < wr.heap.size := hB5.lt
    have hgs : g < wr.heap.size := by omega
    by_cases hlt : k < c
    · gi_wp2_with (gi_at_call 56; refine (callsIn_wide.2 (waiting_any _ k _ rfl)).mono ?_; rintro e w1 ⟨rfl, rfl⟩)
      obtain ⟨wL, hwL⟩ : ∃ x, (((wr.alloc (Obj.cells #[Value.pointer none] 127)).alloc (Obj.cells #[Value.slice (some { block := g, off := 0 }) js0.length cap] 86)).alloc (Obj.cells #[Value.int IntKind.i64 (k : Int)] 3)) = x := ⟨_, rfl⟩
      have hLs : wL.heap.size = wr.heap.size + 3 := by rw [← hwL]; simp
      have hbb : Blk wL wr.heap.size #[.pointer none] 127 := by rw [← hwL]; exact ((Blk.new wr _ _).alloc _).alloc _
      have hBs : Blk wL (wr.heap.size + 1) #[.slice (some ⟨g, 0, none⟩) jk.length cap] 86 := by
        rw [← hwL, hjl]
        have := Blk.new (wr.alloc (Obj.cells #[Value.pointer none] 127)) #[Value.slice (some { block := g, off := 0 }) js0.length cap] 86
        rw [World.size_alloc] at this
        exact this.alloc _
      have hBt : Blk wL (wr.heap.size + 1 + 1) #[.int .i64 (k : Int)] 3 := by
        rw [← hwL]
        have := Blk.new ((wr.alloc (Obj.cells #[Value.pointer none] 127)).alloc (Obj.cells #[Value.slice (some { block := g, off := 0 }) js0.length cap] 86)) #[Value.int IntKind.i64 (k : Int)] 3
        rw [World.size_alloc, World.size_alloc] at this
        exact this
      have hgL : wr.grownBy wL none := by rw [← hwL]; exact ((World.grownBy_alloc wr _ _).trans (World.grownBy_alloc _ _ _)).trans (World.grownBy_alloc _ _ _)
      rw [hwL]
      have hojL := hoj.kept hgL (by simp [Value.ownBlock])
      have hotL := hot.kept hgL (by cases v.ownBlock <;> simp)
      have hB4L := hB4.grown hgL (by simp)
      have hB5L := hB5.grown hgL (by simp)
      have hML := hM.grown hgL (fun r e => by cases e)
      have hJat : JobsAt wL g jk := JobsAt_own (cap := cap) (by rw [hjl]; exact hojL)
      refine wpIn_rangeFunc_ownF (n := 20) hro (by omega) (gf := 104) (lb := #[.pointer (some ⟨wr.heap.size + 1, 0, none⟩), .pointer (some ⟨wr.heap.size + 1 + 1, 0, none⟩)]) rfl trivial (enters_of Tryd.func104 (by kernel_rfl) rfl)
        (waiting1_stops Fence.wide 19 hfn hro (by omega) (wr.heap.size + 1) (wr.heap.size + 1 + 1) g cap k jk (by omega) wL hBs hBt hJat (by omega)) KeepS.trans
        (fun W l o o' hl h _ _ => KeepS.putObj (B := wL.heap.size) (fun i hi => by simp at hi; omega) hl o') (Below.refl _ _) (fun _ => rfl)
        (fun pre W => Blk W wr.heap.size #[ptrJ g (pickL jk pre)] 127 ∧ wL.grownBy W (some wr.heap.size)) (fun _ _ _ => False) ?own (fun _ _ _ _ _ hs _ _ => hs) ⟨hbb, ⟨rfl, rfl, rfl, Nat.le_refl _, fun _ _ _ => rfl⟩⟩
        (fun x => { tmps := #[.slice (some ⟨g, 0, none⟩) js0.length cap, .int .i64 (c : Int), u 2, u 3, .pointer (some ⟨w.heap.size, 0, none⟩), .pointer (some ⟨w.heap.size + 1, 0, none⟩), v, .int .i64 (k : Int), .pointer (some ⟨wr.heap.size, 0, none⟩), .pointer (some ⟨g, x.1 * 4, none⟩), .int .i64 (c : Int), .int .i64 (k : Int), .bool true, .int .i64 (k : Int), .slice (some ⟨g, 0, none⟩) js0.length cap, .int .i64 (k : Int), .func (.func 104) #[] #[.pointer (some ⟨wr.heap.size + 1, 0, none⟩), .pointer (some ⟨wr.heap.size + 1 + 1, 0, none⟩)], .pointer (some ⟨g, x.1 * 4, none⟩), u 18, u 19, u 20, u 21, u 22, u 23, u 24, u 25, u 26, u 27, u 28, u 29, u 30, u 31, u 32, u 33, u 34, u 35, u 36, u 37, u 38, u 39, u 40, u 41, u 42, u 43, u 44, u 45, u 46, u 47, u 48, u 49, u 50, u 51, u 52, u 53, u 54, u 55, u 56, u 57, u 58, u 59, u 60, u 61, u 62, u 63, u 64], defers := [] }) ?assign ?body ?done ?stop
      case own =>
        rintro pre A B row ⟨h1, h2⟩ hg hr
        refine ⟨h1.grown hg (fun e => by have := (hr _ e.symm).1; omega), ⟨hg.os.trans h2.os, hg.tape.trans h2.tape, hg.output.trans h2.output, Nat.le_trans h2.size hg.size, fun i hi hne => ?_⟩⟩
        exact (hg.block i (Nat.lt_of_lt_of_le hi h2.size) (fun e => by have := (hr _ e.symm).1; omega)).trans (h2.block i hi hne)
      case assign =>
        intro l x W K hK
        gi_wp2
        exact hK
      case body =>
        rintro l pre x W ⟨hb, hgW⟩ hpl
        have hcb := hb.cell 0 rfl
        have hfb := hb.frozen 0
        have hJW : JobsAt W g jk := hJat.of_block (hgW.block g (by omega) (by simp; omega))
        have hlp := pickL_snoc jk pre x
        obtain ⟨jx, hjx⟩ : ∃ j, jk[x.1]? = some j := ⟨jk[x.1], by simp [x.2]⟩
        obtain ⟨-, -, x2, -⟩ := hJW x.1 jx hjx
        have hxg : jk.getD x.1 job0 = jx := by simp [List.getD, hjx]
        have hgS : ∀ v, W.grownBy (W.setCell ⟨wr.heap.size, 0, none⟩ v) (some wr.heap.size) := fun v => ⟨rfl, rfl, rfl, by simp [World.setCell], fun i _ hi => Below.heap_setCell _ _ _ _ (by simpa using hi)⟩
        cases hp : pickL jk pre with
        | none =>
          rw [hp] at hlp
          simp only [better] at hlp
          have HLP := Lib.hid hlp
          rw [hp] at hcb hb
          simp only [ptrJ, List.getElem_toArray, List.getElem_cons_zero] at hcb
          clear hlp hxg hjx hp hJW
          gi_wp2
          refine wpIn_region_ord [(0, 2, 0), (1, 0, 1), (2, 0, 3), (3, 0, 7), (4, 0, 15), (5, 0, 31), (6, 2, 63), (7, 2, 7), (8, 0, 135), (9, 0, 391), (10, 2, 903), (11, 0, 2047), (12, 0, 4095)] false (by kernel_rfl) (F := Fence.wide.inRound l) hfn (by kernel_rfl) ?_
          repeat (first | (refine tx_P rfl (fun K hK => ?_); go_simp; refine hK _ _ ?_; clear hK K) | (refine tx_L rfl (fun K hK => ?_); go_simp; refine hK _ _ ?_; clear hK K))
          refine tx_nil ?_
          gi_wp2
          refine ⟨(KeepsOthers.setCell W _ _).trans (KeepsOthers.drew _), KeepS.setCell (fun i hi => by simp at hi; simp; omega) _, ?_, grown_drew (hgW.trans (hgS _))⟩
          rw [HLP.out]
          exact hb.setCell 0 _
        | some b =>
          have hbl : b < jk.length := pickL_lt pre none (fun i hi => by cases hi) b hp
          obtain ⟨jb, hjb⟩ : ∃ j, jk[b]? = some j := ⟨jk[b], by simp [hbl]⟩
          obtain ⟨-, -, b2, -⟩ := hJW b jb hjb
          have hbg : jk.getD b job0 = jb := by simp [List.getD, hjb]
          rw [hp] at hlp
          simp only [better, hxg, hbg] at hlp
          rw [hp] at hcb hb
          simp only [ptrJ, List.getElem_toArray, List.getElem_cons_zero] at hcb
          by_cases hen : jx.en < jb.en
          · rw [if_pos hen] at hlp
            have HLP := Lib.hid hlp
            have hd : decide ((jx.en : Int) < (jb.en : Int)) = true := by simp; omega
            clear hlp hxg hjx hp hJW hbg hjb
            gi_wp2
            refine wpIn_region_ord [(0, 2, 0), (1, 0, 1), (2, 0, 3), (3, 0, 7), (4, 0, 15), (5, 0, 31), (6, 2, 63), (7, 2, 7), (8, 0, 135), (9, 0, 391), (10, 2, 903), (11, 0, 2047), (12, 0, 4095)] false (by kernel_rfl) (F := Fence.wide.inRound l) hfn (by kernel_rfl) ?_
            repeat (first | (refine tx_P rfl (fun K hK => ?_); go_simp; refine hK _ _ ?_; clear hK K) | (refine tx_L rfl (fun K hK => ?_); go_simp; refine hK _ _ ?_; clear hK K))
            refine tx_nil ?_
            gi_wp2
            refine ⟨(KeepsOthers.setCell W _ _).trans (KeepsOthers.drew _), KeepS.setCell (fun i hi => by simp at hi; simp; omega) _, ?_, grown_drew (hgW.trans (hgS _))⟩
            rw [HLP.out]
            exact hb.setCell 0 _
          · rw [if_neg hen] at hlp
            have HLP := Lib.hid hlp
            have hd : decide ((jx.en : Int) < (jb.en : Int)) = false := by simp; omega
            clear hlp hxg hjx hp hJW hbg hjb
            gi_wp2
            refine wpIn_region_ord [(0, 2, 0), (1, 0, 1), (2, 0, 3), (3, 0, 7), (4, 0, 15), (5, 0, 31), (6, 2, 63), (7, 2, 7), (8, 0, 135), (9, 0, 391), (10, 2, 903), (11, 0, 2047), (12, 0, 4095)] false (by kernel_rfl) (F := Fence.wide.inRound l) hfn (by kernel_rfl) ?_
            repeat (first | (refine tx_P rfl (fun K hK => ?_); go_simp; refine hK _ _ ?_; clear hK K) | (refine tx_L rfl (fun K hK => ?_); go_simp; refine hK _ _ ?_; clear hK K))
            refine tx_nil ?_
            gi_wp2
            refine ⟨KeepsOthers.drew _, KeepS.refl _ _, ?_, grown_drew hgW⟩
            rw [HLP.out]
            exact hb
      case done =>
        rintro D xs W hD rfl ⟨hb, hgW⟩ hdef
        dsimp only
        have hWr : wr.grownBy W none := ⟨hgW.os.trans hgL.os, hgW.tape.trans hgL.tape, hgW.output.trans hgL.output, Nat.le_trans hgL.size hgW.size, fun i hi _ => (hgW.block i (by omega) (by simp; omega)).trans (hgL.block i hi (by simp))⟩
        have hojW := hoj.kept hWr (by simp [Value.ownBlock])
        have hotW := hot.kept hWr (by cases v.ownBlock <;> simp)
        have hB4W := hB4.grown hWr (by simp)
        have hB5W := hB5.grown hWr (by simp)
        have hMW := (hM.grown hWr (fun r e => by cases e)).cons (by omega) hdef (fun hD2 => by have := hM.lt hD2; omega)
        have hgrW : w.grownBy W (some g) := ⟨hWr.os.trans hgr.os, hWr.tape.trans hgr.tape, hWr.output.trans hgr.output, Nat.le_trans hgr.size hWr.size, fun i hi hne => (hWr.block i (by omega) (by simp)).trans (hgr.block i hi hne)⟩
        have hJW : JobsAt W g jk := JobsAt_own (cap := cap) (by rw [hjl]; exact hojW)
        have hcb := hb.cell 0 rfl
        have hWs : wr.heap.size < W.heap.size := hb.lt
        simp only [List.getElem_toArray, List.getElem_cons_zero] at hcb
        have hds : (({ target := .collected D, args := #[] } : Deferred) :: Ds.map mark) = (D :: Ds).map mark := rfl
        rw [hds]
        clear hds
        change W.cell? _ = some (ptrJ g (pick jk k)) at hcb
        cases hp : pick jk k with
        | none =>
          rw [hp] at hcb
          simp only [ptrJ] at hcb
          have HS : Hid (stAt js0 (k + 1) = some (jk, tk ++ [-1])) := Lib.hid (by simp [stAt, hst, stepE, hp])
          clear hp hst
          gi_wp2_with (gi_at_builtin; refine append_oneI w.heap.size rfl (.tmp 49) (.tmp 50) _ _ _ 1 8 (by exact rfl) Tryd.underlying24 Tryd.info3' rfl (by decide) _ _ _ [_] (by exact rfl) (by exact rfl) rfl (by simp [Value.oneCell']) hotW (Below.refl _ _) (by omega) (by unfold maxLen; omega) (by omega) ?_; intro g3 cap3 w3 hown3 hb3 hgr3 hor3 hg3 hlt3)
          refine ⟨⟨k + 1, jk, tk ++ [-1], .slice (some ⟨g3, 0, none⟩) (k + 1) cap3, D :: Ds, by omega, rfl, rfl, rfl, rfl, rfl, rfl, rfl, rfl, by go_num, HS.out, hjl, by simp [htl], own_other hojW hotW (by decide) hgr3, ?_, hB4W.grown hgr3 (ownBlock_ne hotW hB4W (by decide)), hB5W.grown hgr3 (ownBlock_ne hotW hB5W (by decide)), hMW.own hotW hgr3, grown_own hgrW (Nat.le_refl _) hotW hgr3, hlk⟩, ?_⟩
          · simpa [intsV, htl] using hown3
          · simp [intOf]; omega
        | some b =>
          rw [hp] at hcb
          simp only [ptrJ] at hcb
          obtain ⟨hrd, hbl⟩ := pick_ready hp
          obtain ⟨jb, hjb⟩ : ∃ j, jk[b]? = some j := ⟨jk[b], by simp [hbl]⟩
          obtain ⟨b0, -, b2, b3⟩ := hJW b jb hjb
          have hbg : jk.getD b job0 = jb := by simp [List.getD, hjb]
          have hl1k := hlk jb (List.mem_of_getElem? hjb)
          have hleft : 1 ≤ jb.left := by simp [ready, hjb] at hrd; omega
          by_cases hen : jb.en ≤ k
          · have HS : Hid (stAt js0 (k + 1) = none) := Lib.hid (by simp [stAt, hst, stepE, hp, hjb, hen])
            have hd : decide ((jb.en : Int) ≤ (k : Int)) = true := by simp; omega
            have f4 := hB4W.frozen 0
            have f5 := hB5W.frozen 0
            have g4 := hB4W.cell 0 rfl
            have g5 := hB5W.cell 0 rfl
            clear hp hst hbg hjb
            gi_wp2
            have hB4' := (hB4W.setCell 0 (.slice none 0 0)).setCell_other (a := ⟨w.heap.size + 1, 0, none⟩) (by simp) (.bool false)
            have hB5' := (hB5W.setCell_other (a := ⟨w.heap.size, 0, none⟩) (by simp) (.slice none 0 0)).setCell 0 (.bool false)
            refine leave_ret ((hMW.setCell hB4W 0 _).setCell (hB5W.setCell_other (a := ⟨w.heap.size, 0, none⟩) (by simp) _) 0 _) fun w' hw' => ?_
            refine ⟨_, res26 rfl rfl ((hw'.blk hB4').cell 0 rfl) ((hw'.blk hB5').cell 0 rfl), .inr ⟨?_, rfl⟩, hw'.grown (Nat.le_refl _) ?_⟩
            · exact stAt_none (by omega) HS.out
            · exact grown_new (grown_new hgrW (Nat.le_refl _) _ _) (by omega) _ _
          · have hd : decide ((jb.en : Int) ≤ (k : Int)) = false := by simp; omega
            have HS : Hid (stAt js0 (k + 1) = some (jk.set b (served jb), tk ++ [(jb.msg : Int)])) := Lib.hid (by simp [stAt, hst, stepE, hp, hjb, hen])
            have hfz := hojW.frozenAt (b * 4 + 3)
            have hset : W.grownBy (W.setCell ⟨g, b * 4 + 3, none⟩ (.int .i64 ((jb.left : Int) - 1))) (some g) := ⟨rfl, rfl, rfl, by simp [World.setCell], fun i _ hi => Below.heap_setCell _ _ _ _ (by simpa using hi)⟩
            have hoj2 := (hojW.stored (b * 4 + 3) (.int .i64 ((jb.left : Int) - 1))).1
            have hot2 := own_other hotW hojW (by decide) hset
            have HST : Hid ((cellsJ jk).set (b * 4 + 3) (.int .i64 ((jb.left : Int) - 1)) = cellsJ (jk.set b (served jb))) := Lib.hid (by
              rw [served, cellsJ_set jk b hbl jb hjb, Int.natCast_sub hleft]; rfl)
            have HLN : Hid ((jk.set b (served jb)).length = js0.length) := Lib.hid (by simp [hjl])
            have k1 : (W.setCell ⟨g, b * 4 + 3, none⟩ (.int .i64 ((jb.left : Int) - 1))).cell? ⟨wr.heap.size, 0, none⟩ = some (.pointer (some ⟨g, b * 4, none⟩)) :=
              (World.cell?_of_block (a := ⟨wr.heap.size, 0, none⟩) (Below.heap_setCell _ _ _ _ (by simp; omega))).trans hcb
            have k2 : (W.setCell ⟨g, b * 4 + 3, none⟩ (.int .i64 ((jb.left : Int) - 1))).cell? ⟨g, b * 4, none⟩ = some (.int .i64 (jb.msg : Int)) := by
              rw [World.cell?_setCell_other _ _ _ _ (by simp)]; exact b0
            have hB42 := hB4W.grown hset (by simp; omega)
            have hB52 := hB5W.grown hset (by simp; omega)
            have hM2 := hMW.own hojW hset
            have hgr2 : w.grownBy (W.setCell ⟨g, b * 4 + 3, none⟩ (.int .i64 ((jb.left : Int) - 1))) (some g) := hgrW.trans hset
            have hs2 : (W.setCell ⟨g, b * 4 + 3, none⟩ (.int .i64 ((jb.left : Int) - 1))).heap.size = W.heap.size := by simp [World.setCell]
            clear hp hst hbg hjb
            gi_wp2_with (gi_at_builtin; refine append_oneIB w.heap.size rfl (.tmp 39) (.tmp 44) _ _ _ 1 8 (by exact rfl) Tryd.underlying24 Tryd.info3' rfl (by decide) _ _ _ [_] (by exact rfl) W.heap.size hs2.symm (by exact rfl) rfl (by simp [Value.oneCell']) hot2 (Below.refl _ _) (by omega) (by unfold maxLen; omega) (by omega) ?_; intro g3 cap3 w3 hown3 hb3 hgr3 hor3 hg3 hlt3)
            refine ⟨⟨k + 1, jk.set b (served jb), tk ++ [(jb.msg : Int)], .slice (some ⟨g3, 0, none⟩) (k + 1) cap3, D :: Ds, by omega, rfl, rfl, rfl, rfl, rfl, rfl, rfl, rfl, by go_num, HS.out, HLN.out, by simp [htl], ?_, ?_, hB42.grown hgr3 (ownBlock_ne hot2 hB42 (by decide)), hB52.grown hgr3 (ownBlock_ne hot2 hB52 (by decide)), hM2.own hot2 hgr3, grown_own hgr2 (Nat.le_refl _) hot2 hgr3, ?_⟩, ?_⟩
            · rw [← HST.out]; exact own_other hoj2 hot2 (by decide) hgr3
            · simpa [intsV, htl] using hown3
            · intro j hj
              rcases List.mem_or_eq_of_mem_set hj with h | h
              · exact hlk j h
              · rw [h]; simp only [served]; omega
            · simp [intOf]; omega
      case stop =>
        rintro D c pre W hD _ h _
        exact h.elim
    · have hkc : k = c := by omega
      subst hkc
      gi_wp2_with (gi_at_call 56; refine (callsIn_wide.2 (waiting_any _ k _ rfl)).mono ?_; rintro e w1 ⟨rfl, rfl⟩)
      obtain ⟨wL, hwL⟩ : ∃ x, ((wr.alloc (Obj.cells #[Value.slice (some { block := g, off := 0 }) js0.length cap] 86)).alloc (Obj.cells #[Value.int IntKind.i64 (k : Int)] 3)) = x := ⟨_, rfl⟩
      have hLs : wL.heap.size = wr.heap.size + 2 := by rw [← hwL]; simp
      have hBs : Blk wL wr.heap.size #[.slice (some ⟨g, 0, none⟩) jk.length cap] 86 := by
        rw [← hwL, hjl]
        exact (Blk.new wr _ _).alloc _
      have hBt : Blk wL (wr.heap.size + 1) #[.int .i64 (k : Int)] 3 := by
        rw [← hwL]
        have := Blk.new (wr.alloc (Obj.cells #[Value.slice (some { block := g, off := 0 }) js0.length cap] 86)) #[Value.int IntKind.i64 (k : Int)] 3
        rw [World.size_alloc] at this
        exact this
      have hgL : wr.grownBy wL none := by rw [← hwL]; exact (World.grownBy_alloc wr _ _).trans (World.grownBy_alloc _ _ _)
      rw [hwL]
      have hojL := hoj.kept hgL (by simp [Value.ownBlock])
      have hotL := hot.kept hgL (by cases v.ownBlock <;> simp)
      have hB4L := hB4.grown hgL (by simp)
      have hB5L := hB5.grown hgL (by simp)
      have hML := hM.grown hgL (fun r e => by cases e)
      have hgrL : w.grownBy wL (some g) := ⟨hgL.os.trans hgr.os, hgL.tape.trans hgr.tape, hgL.output.trans hgr.output, Nat.le_trans hgr.size hgL.size, fun i hi hne => (hgL.block i (by omega) (by simp)).trans (hgr.block i hi hne)⟩
      have hJat : JobsAt wL g jk := JobsAt_own (cap := cap) (by rw [hjl]; exact hojL)
      refine wpIn_rangeFunc_ownF (n := 20) hro (by omega) (gf := 104) (lb := #[.pointer (some ⟨wr.heap.size, 0, none⟩), .pointer (some ⟨wr.heap.size + 1, 0, none⟩)]) rfl trivial (enters_of Tryd.func104 (by kernel_rfl) rfl)
        (waiting1_stops Fence.wide 19 hfn hro (by omega) wr.heap.size (wr.heap.size + 1) g cap k jk (by omega) wL hBs hBt hJat (by omega)) KeepS.trans
        (fun W l o o' hl h _ _ => KeepS.putObj (B := wL.heap.size) (fun i hi => by simp at hi; omega) hl o') (Below.refl _ _) (fun _ => rfl)
        (fun pre W => pre = [] ∧ wL.grownBy W none) (fun c pre W => c = .ret ∧ pre ≠ [] ∧ wL.grownBy W none) ?own ?ownx ⟨rfl, grown_refl _ _⟩
        (fun x => { tmps := #[.slice (some ⟨g, 0, none⟩) js0.length cap, .int .i64 (k : Int), u 2, u 3, .pointer (some ⟨w.heap.size, 0, none⟩), .pointer (some ⟨w.heap.size + 1, 0, none⟩), v, u 7, u 8, u 9, .int .i64 (k : Int), .int .i64 (k : Int), .bool false, u 13, u 14, u 15, u 16, u 17, u 18, u 19, u 20, u 21, u 22, u 23, u 24, u 25, u 26, u 27, u 28, u 29, u 30, u 31, u 32, u 33, u 34, u 35, u 36, u 37, u 38, u 39, u 40, u 41, u 42, u 43, u 44, u 45, u 46, u 47, u 48, u 49, u 50, u 51, u 52, u 53, u 54, u 55, u 56, u 57, u 58, u 59, .slice (some ⟨g, 0, none⟩) js0.length cap, .int .i64 (k : Int), .func (.func 104) #[] #[.pointer (some ⟨wr.heap.size, 0, none⟩), .pointer (some ⟨wr.heap.size + 1, 0, none⟩)], .pointer (some ⟨g, x.1 * 4, none⟩), u 64], defers := [] }) ?assign ?body ?done ?stop
      case own =>
        rintro pre A B row ⟨h1, h2⟩ hg hr
        exact ⟨h1, ⟨hg.os.trans h2.os, hg.tape.trans h2.tape, hg.output.trans h2.output, Nat.le_trans h2.size hg.size, fun i hi hne => (hg.block i (Nat.lt_of_lt_of_le hi h2.size) (fun e => by have := (hr _ e.symm).1; omega)).trans (h2.block i hi hne)⟩⟩
      case ownx =>
        rintro c pre A B row ⟨h0, h1, h2⟩ hg hr
        exact ⟨h0, h1, ⟨hg.os.trans h2.os, hg.tape.trans h2.tape, hg.output.trans h2.output, Nat.le_trans h2.size hg.size, fun i hi hne => (hg.block i (Nat.lt_of_lt_of_le hi h2.size) (fun e => by have := (hr _ e.symm).1; omega)).trans (h2.block i hi hne)⟩⟩
      case assign =>
        intro l x W K hK
        gi_wp2
        exact hK
      case body =>
        rintro l pre x W ⟨hpre, hgW⟩ hpl
        have hB4W := hB4L.grown hgW (by simp)
        have hB5W := hB5L.grown hgW (by simp)
        have f4 := hB4W.frozen 0
        have f5 := hB5W.frozen 0
        have g4 := hB4W.cell 0 rfl
        have g5 := hB5W.cell 0 rfl
        have HP := Lib.hid hpre
        clear hpre
        gi_wp2
        refine ⟨(KeepsOthers.setCell W _ _).trans (KeepsOthers.setCell _ _ _), rfl, by simp, ?_⟩
        have e1 := hB4W.setCell 0 (.slice none 0 0)
        have e2 := (hB5W.setCell_other (a := ⟨w.heap.size, 0, none⟩) (by simp) (.slice none 0 0)).setCell 0 (.bool false)
        refine ⟨hgW.os, hgW.tape, hgW.output, by simpa [World.setCell] using hgW.size, fun i hi hne => ?_⟩
        by_cases h4 : i = w.heap.size
        · subst h4
          exact ((e1.setCell_other (a := ⟨w.heap.size + 1, 0, none⟩) (by simp) (.bool false)) : _).trans hB4L.symm
        · by_cases h5 : i = w.heap.size + 1
          · subst h5
            exact (e2 : _).trans hB5L.symm
          · exact (Below.heap_setCell _ _ _ _ h5).trans ((Below.heap_setCell _ _ _ _ h4).trans (hgW.block i hi hne))
      case done =>
        rintro D xs W hD rfl ⟨hnil, hgW⟩ hdef
        dsimp only
        have hotW := hotL.kept hgW (by cases v.ownBlock <;> simp)
        have hB4W := hB4L.grown hgW (by simp)
        have hB5W := hB5L.grown hgW (by simp)
        have hMW := (hML.grown hgW (fun r e => by cases e)).cons (by omega) hdef (fun hD2 => by have := hML.lt hD2; omega)
        have hgrW : w.grownBy W (some g) := ⟨hgW.os.trans hgrL.os, hgW.tape.trans hgrL.tape, hgW.output.trans hgrL.output, Nat.le_trans hgrL.size hgW.size, fun i hi hne => (hgW.block i (by omega) (by simp)).trans (hgrL.block i hi hne)⟩
        have hds : (({ target := .collected D, args := #[] } : Deferred) :: Ds.map mark) = (D :: Ds).map mark := rfl
        rw [hds]
        clear hds
        have f4 := hB4W.frozen 0
        have f5 := hB5W.frozen 0
        have g4 := hB4W.cell 0 rfl
        have g5 := hB5W.cell 0 rfl
        have HMD : Hid (madeL js0 k = some tk) := Lib.hid (by simp [madeL, hst, hnil])
        obtain ⟨tA, tn, tc, rfl⟩ : ∃ A n c, v = .slice A n c := by
          rcases hotW.2 with ⟨rfl, _⟩ | ⟨g', cap', cur, rfl, _⟩
          · exact ⟨none, 0, 0, rfl⟩
          · exact ⟨_, _, _, rfl⟩
        clear hnil hst
        gi_wp2
        have hB4' := (hB4W.setCell 0 (.slice tA tn tc)).setCell_other (a := ⟨w.heap.size + 1, 0, none⟩) (by simp) (.bool true)
        have hB5' := (hB5W.setCell_other (a := ⟨w.heap.size, 0, none⟩) (by simp) (.slice tA tn tc)).setCell 0 (.bool true)
        refine leave_ret ((hMW.setCell hB4W 0 _).setCell (hB5W.setCell_other (a := ⟨w.heap.size, 0, none⟩) (by simp) _) 0 _) fun w' hw' => ?_
        refine ⟨_, res26 rfl rfl ((hw'.blk hB4').cell 0 rfl) ((hw'.blk hB5').cell 0 rfl), .inl ⟨tk, _, HMD.out, rfl, hw'.owns ?_⟩, hw'.grown (Nat.le_refl _) ?_⟩
        · exact own_set (own_set hotW hB4W (by decide) 0 _) (hB5W.setCell_other (a := ⟨w.heap.size, 0, none⟩) (by simp) _) (by decide) 0 _
        · exact grown_new (grown_new hgrW (Nat.le_refl _) _ _) (by omega) _ _
      case stop =>
        rintro D c' pre W hD hpre ⟨rfl, hne, hgW⟩ hdef
        dsimp only
        have hB4W := hB4L.grown hgW (by simp)
        have hB5W := hB5L.grown hgW (by simp)
        have hMW := (hML.grown hgW (fun r e => by cases e)).cons (by omega) hdef (fun hD2 => by have := hML.lt hD2; omega)
        have hgrW : w.grownBy W (some g) := ⟨hgW.os.trans hgrL.os, hgW.tape.trans hgrL.tape, hgW.output.trans hgrL.output, Nat.le_trans hgrL.size hgW.size, fun i hi hne => (hgW.block i (by omega) (by simp)).trans (hgrL.block i hi hne)⟩
        have hds : (({ target := .collected D, args := #[] } : Deferred) :: Ds.map mark) = (D :: Ds).map mark := rfl
        rw [hds]
        clear hds
        gi_wp2
        refine leave_ret hMW fun w' hw' => ?_
        refine ⟨_, res26 rfl rfl ((hw'.blk hB4W).cell 0 rfl) ((hw'.blk hB5W).cell 0 rfl), .inr ⟨?_, rfl⟩, hw'.grown (Nat.le_refl _) hgrW⟩
        have hnn : waitUp jk k jk.length ≠ [] := by
          intro h0
          rw [h0] at hpre
          exact hne (List.prefix_nil.1 hpre)
        simp [madeL, hst, hnn]
end Go.Proofs.YtempbknidpmncaaDoor
