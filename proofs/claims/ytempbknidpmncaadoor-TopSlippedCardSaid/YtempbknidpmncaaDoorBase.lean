/-
  THE BASE OF THIS SEAT'S WALKS: words on worlds, maps and rows that the other texts of the claim lean on. No condition of its own.
-/
import Derived.Test.YtempbknidpmncaaDoorProg
import Derived.WalkKit
import Derived.WalkLawsBesides
import Derived.WalkSpells
import Derived.BigQuiet
import Derived.Deep.QuietTactic
import Derived.Maps.Own
import Derived.Maps.AppendAt
import Derived.MapKept
import Derived.Lib.Hide
import Derived.RangeFuncNested
import Derived.RangeFuncBound
import Derived.RangeFuncCalls
import Derived.RangeFuncLeaves
import Derived.RangeFuncBox
import Derived.Shelf.Abstract
import Derived.OwnWalkIn
import Derived.TacticsInMore
import Derived.LoopNIn
import Derived.LoopIn
namespace Go.Proofs.YtempbknidpmncaaDoor
open Go.RowKit

instance lawfulBytes : LawfulBEq ByteArray where
  eq_of_beq h := (MapKept.bytes_beq _ _).1 h
  rfl := (MapKept.bytes_beq _ _).2 rfl

/-- Block b holds a map with these keys and values, in the order of their first stores. -/
def MapIs (w : World) (b : Nat) (kvs : List (Value × Value)) : Prop :=
  ∃ es clock, w.heap[b]? = some (.map es clock) ∧ es.toList.map (fun e => (e.key, e.val)) = kvs

def setKV (ks : List ByteArray) : List (Value × Value) := ks.map fun s => (.string s, .bool true)

theorem findNow_str (s : ByteArray) : ∀ (ks : List ByteArray) (es : List MapEntry) (i : Nat), es.map (fun e => (e.key, e.val)) = setKV ks →
    Instr.findNow .string (.string s) es i = some (if s ∈ ks then (some (i + ks.idxOf s, .bool true)) else none) := by
  intro ks
  induction ks with
  | nil => intro es i h; simp [setKV] at h; subst h; simp [Instr.findNow]
  | cons k ks ih =>
    intro es i h
    cases es with
    | nil => simp [setKV] at h
    | cons e es =>
      simp only [setKV, List.map_cons, List.cons.injEq, Prod.mk.injEq] at h
      obtain ⟨⟨hk, hv⟩, ht⟩ := h
      have := ih es (i + 1) (by simpa [setKV] using ht)
      by_cases hs : s = k
      · subst hs; simp [Instr.findNow, hk, hv, Instr.sameNow]
      · have hs' : (s == k) = false := by simpa using hs
        have hs2 : (k == s) = false := by simpa using Ne.symm hs
        simp only [Instr.findNow, hk, Instr.sameNow, hs', this, List.mem_cons, hs, false_or]
        by_cases hm : s ∈ ks
        · simp [hm, List.idxOf_cons, hs2]; omega
        · simp [hm]
theorem run_checkKey_str {P : Program} {K : TypeId} (hK : P.underlying K = some .string) (e : Bool) (s : ByteArray) (w : World) : (Instr.checkKey e 10000 K (.string s)).run P w = .ok () w := by
  have h : ∀ n, (Instr.checkKey e (n + 1) K (.string s)).run P w = .ok () w := fun n => by simp [Instr.checkKey, run_underlying hK]
  exact h 9999
theorem run_lookup_set {P : Program} {w : World} {T K E b : Nat} {ks : List ByteArray} (hT : P.underlying T = some (.map K E)) (hK : P.underlying K = some .string)
    (hz : (zeroValue E).run P w = .ok (.bool false) w) (hM : MapIs w b (setKV ks)) (s : ByteArray) :
    (Instr.lookup T (.map (some b)) (.string s) false).run P w = .ok (.bool (decide (s ∈ ks))) w := by
  obtain ⟨es, clock, hb, he⟩ := hM
  have hf := findNow_str s ks es.toList 0 he
  have hck := fun e => run_checkKey_str hK e s w
  have hg : (getObj b).run P w = .ok (.map es clock) w := by simp [getObj, Sem.run, hb]
  unfold Instr.lookup
  simp [run_underlying hT, hg, hck, Instr.findKey, run_underlying hK, hf]
  by_cases hs : s ∈ ks
  · simp [hs]
  · simp [hs, hz]

theorem MapIs.of_block {w w' : World} {b : Nat} {kvs : List (Value × Value)} (h : MapIs w b kvs) (he : w'.heap[b]? = w.heap[b]?) : MapIs w' b kvs := by
  obtain ⟨es, clock, hb, hk⟩ := h
  exact ⟨es, clock, he.trans hb, hk⟩
theorem MapIs.lt {w : World} {b : Nat} {kvs : List (Value × Value)} (h : MapIs w b kvs) : b < w.heap.size := by
  obtain ⟨es, clock, hb, _⟩ := h
  exact (Array.getElem?_eq_some_iff.1 hb).1
theorem MapIs.alloc {w : World} {b : Nat} {kvs : List (Value × Value)} (h : MapIs w b kvs) (o : Obj) : MapIs (w.alloc o) b kvs :=
  h.of_block (Below.heap_alloc w o b h.lt)
theorem MapIs.made (w : World) : MapIs (w.alloc (.map #[] 0)) w.heap.size [] := ⟨#[], 0, heap_alloc_new w _, rfl⟩

/-- An object of the call's own is turned. -/
theorem below_putObj {B : Nat} {a w : World} (h : Below B a w) {r : Nat} (hr : B ≤ r) (o : Obj) : Below B a (w.putObj r o) :=
  h.trans ⟨rfl, rfl, rfl, by simp [World.putObj], fun _ hk => World.putObj_heap_other (by omega)⟩

/-- A store of a key that is new: the map has it behind all others. -/
theorem run_mapUpdate_set {P : Program} {w : World} {T K E b : Nat} {ks : List ByteArray} (hT : P.underlying T = some (.map K E)) (hK : P.underlying K = some .string)
    (hM : MapIs w b (setKV ks)) (s : ByteArray) (hs : s ∉ ks) :
    ∃ w', (Instr.mapUpdate T (.map (some b)) (.string s) (.bool true)).run P w = .ok () w' ∧ MapIs w' b (setKV (ks ++ [s])) ∧
      (∃ o, w' = w.putObj b o) := by
  obtain ⟨es, clock, hb, he⟩ := hM
  have hf := findNow_str s ks es.toList 0 he
  have hck := fun e => run_checkKey_str hK e s w
  have hg : (getObj b).run P w = .ok (.map es clock) w := by simp [getObj, Sem.run, hb]
  have hlt := (Array.getElem?_eq_some_iff.1 hb).1
  refine ⟨w.putObj b (.map (es.push { key := .string s, val := .bool true, born := clock }) (clock + 1)), ?_, ⟨_, _, World.putObj_heap_same hlt, ?_⟩, _, rfl⟩
  · unfold Instr.mapUpdate
    simp [run_underlying hT, hg, hck, Instr.findKey, run_underlying hK, hf, hs, setObj, Sem.run, hb, World.putObj]
  · simp [he, setKV]

/-! ### A block of cells, known whole -/
def Blk (w : World) (b : Nat) (cs : Array Value) (t : TypeId) : Prop := w.heap[b]? = some (.cells cs t (0, 0))
theorem Blk.new (w : World) (cs : Array Value) (t : TypeId) : Blk (w.alloc (.cells cs t)) w.heap.size cs t := heap_alloc_new w _
theorem Blk.lt {w : World} {b : Nat} {cs : Array Value} {t : TypeId} (h : Blk w b cs t) : b < w.heap.size := (Array.getElem?_eq_some_iff.1 h).1
theorem Blk.of_block {w w' : World} {b : Nat} {cs : Array Value} {t : TypeId} (h : Blk w b cs t) (he : w'.heap[b]? = w.heap[b]?) : Blk w' b cs t := he.trans h
theorem Blk.alloc {w : World} {b : Nat} {cs : Array Value} {t : TypeId} (h : Blk w b cs t) (o : Obj) : Blk (w.alloc o) b cs t := h.of_block (Below.heap_alloc w o b h.lt)
theorem Blk.below {w w' : World} {b B : Nat} {cs : Array Value} {t : TypeId} (h : Blk w b cs t) (hb : Below B w w') (hlt : b < B) : Blk w' b cs t := h.of_block (hb.block b hlt)
theorem Blk.grown {w w' : World} {b : Nat} {cs : Array Value} {t : TypeId} {row : Option Nat} (h : Blk w b cs t) (hg : w.grownBy w' row) (hne : some b ≠ row) : Blk w' b cs t := h.of_block (hg.block b h.lt hne)
theorem Blk.cell {w : World} {b : Nat} {cs : Array Value} {t : TypeId} (h : Blk w b cs t) (j : Nat) {v : Value} (hv : cs[j]? = some v) : w.cell? ⟨b, j, none⟩ = some v := by
  unfold Blk at h
  simp [World.cell?, h, hv]
theorem Blk.frozen {w : World} {b : Nat} {cs : Array Value} {t : TypeId} (h : Blk w b cs t) (j : Nat) : w.frozen? ⟨b, j, none⟩ = false := by
  unfold Blk at h
  simp [World.frozen?, h]
theorem Blk.setCell {w : World} {b : Nat} {cs : Array Value} {t : TypeId} (h : Blk w b cs t) (j : Nat) (v : Value) : Blk (w.setCell ⟨b, j, none⟩ v) b (cs.setIfInBounds j v) t := by
  unfold Blk at *
  simp [World.setCell, Array.getElem?_modify, h]
theorem Blk.setCell_other {w : World} {b : Nat} {cs : Array Value} {t : TypeId} (h : Blk w b cs t) {a : Addr} (ha : b ≠ a.block) (v : Value) : Blk (w.setCell a v) b cs t :=
  h.of_block (Below.heap_setCell w a v b ha)
/-- A row of another element type lies elsewhere. -/
theorem ownBlock_ne {w : World} {base e size n b : Nat} {v : Value} {xs : List Value} {cs : Array Value} {t : TypeId} (h : w.ownsRow base e size v n xs) (hB : Blk w b cs t) (hne : e ≠ t) : some b ≠ v.ownBlock := by
  intro he
  rcases h.2 with ⟨rfl, _⟩ | ⟨g, cap, cur, rfl, _, hh, _⟩
  · simp [Value.ownBlock] at he
  · simp only [Value.ownBlock, Option.some.injEq] at he
    subst he
    unfold Blk at hB
    rw [hh] at hB
    injection hB with hB
    injection hB with _ ht
    exact hne ht

theorem news_of_cells (w : World) (xs : List Value) (t : TypeId) : ∀ j u, xs[j]? = some u → (w.alloc (.cells xs.toArray t)).cell? ((⟨w.heap.size, 0, none⟩ : Addr).add j) = some u := by
  intro j u hj
  have h2 : ((⟨w.heap.size, 0, none⟩ : Addr).add j) = ⟨w.heap.size, j, none⟩ := by
    unfold Addr.add; split <;> simp_all
  rw [h2]
  have h3 := heap_alloc_new w (.cells xs.toArray t)
  simp only [World.cell?, h3]
  simpa using hj

/-- append(v, x) of ONE element of 'size' cells, x just laid: what it comes to. -/
theorem run_append_one {P : Program} {w0 W : World} (base : Nat) (t e ty : TypeId) (z : Value) (size bytes : Nat)
    (ht : P.underlying t = some (.slice e)) (hinfo : (P.info? e).map (fun i => (i.zero, i.size, i.bytes)) = some (some z, size, bytes)) (hz : z.cells.size = size) (hsz : 0 < size)
    (v : Value) (n : Nat) (xs ys : List Value) (hy : ys.length = size) (h1 : ∀ u ∈ ys, u.oneCell' = true)
    (HO : W.ownsRow base e size v n xs) (HB : Below base w0 W) (hbase : base ≤ W.heap.size) (hm : n + 1 ≤ maxLen) (hl : (n + 1) * bytes ≤ 140737488355328) :
    ∃ g cap w1, (Builtin.append_ #[t, t] ty #[v, .slice (some ⟨W.heap.size, 0, none⟩) 1 1]).run P (W.alloc (.cells ys.toArray e)) = .ok (.slice (some ⟨g, 0, none⟩) (n + 1) cap) w1 ∧
      w1.ownsRow base e size (.slice (some ⟨g, 0, none⟩) (n + 1) cap) (n + 1) (xs ++ ys) ∧ Below base w0 w1 ∧ W.grownBy w1 v.ownBlock ∧ (v.ownBlock = some g ∨ W.heap.size ≤ g) ∧ base ≤ g ∧ g < w1.heap.size := by
  obtain ⟨i0, hi, hzz⟩ := Option.map_eq_some_iff.1 hinfo
  simp only [Prod.mk.injEq] at hzz
  obtain ⟨hz0, hz1, hz2⟩ := hzz
  obtain ⟨v1, w1, hr, hown, hg, _, hat⟩ := run_append_own_at (P := P) (W.alloc (.cells ys.toArray e)) base t ty e i0 z size bytes ht hi hz0 hz1 hz2 hz hsz v n xs (HO.alloc _) ⟨W.heap.size, 0, none⟩ 1 1 ys (by simp [hy])
    (news_of_cells W ys e) h1 hm hl (by simp; omega)
  have hg2 : W.grownBy w1 v.ownBlock := World.grownBy.trans (World.grownBy_alloc W _ _) hg
  have hform : ∃ g cap, v1 = .slice (some ⟨g, 0, none⟩) (n + 1) cap ∧ base ≤ g ∧ g < w1.heap.size := by
    rcases hown.2 with ⟨_, h0⟩ | ⟨g, cap, cur, hv, hb, hh, _⟩
    · omega
    · exact ⟨g, cap, hv, hb, (Array.getElem?_eq_some_iff.1 hh).1⟩
  obtain ⟨g, cap, rfl, hbg, hlt⟩ := hform
  refine ⟨g, cap, w1, hr, hown, (HB.alloc hbase _).grown hg (by simp; omega) (fun k hk => (HO.lt k hk).1), hg2, ?_, hbg, hlt⟩
  rcases hat with hat | hat
  · exact .inl hat.symm
  · simp [Value.ownBlock] at hat
    exact .inr (by omega)

/-- The same at the operation. -/
theorem append_one {P : Program} {ops : Array Oper} {rest : List Oper} {o : Oper} {a : Act} {Q : Exit → Act → World → Prop} {w0 W : World} (base : Nat) (hgd : o.guard = none) (s x : Operand) (t e : TypeId) (z : Value) (size bytes : Nat)
    (ho : o.op = .call { callee := .builtin .append, args := #[s, x], argTypes := #[t, t] })
    (ht : P.underlying t = some (.slice e)) (hinfo : (P.info? e).map (fun i => (i.zero, i.size, i.bytes)) = some (some z, size, bytes)) (hz : z.cells.size = size) (hsz : 0 < size)
    (v : Value) (n : Nat) (xs ys : List Value) (hs : a.eval s = v) (hx : a.eval x = .slice (some ⟨W.heap.size, 0, none⟩) 1 1) (hy : ys.length = size) (h1 : ∀ u ∈ ys, u.oneCell' = true)
    (HO : W.ownsRow base e size v n xs) (HB : Below base w0 W) (hbase : base ≤ W.heap.size) (hm : n + 1 ≤ maxLen) (hl : (n + 1) * bytes ≤ 140737488355328)
    (h : ∀ g cap w1, w1.ownsRow base e size (.slice (some ⟨g, 0, none⟩) (n + 1) cap) (n + 1) (xs ++ ys) → Below base w0 w1 → W.grownBy w1 v.ownBlock → (v.ownBlock = some g ∨ W.heap.size ≤ g) → base ≤ g → g < w1.heap.size → wpList P ops Q rest (a.put o.dst (.slice (some ⟨g, 0, none⟩) (n + 1) cap)) w1) :
    wpList P ops Q (o :: rest) a (W.alloc (.cells ys.toArray e)) := by
  obtain ⟨g, cap, w1, hr, h2, h3, h4, h5, h6, h7⟩ := run_append_one (P := P) (w0 := w0) base t e o.type z size bytes ht hinfo hz hsz v n xs ys hy h1 HO HB hbase hm hl
  refine wpList_plain hgd fun K hK => ?_
  unfold Oper.wp execOp
  simp only [ho, resolve, invoke, builtin, Sem.run_bind, Sem.run_pure, Result.andThen_ok, List.map_toArray, List.map_cons, List.map_nil, hs, hx, hr]
  exact hK _ _ (h g cap w1 h2 h3 h4 h5 h6 h7)

/-- .. inside a fence. -/
theorem append_oneI {F : Fence} {m : Nat} {P : Program} {ops : Array Oper} {rest : List Oper} {o : Oper} {a : Act} {Q : Exit → Act → World → Prop} {w0 W : World} (base : Nat) (hgd : o.guard = none) (s x : Operand) (t e : TypeId) (z : Value) (size bytes : Nat)
    (ho : o.op = .call { callee := .builtin .append, args := #[s, x], argTypes := #[t, t] })
    (ht : P.underlying t = some (.slice e)) (hinfo : (P.info? e).map (fun i => (i.zero, i.size, i.bytes)) = some (some z, size, bytes)) (hz : z.cells.size = size) (hsz : 0 < size)
    (v : Value) (n : Nat) (xs ys : List Value) (hs : a.eval s = v) (hx : a.eval x = .slice (some ⟨W.heap.size, 0, none⟩) 1 1) (hy : ys.length = size) (h1 : ∀ u ∈ ys, u.oneCell' = true)
    (HO : W.ownsRow base e size v n xs) (HB : Below base w0 W) (hbase : base ≤ W.heap.size) (hm : n + 1 ≤ maxLen) (hl : (n + 1) * bytes ≤ 140737488355328)
    (h : ∀ g cap w1, w1.ownsRow base e size (.slice (some ⟨g, 0, none⟩) (n + 1) cap) (n + 1) (xs ++ ys) → Below base w0 w1 → W.grownBy w1 v.ownBlock → (v.ownBlock = some g ∨ W.heap.size ≤ g) → base ≤ g → g < w1.heap.size → wpListIn F m P ops Q rest (a.put o.dst (.slice (some ⟨g, 0, none⟩) (n + 1) cap)) w1) :
    wpListIn F m P ops Q (o :: rest) a (W.alloc (.cells ys.toArray e)) := by
  obtain ⟨g, cap, w1, hr, h2, h3, h4, h5, h6, h7⟩ := run_append_one (P := P) (w0 := w0) base t e o.type z size bytes ht hinfo hz hsz v n xs ys hy h1 HO HB hbase hm hl
  refine wpListIn_plain hgd fun K hK => ?_
  unfold Oper.wpIn
  refine ⟨?_, ?_⟩
  · simp [Oper.about, ho, resolve, Target.leads, Sem.run_pure]
  · rw [Oper.semAt_plain F _ _ (by rw [ho]; intro c hc'; cases hc')]
    simp only [execOp, ho, resolve, invoke, builtin, Sem.run_bind, Sem.run_pure, Result.andThen_ok, List.map_toArray, List.map_cons, List.map_nil, hs, hx, hr]
    exact hK _ _ (h g cap w1 h2 h3 h4 h5 h6 h7)

theorem append_oneB {P : Program} {ops : Array Oper} {rest : List Oper} {o : Oper} {a : Act} {Q : Exit → Act → World → Prop} {w0 W : World} (base : Nat) (hgd : o.guard = none) (s x : Operand) (t e : TypeId) (z : Value) (size bytes : Nat)
    (ho : o.op = .call { callee := .builtin .append, args := #[s, x], argTypes := #[t, t] })
    (ht : P.underlying t = some (.slice e)) (hinfo : (P.info? e).map (fun i => (i.zero, i.size, i.bytes)) = some (some z, size, bytes)) (hz : z.cells.size = size) (hsz : 0 < size)
    (v : Value) (n : Nat) (xs ys : List Value) (hs : a.eval s = v) (B : Nat) (hB : B = W.heap.size) (hx : a.eval x = .slice (some ⟨B, 0, none⟩) 1 1) (hy : ys.length = size) (h1 : ∀ u ∈ ys, u.oneCell' = true)
    (HO : W.ownsRow base e size v n xs) (HB : Below base w0 W) (hbase : base ≤ W.heap.size) (hm : n + 1 ≤ maxLen) (hl : (n + 1) * bytes ≤ 140737488355328)
    (h : ∀ g cap w1, w1.ownsRow base e size (.slice (some ⟨g, 0, none⟩) (n + 1) cap) (n + 1) (xs ++ ys) → Below base w0 w1 → W.grownBy w1 v.ownBlock → (v.ownBlock = some g ∨ W.heap.size ≤ g) → base ≤ g → g < w1.heap.size → wpList P ops Q rest (a.put o.dst (.slice (some ⟨g, 0, none⟩) (n + 1) cap)) w1) :
    wpList P ops Q (o :: rest) a (W.alloc (.cells ys.toArray e)) := append_one (w0 := w0) base hgd s x t e z size bytes ho ht hinfo hz hsz v n xs ys hs (by rw [← hB]; exact hx) hy h1 HO HB hbase hm hl h

theorem append_oneIB {F : Fence} {m : Nat} {P : Program} {ops : Array Oper} {rest : List Oper} {o : Oper} {a : Act} {Q : Exit → Act → World → Prop} {w0 W : World} (base : Nat) (hgd : o.guard = none) (s x : Operand) (t e : TypeId) (z : Value) (size bytes : Nat)
    (ho : o.op = .call { callee := .builtin .append, args := #[s, x], argTypes := #[t, t] })
    (ht : P.underlying t = some (.slice e)) (hinfo : (P.info? e).map (fun i => (i.zero, i.size, i.bytes)) = some (some z, size, bytes)) (hz : z.cells.size = size) (hsz : 0 < size)
    (v : Value) (n : Nat) (xs ys : List Value) (hs : a.eval s = v) (B : Nat) (hB : B = W.heap.size) (hx : a.eval x = .slice (some ⟨B, 0, none⟩) 1 1) (hy : ys.length = size) (h1 : ∀ u ∈ ys, u.oneCell' = true)
    (HO : W.ownsRow base e size v n xs) (HB : Below base w0 W) (hbase : base ≤ W.heap.size) (hm : n + 1 ≤ maxLen) (hl : (n + 1) * bytes ≤ 140737488355328)
    (h : ∀ g cap w1, w1.ownsRow base e size (.slice (some ⟨g, 0, none⟩) (n + 1) cap) (n + 1) (xs ++ ys) → Below base w0 w1 → W.grownBy w1 v.ownBlock → (v.ownBlock = some g ∨ W.heap.size ≤ g) → base ≤ g → g < w1.heap.size → wpListIn F m P ops Q rest (a.put o.dst (.slice (some ⟨g, 0, none⟩) (n + 1) cap)) w1) :
    wpListIn F m P ops Q (o :: rest) a (W.alloc (.cells ys.toArray e)) := append_oneI (w0 := w0) base hgd s x t e z size bytes ho ht hinfo hz hsz v n xs ys hs (by rw [← hB]; exact hx) hy h1 HO HB hbase hm hl h

end Go.Proofs.YtempbknidpmncaaDoor
