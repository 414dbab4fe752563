/-
  A RANGE OVER A FUNCTION: the marks that such loops leave behind, and how a function leaves with many of them. It speaks of any program.
-/
import Derived.Test.YtempbknidpmncaaDoorBase
namespace Go.Proofs.YtempbknidpmncaaDoor
open Go.RowKit

/-- The blocks of a list lie as they lay. -/
def KeepS (S : List Nat) (W W' : World) : Prop := ∀ k ∈ S, W'.heap[k]? = W.heap[k]?
theorem KeepS.refl (S : List Nat) (W : World) : KeepS S W W := fun _ _ => rfl
theorem KeepS.trans {S : List Nat} {A B C : World} (h : KeepS S A B) (k : KeepS S B C) : KeepS S A C := fun i hi => (k i hi).trans (h i hi)
theorem KeepS.putObj {S : List Nat} {W : World} {B l : Nat} (hS : ∀ k ∈ S, k < B) (hl : B ≤ l) (o : Obj) : KeepS S W (W.putObj l o) := fun k hk => World.putObj_heap_other (by have := hS k hk; omega)
theorem KeepS.setCell {S : List Nat} {W : World} {a : Addr} (ha : ∀ k ∈ S, k ≠ a.block) (v : Value) : KeepS S W (W.setCell a v) := fun k hk => Below.heap_setCell W a v k (ha k hk)

def mark (D : Nat) : Deferred := { target := .collected D, args := #[] }
/-- The marks' blocks lie beyond B, open and empty, each once. -/
def Marks (B : Nat) (w : World) (Ds : List Nat) : Prop := Ds.Nodup ∧ ∀ D ∈ Ds, B ≤ D ∧ w.heap[D]? = some (.deferred (some []))
theorem Marks.nil (B : Nat) (w : World) : Marks B w [] := ⟨List.nodup_nil, fun _ h => by cases h⟩
theorem Marks.kept {B : Nat} {w w' : World} {Ds : List Nat} (h : Marks B w Ds) (hk : ∀ k : Nat, w.heap[k]? = some (.deferred (some [])) → w'.heap[k]? = w.heap[k]?) : Marks B w' Ds :=
  ⟨h.1, fun D hD => ⟨(h.2 D hD).1, (hk D (h.2 D hD).2).trans (h.2 D hD).2⟩⟩
theorem Marks.lt {B : Nat} {w : World} {Ds : List Nat} (h : Marks B w Ds) {D : Nat} (hD : D ∈ Ds) : D < w.heap.size := (Array.getElem?_eq_some_iff.1 (h.2 D hD).2).1
theorem Marks.cons {B : Nat} {w : World} {Ds : List Nat} (h : Marks B w Ds) {D : Nat} (hB : B ≤ D) (hD : w.heap[D]? = some (.deferred (some []))) (hn : D ∉ Ds) : Marks B w (D :: Ds) :=
  ⟨List.nodup_cons.2 ⟨hn, h.1⟩, fun E hE => by
    rcases List.mem_cons.1 hE with rfl | hE
    · exact ⟨hB, hD⟩
    · exact h.2 E hE⟩
theorem Marks.grown {B : Nat} {w w' : World} {Ds : List Nat} {row : Option Nat} (h : Marks B w Ds) (hg : w.grownBy w' row) (hr : ∀ r, row = some r → w.heap[r]? ≠ some (Obj.deferred (some []))) : Marks B w' Ds :=
  h.kept fun k hk => hg.block k (Array.getElem?_eq_some_iff.1 hk).1 (fun e => hr k e.symm hk)
theorem Marks.alloc {B : Nat} {w : World} {Ds : List Nat} (h : Marks B w Ds) (o : Obj) : Marks B (w.alloc o) Ds := h.grown (World.grownBy_alloc w o none) (fun r e => by cases e)

/-- Only deferred-call blocks at or beyond B have turned. -/
structure DKeep (B : Nat) (w w' : World) : Prop where
  os : w'.os = w.os
  tape : w'.tape = w.tape
  output : w'.output = w.output
  size : w'.heap.size = w.heap.size
  block : ∀ k : Nat, (k < B ∨ w.heap[k]? ≠ some (.deferred (some []))) → w'.heap[k]? = w.heap[k]?
theorem DKeep.refl (B : Nat) (w : World) : DKeep B w w := ⟨rfl, rfl, rfl, rfl, fun _ _ => rfl⟩
theorem DKeep.cells {B : Nat} {w w' : World} (h : DKeep B w w') {k : Nat} {cs : Array Value} {t : TypeId} {fr : Nat × Nat} (hk : w.heap[k]? = some (.cells cs t fr)) : w'.heap[k]? = w.heap[k]? :=
  h.block k (.inr (by rw [hk]; intro e; cases e))
theorem DKeep.below {B : Nat} {w w' : World} (h : DKeep B w w') : Below B w w' := ⟨h.os, h.tape, h.output, Nat.le_of_eq h.size.symm, fun k hk => h.block k (.inl hk)⟩
theorem DKeep.blk {B : Nat} {w w' : World} (h : DKeep B w w') {b : Nat} {cs : Array Value} {t : TypeId} (hb : Blk w b cs t) : Blk w' b cs t := hb.of_block (h.cells hb)
theorem DKeep.owns {B base e size n : Nat} {w w' : World} {v : Value} {xs : List Value} (h : DKeep B w w') (hown : w.ownsRow base e size v n xs) : w'.ownsRow base e size v n xs := by
  obtain ⟨h1, h2⟩ := hown
  refine ⟨h1, ?_⟩
  rcases h2 with h2 | ⟨g, cap, cur, hv, hg, hh, r⟩
  · exact .inl h2
  · exact .inr ⟨g, cap, cur, hv, hg, (h.cells hh).trans hh, r⟩
theorem DKeep.grown {B : Nat} {w0 w w' : World} {row : Option Nat} (h : DKeep B w w') (hB : w0.heap.size ≤ B) (hg : w0.grownBy w row) : w0.grownBy w' row :=
  ⟨h.os.trans hg.os, h.tape.trans hg.tape, h.output.trans hg.output, by rw [h.size]; exact hg.size, fun k hk hne => (h.block k (.inl (by omega))).trans (hg.block k hk hne)⟩

theorem leavesM_marks {F : Fence} {n : Nat} {P : Program} {fn : Func} {tmps : Array Value} {R : Ending → World → Prop} {B : Nat} : ∀ (Ds : List Nat) (w : World), Marks B w Ds →
    (∀ w', DKeep B w w' → LeavesIn F n P fn tmps R [] .returning w') → LeavesInM F n P fn tmps R (Ds.map mark) .returning w
  | [], w, _, h => h w (DKeep.refl B w)
  | D :: Ds, w, hM, h => by
    obtain ⟨hD1, hD2⟩ := hM.2 D (List.mem_cons_self ..)
    have hnd := List.nodup_cons.1 hM.1
    have hlt := (Array.getElem?_eq_some_iff.1 hD2).1
    refine ⟨by simp, .inl ⟨D, _, rfl, run_takeDeferred hD2, leavesM_marks Ds _ ⟨hnd.2, fun E hE => ⟨(hM.2 E (List.mem_cons_of_mem _ hE)).1, ?_⟩⟩ fun w' hw' => h w' ?_⟩⟩
    · have hne : E ≠ D := fun e => hnd.1 (e ▸ hE)
      exact (World.putObj_heap_other hne).trans (hM.2 E (List.mem_cons_of_mem _ hE)).2
    · refine ⟨hw'.os, hw'.tape, hw'.output, by rw [hw'.size]; simp [World.putObj], fun k hk => ?_⟩
      by_cases hkD : k = D
      · subst hkD
        rcases hk with hk | hk
        · omega
        · exact absurd hD2 hk
      · have e1 : (w.putObj D (.deferred none)).heap[k]? = w.heap[k]? := World.putObj_heap_other hkD
        rw [← e1]
        exact hw'.block k (by rw [e1]; exact hk)
theorem grown_drew {A B : World} {row : Option Nat} (h : A.grownBy B row) : A.grownBy B.drew row := ⟨h.os, h.tape, h.output, h.size, h.block⟩
theorem grown_refl (A : World) (row : Option Nat) : A.grownBy A row := ⟨rfl, rfl, rfl, Nat.le_refl _, fun _ _ _ => rfl⟩
theorem own_other {w w' : World} {b b' e e' s s' n n' : Nat} {v v' : Value} {xs xs' : List Value} (h : w.ownsRow b e s v n xs) (h' : w.ownsRow b' e' s' v' n' xs') (hne : e ≠ e') (hg : w.grownBy w' v'.ownBlock) : w'.ownsRow b e s v n xs := by
  refine h.kept hg ?_
  rcases h.2 with ⟨rfl, _⟩ | ⟨g, cap, cur, rfl, _, hh, _⟩
  · exact .inl rfl
  · exact .inr (fun he => ownBlock_ne h' hh (Ne.symm hne) he)
theorem Marks.own {B : Nat} {w w' : World} {Ds : List Nat} {b e s n : Nat} {v : Value} {xs : List Value} (h : Marks B w Ds) (hv : w.ownsRow b e s v n xs) (hg : w.grownBy w' v.ownBlock) : Marks B w' Ds := by
  refine h.grown hg fun r hr hd => ?_
  rcases hv.2 with ⟨rfl, _⟩ | ⟨g, cap, cur, rfl, _, hh, _⟩
  · simp [Value.ownBlock] at hr
  · simp only [Value.ownBlock, Option.some.injEq] at hr
    subst hr
    rw [hh] at hd
    cases hd
theorem Marks.setCell {B : Nat} {w : World} {Ds : List Nat} (h : Marks B w Ds) {b : Nat} {cs : Array Value} {t : TypeId} {fr : Nat × Nat} (hb : w.heap[b]? = some (.cells cs t fr)) (j : Nat) (v : Value) : Marks B (w.setCell ⟨b, j, none⟩ v) Ds :=
  h.kept fun k hk => Below.heap_setCell _ _ _ _ (fun e => by
    have e' : k = b := e
    subst e'
    rw [hb] at hk
    cases hk)
/-- An append onto a row of the call's own, seen from where the call began. -/
theorem grown_own {w0 w w' : World} {row : Option Nat} {b e s n : Nat} {v : Value} {xs : List Value} (h : w0.grownBy w row) (hb : w0.heap.size ≤ b) (hv : w.ownsRow b e s v n xs) (hg : w.grownBy w' v.ownBlock) : w0.grownBy w' row :=
  ⟨hg.os.trans h.os, hg.tape.trans h.tape, hg.output.trans h.output, Nat.le_trans h.size hg.size, fun i hi hne => (hg.block i (Nat.lt_of_lt_of_le hi h.size) (fun he => by have := (hv.lt i he.symm).1; omega)).trans (h.block i hi hne)⟩

theorem leave_ret {F : Fence} {n : Nat} {P : Program} {fn : Func} {tmps : Array Value} {R : Ending → World → Prop} {B : Nat} {Ds : List Nat} {W : World} (hM : Marks B W Ds)
    (h : ∀ w', DKeep B W w' → ∃ v, (results fn tmps).run P w' = .ok v w' ∧ R (.returned v) w') : bodyPostM F n P fn R .ret { tmps, defers := Ds.map mark } W := leavesM_marks Ds W hM h

theorem own_set {w : World} {b e s n bb : Nat} {v : Value} {xs : List Value} {cs : Array Value} {t : TypeId} (h : w.ownsRow b e s v n xs) (hB : Blk w bb cs t) (hne : e ≠ t) (j : Nat) (u : Value) : (w.setCell ⟨bb, j, none⟩ u).ownsRow b e s v n xs :=
  h.kept (row := some bb) ⟨rfl, rfl, rfl, by simp [World.setCell], fun i _ hi => Below.heap_setCell _ _ _ _ (by simpa using hi)⟩ (.inr (Ne.symm (ownBlock_ne h hB hne)))

/-- An array, written out. -/
theorem arr_lit (a : Array Value) (n : Nat) (h : a.size = n) : ∃ u : Nat → Value, a = ((List.range n).map u).toArray ∧ ∀ i, a.getD i undef = u i := by
  refine ⟨fun i => a.getD i undef, ?_, fun _ => rfl⟩
  subst h
  apply Array.ext
  · simp
  · intro i h1 h2
    simp [h1]
end Go.Proofs.YtempbknidpmncaaDoor
