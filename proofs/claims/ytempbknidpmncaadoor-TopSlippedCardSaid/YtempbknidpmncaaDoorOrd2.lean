/-
  A REGION THAT DRAWS ITS ORDER, WALKED IN ONE ORDER: each operation is of a class (0: it comes to its value in whatever world; 1: a load of what was there when the region began; 2: it leaves the world alone; 3: whatever else, leaving old memory alone where loads may be moved past it; 4: whatever else, behind all loads of old memory); a closed check says that of two operations whose order is open one may be moved past the other.
  No condition of its own: it speaks of any program.
-/
import Derived.OrdersIn
import Derived.Below
import Derived.Deep.RegionHeld3
namespace Go.Proofs.YtempbknidpmncaaDoor.O2
open Go.RowKit

section
variable {F : Fence} {n : Nat} {P : Program} {ops : Array Oper} {Q : Exit → Act → World → Prop} {w0 : World} {keep : Bool}

def txStep (F : Fence) (n : Nat) (P : Program) (ops : Array Oper) (w0 : World) (keep : Bool) (Q : Exit → Act → World → Prop) (o : Oper) (k : Nat) (next : Act → World → Prop) (a : Act) (w : World) : Prop :=
  if Region.wanted o (yielded ops a.tmps) then
    if k = 0 then ∃ v, (∀ w', (execOp a.eval o).run P w' = .ok (.value v) w') ∧ next (a.put o.dst v) w
    else if k = 1 then ∃ v, (∀ w', Below w0.heap.size w0 w' → (execOp a.eval o).run P w' = .ok (.value v) w') ∧ next (a.put o.dst v) w
    else if k = 2 then ∃ v, (execOp a.eval o).run P w = .ok (.value v) w ∧ next (a.put o.dst v) w
    else o.uponIn F n P a (fun a' w' => (keep = true → k = 3 → Below w0.heap.size w0 w') ∧ next a' w') (NoPanic Q) ((execOp a.eval o).run P w)
  else next (a.put o.dst undef) w

def wpTx (F : Fence) (n : Nat) (P : Program) (ops : Array Oper) (w0 : World) (keep : Bool) (Q : Exit → Act → World → Prop) : List (Nat × Nat × Nat) → Act → World → Prop
  | [], a, w => Q .normal a w
  | (i, k, _) :: rest, a, w => ∃ o, ops[i]? = some o ∧ txStep F n P ops w0 keep Q o k (wpTx F n P ops w0 keep Q rest) a w

/-- What 'uponIn' asks is carried on. -/
theorem uponIn_map {o : Oper} {a b : Act} {K K' : Act → World → Prop} {r : Result Next} (h : o.uponIn F n P b K (NoPanic Q) r)
    (hv : ∀ v w', K (b.put o.dst v) w' → K' (a.put o.dst v) w') (hd : ∀ d v w', K ({ b with defers := d :: b.defers }.put o.dst v) w' → K' ({ a with defers := d :: a.defers }.put o.dst v) w') :
    o.uponIn F n P a K' (NoPanic Q) r := by
  cases r with
  | ok x w' =>
    cases x <;> simp only [Oper.uponIn] at h ⊢ <;>
      first
        | exact hv _ _ h
        | exact hd _ _ _ h
        | exact ⟨h.1, CallsIn.mono h.2 (fun e w'' he => by cases e <;> first | exact hv _ _ he | exact he)⟩
        | exact ⟨h.1, RowsIn.mono h.2 (fun _ _ he => hv _ _ he)⟩
        | exact ⟨h.1, RoundIn.mono h.2 (fun e w'' he => by cases e <;> first | exact hv _ _ he | exact he)⟩
  | halt x w' => cases x <;> simp only [Oper.uponIn] at h ⊢ <;> exact h

def compat (ki kx : Nat) : Bool := ki == 0 || ki == 1 || (ki == 2 && (kx == 0 || kx == 1 || kx == 2))

theorem tx_swap {oi ox : Oper} {ki kx : Nat} {next : Act → World → Prop} {a : Act} {w : World} (hap : oi.apart ops ox = true) (hc : compat ki kx = true)
    (hsi : ∀ cs b, oi.op ≠ .select cs b) (hsx : ∀ cs b, ox.op ≠ .select cs b)
    (h : txStep F n P ops w0 keep Q oi ki (fun a w => txStep F n P ops w0 keep Q ox kx next a w) a w) :
    txStep F n P ops w0 keep Q ox kx (fun a w => txStep F n P ops w0 keep Q oi ki next a w) a w := by
  obtain ⟨h1, h2, h3⟩ := Oper.apart_spec hap
  have ei : ∀ (a : Act) u, execOp (a.put ox.dst u).eval oi = execOp a.eval oi := fun a u => execOp_put oi hsi a ox.dst u h3
  have wi : ∀ (a : Act) u, Region.wanted oi (yielded ops (a.put ox.dst u).tmps) = Region.wanted oi (yielded ops a.tmps) := fun a u => wanted_put oi a ox.dst u h3
  have ex : ∀ (a : Act) u, execOp (a.put oi.dst u).eval ox = execOp a.eval ox := fun a u => execOp_put ox hsx a oi.dst u h1
  have wx : ∀ (a : Act) u, Region.wanted ox (yielded ops (a.put oi.dst u).tmps) = Region.wanted ox (yielded ops a.tmps) := fun a u => wanted_put ox a oi.dst u h1
  have cm : ∀ (a : Act) v u, (a.put oi.dst v).put ox.dst u = (a.put ox.dst u).put oi.dst v := fun a v u => Act.put_comm a v u h2
  -- 'next' behind x, then i
  have core : ∀ (v : Value) (N : Act → World → Prop), txStep F n P ops w0 keep Q ox kx next (a.put oi.dst v) w →
      (∀ (a' : Act) (w' : World), (∀ e, execOp a'.eval oi = e ↔ execOp a.eval oi = e) → Region.wanted oi (yielded ops a'.tmps) = Region.wanted oi (yielded ops a.tmps) → (kx ≠ 3 → kx < 3 → w' = w) → next (a'.put oi.dst v) w' → N a' w') →
      txStep F n P ops w0 keep Q ox kx N a w := by
    intro v N hx hN
    unfold txStep at hx ⊢
    rw [wx a v, ex a v] at hx
    split
    · rename_i hw
      rw [if_pos hw] at hx
      by_cases k0 : kx = 0
      · rw [if_pos k0] at hx ⊢
        obtain ⟨u, hu, hn⟩ := hx
        exact ⟨u, hu, hN _ _ (fun e => by rw [ei]) (wi _ _) (fun _ _ => rfl) (by rw [← cm]; exact hn)⟩
      · rw [if_neg k0] at hx ⊢
        by_cases k1 : kx = 1
        · rw [if_pos k1] at hx ⊢
          obtain ⟨u, hu, hn⟩ := hx
          exact ⟨u, hu, hN _ _ (fun e => by rw [ei]) (wi _ _) (fun _ _ => rfl) (by rw [← cm]; exact hn)⟩
        · rw [if_neg k1] at hx ⊢
          by_cases k2 : kx = 2
          · rw [if_pos k2] at hx ⊢
            obtain ⟨u, hu, hn⟩ := hx
            exact ⟨u, hu, hN _ _ (fun e => by rw [ei]) (wi _ _) (fun _ _ => rfl) (by rw [← cm]; exact hn)⟩
          · rw [if_neg k2] at hx ⊢
            refine uponIn_map hx (fun u w' hn => ⟨hn.1, hN _ _ (fun e => by rw [ei]) (wi _ _) (fun _ hl => by omega) (by rw [← cm]; exact hn.2)⟩) (fun d u w' hn => ⟨hn.1, hN _ _ (fun e => by rw [ei]; rfl) (wi _ _) (fun _ hl => by omega) ?_⟩)
            have e1 : ({ a.put oi.dst v with defers := d :: (a.put oi.dst v).defers } : Act) = ({ a with defers := d :: a.defers } : Act).put oi.dst v := Act.put_defers a oi.dst v d
            rw [← cm, ← e1]; exact hn.2
    · rename_i hw
      rw [if_neg hw] at hx
      exact hN _ _ (fun e => by rw [ei]) (wi _ _) (fun _ _ => rfl) (by rw [← cm]; exact hx)
  have h' := h
  unfold txStep at h'
  by_cases hwi : Region.wanted oi (yielded ops a.tmps) = true
  · rw [if_pos hwi] at h'
    by_cases k0 : ki = 0
    · rw [if_pos k0] at h'
      obtain ⟨v, hv, hx⟩ := h'
      refine core v _ hx fun a' w' he hw' _ hn => ?_
      unfold txStep
      rw [if_pos (hw'.trans hwi), if_pos k0]
      exact ⟨v, fun w'' => by rw [(he _).2 rfl]; exact hv w'', hn⟩
    · rw [if_neg k0] at h'
      by_cases k1 : ki = 1
      · rw [if_pos k1] at h'
        obtain ⟨v, hv, hx⟩ := h'
        refine core v _ hx fun a' w' he hw' _ hn => ?_
        unfold txStep
        rw [if_pos (hw'.trans hwi), if_neg k0, if_pos k1]
        exact ⟨v, fun w'' hb => by rw [(he _).2 rfl]; exact hv w'' hb, hn⟩
      · rw [if_neg k1] at h'
        by_cases k2 : ki = 2
        · rw [if_pos k2] at h'
          obtain ⟨v, hv, hx⟩ := h'
          have hk3 : kx < 3 := by
            simp [compat, k0, k1, k2] at hc
            omega
          refine core v _ hx fun a' w' he hw' hww hn => ?_
          have hw2 : w' = w := hww (by omega) hk3
          subst hw2
          unfold txStep
          rw [if_pos (hw'.trans hwi), if_neg k0, if_neg k1, if_pos k2]
          exact ⟨v, by rw [(he _).2 rfl]; exact hv, hn⟩
        · simp [compat, k0, k1, k2] at hc
  · rw [if_neg hwi] at h'
    refine core undef _ h' fun a' w' he hw' _ hn => ?_
    unfold txStep
    rw [if_neg (by rw [hw']; exact hwi)]
    exact hn
end

/-! ### The check -/
abbrev Entry := Nat × Nat × Nat
def rdeps (ops : Array Oper) (x : Nat) : List Nat := match ops[x]? with
  | some o => (o.after.toList.filter fun e => Region.binds .any e).map (·.on)
  | none => []
def maskOf (σ : List Entry) (x : Nat) : Nat := match σ.find? (fun e => e.1 == x) with | some e => e.2.2 | none => 0
def classOk (ops : Array Oper) (keep : Bool) (e : Entry) : Bool := match ops[e.1]? with
  | some o => (match o.op with | .select .. => false | .defer _ => false | _ => true) && (keep || e.2.1 != 1)
  | none => false
def pairOk (ops : Array Oper) (i x : Entry) : Bool := x.2.2.testBit i.1 ||
  (compat i.2.1 x.2.1 && match ops[i.1]?, ops[x.1]? with | some oi, some ox => oi.apart ops ox | _, _ => false)
def pairsOk (ops : Array Oper) : List Entry → Bool
  | [] => true
  | i :: r => r.all (pairOk ops i) && pairsOk ops r
/-- every edge goes to what stands ahead; each mask is paid by edges and their masks -/
def edgesOk (ops : Array Oper) (σ : List Entry) : List Nat → List Entry → Bool
  | _, [] => true
  | seen, e :: r => (rdeps ops e.1).all (seen.contains ·) &&
      (List.range ops.size).all (fun j => !e.2.2.testBit j || (rdeps ops e.1).any (fun d => d == j || (maskOf σ d).testBit j)) && edgesOk ops σ (e.1 :: seen) r
def ordOk (ops : Array Oper) (keep : Bool) (σ : List Entry) : Bool :=
  (List.range ops.size).all (fun i => σ.any (·.1 == i)) && σ.length == ops.size && decide (σ.map (·.1)).Nodup && σ.all (fun e => decide (e.1 < ops.size)) && σ.all (classOk ops keep) && pairsOk ops σ && edgesOk ops σ [] σ && σ.all (fun e => decide (e.2.1 < 4) || σ.all (fun f => f.2.1 != 1 || e.2.2.testBit f.1))

section
variable {F : Fence} {n : Nat} {P : Program} {ops : Array Oper} {Q : Exit → Act → World → Prop} {w0 : World} {keep : Bool}

theorem wpTx_mono_tail {σ : List Entry} {K : Act → World → Prop} {o : Oper} {k : Nat} {a : Act} {w : World} (h : txStep F n P ops w0 keep Q o k (wpTx F n P ops w0 keep Q σ) a w)
    (hK : ∀ a w, wpTx F n P ops w0 keep Q σ a w → K a w) : txStep F n P ops w0 keep Q o k K a w := by
  unfold txStep at h ⊢
  split
  · rename_i hw
    rw [if_pos hw] at h
    by_cases k0 : k = 0
    · rw [if_pos k0] at h ⊢; obtain ⟨v, hv, hn⟩ := h; exact ⟨v, hv, hK _ _ hn⟩
    · rw [if_neg k0] at h ⊢
      by_cases k1 : k = 1
      · rw [if_pos k1] at h ⊢; obtain ⟨v, hv, hn⟩ := h; exact ⟨v, hv, hK _ _ hn⟩
      · rw [if_neg k1] at h ⊢
        by_cases k2 : k = 2
        · rw [if_pos k2] at h ⊢; obtain ⟨v, hv, hn⟩ := h; exact ⟨v, hv, hK _ _ hn⟩
        · rw [if_neg k2] at h ⊢
          exact uponIn_map h (fun _ _ hn => ⟨hn.1, hK _ _ hn.2⟩) (fun _ _ _ hn => ⟨hn.1, hK _ _ hn.2⟩)
  · rename_i hw
    rw [if_neg hw] at h
    exact hK _ _ h

/-- An entry past which all ahead of it may be moved comes first. -/
theorem tx_front {x : Entry} {B : List Entry} : ∀ {A : List Entry} {a : Act} {w : World}, (∀ i ∈ A, ∀ oi ox, ops[i.1]? = some oi → ops[x.1]? = some ox → oi.apart ops ox = true ∧ compat i.2.1 x.2.1 = true ∧ (∀ cs b, oi.op ≠ .select cs b) ∧ (∀ cs b, ox.op ≠ .select cs b)) →
    (ops[x.1]?).isSome = true → wpTx F n P ops w0 keep Q (A ++ x :: B) a w → wpTx F n P ops w0 keep Q (x :: (A ++ B)) a w
  | [], _, _, _, _, h => h
  | i :: A, a, w, hA, hx, h => by
    obtain ⟨oi, hoi, hst⟩ := h
    obtain ⟨ox, hox⟩ := Option.isSome_iff_exists.1 hx
    obtain ⟨h1, h2, h3, h4⟩ := hA i (List.mem_cons_self ..) oi ox hoi hox
    have hst2 : txStep F n P ops w0 keep Q oi i.2.1 (fun a w => txStep F n P ops w0 keep Q ox x.2.1 (wpTx F n P ops w0 keep Q (A ++ B)) a w) a w := by
      refine wpTx_mono_tail hst fun a' w' hr => ?_
      obtain ⟨ox', hox', hr'⟩ := tx_front (fun j hj => hA j (List.mem_cons_of_mem _ hj)) hx hr
      rw [hox] at hox'
      injection hox' with e
      subst e
      exact hr'
    have := tx_swap h1 h2 h3 h4 hst2
    refine ⟨ox, hox, ?_⟩
    have e : wpTx F n P ops w0 keep Q (i :: A ++ B) = fun a w => txStep F n P ops w0 keep Q oi i.2.1 (wpTx F n P ops w0 keep Q (A ++ B)) a w := by
      funext a w
      apply propext
      constructor
      · rintro ⟨o, ho, hs⟩
        rw [hoi] at ho
        injection ho with e
        subst e
        exact hs
      · exact fun hs => ⟨oi, hoi, hs⟩
    rw [e]
    exact this

/-- One operation taken: what the calculus asks of it. -/
theorem wpOpIn_of_tx {o : Oper} {i k : Nat} {K : Act → World → Prop} {a : Act} {w : World} (hfn : ∀ f, F.fn f) (ho : ops[i]? = some o) (hd : ∀ c, o.op ≠ .defer c) (hk1 : k = 1 → Below w0.heap.size w0 w)
    (h : txStep F n P ops w0 keep Q o k K a w) :
    wpOpIn F n P ops Q i (fun a' w' => (Below w0.heap.size w0 w → keep = true → k < 4 → Below w0.heap.size w0 w') ∧ K a' w') a w := by
  unfold wpOpIn
  simp only [ho]
  unfold txStep at h
  split
  · rename_i hw
    rw [if_pos hw] at h
    refine ⟨fun f _ => hfn f, ?_⟩
    rw [Oper.semAt_eq _ _ _ hd]
    by_cases k0 : k = 0
    · rw [if_pos k0] at h; obtain ⟨v, hv, hn⟩ := h; rw [hv w]; exact ⟨fun hbw _ _ => hbw, hn⟩
    · rw [if_neg k0] at h
      by_cases k1 : k = 1
      · rw [if_pos k1] at h; obtain ⟨v, hv, hn⟩ := h; rw [hv w (hk1 k1)]; exact ⟨fun hbw _ _ => hbw, hn⟩
      · rw [if_neg k1] at h
        by_cases k2 : k = 2
        · rw [if_pos k2] at h; obtain ⟨v, hv, hn⟩ := h; rw [hv]; exact ⟨fun hbw _ _ => hbw, hn⟩
        · rw [if_neg k2] at h
          have hk3 : k < 4 → k = 3 := fun h4 => by omega
          replace h := uponIn_map (a := a) (K' := fun a' w' => (Below w0.heap.size w0 w → keep = true → k < 4 → Below w0.heap.size w0 w') ∧ K a' w') h (fun _ _ hn => ⟨fun _ hk h4 => hn.1 hk (hk3 h4), hn.2⟩) (fun _ _ _ hn => ⟨fun _ hk h4 => hn.1 hk (hk3 h4), hn.2⟩)
          generalize (execOp a.eval o).run P w = r at h
          cases r with
          | ok x w' =>
            cases x <;> simp only [Oper.uponIn] at h ⊢ <;>
              first
                | exact h
                | exact ⟨h.1, CallsIn.mono h.2 (fun e w'' he => by cases e <;> first | exact he | exact he.elim)⟩
                | exact ⟨h.1, RoundIn.mono h.2 (fun e w'' he => by cases e <;> first | exact he | exact he.elim)⟩
          | halt x w' => cases x <;> simp only [Oper.uponIn] at h ⊢ <;> first | exact h | exact h.elim
  · rename_i hw
    rw [if_neg hw] at h
    exact ⟨fun f _ => hfn f, fun hbw _ _ => hbw, h⟩

/-! ### The theorem -/
theorem pairsOk_spec {σ : List Entry} (h : pairsOk ops σ = true) {A B : List Entry} {x : Entry} (e : σ = A ++ x :: B) : ∀ i ∈ A, pairOk ops i x = true := by
  induction A generalizing σ with
  | nil => intro i hi; cases hi
  | cons y A ih =>
    subst e
    simp only [List.cons_append, pairsOk, Bool.and_eq_true, List.all_eq_true] at h
    intro i hi
    rcases List.mem_cons.1 hi with rfl | hi
    · exact h.1 x (by simp)
    · exact ih h.2 rfl i hi

theorem pairsOk_sub {σ τ : List Entry} (hs : τ.Sublist σ) (h : pairsOk ops σ = true) : pairsOk ops τ = true := by
  induction hs with
  | slnil => rfl
  | cons a _ ih => simp only [pairsOk, Bool.and_eq_true] at h; exact ih h.2
  | cons_cons a hs ih =>
    simp only [pairsOk, Bool.and_eq_true, List.all_eq_true] at h ⊢
    exact ⟨fun x hx => h.1 x (hs.subset hx), ih h.2⟩

/-- What is listed is closed under edges. -/
def Closed (ops : Array Oper) (listed : Array Bool) : Prop := ∀ x, listed.getD x false = true → ∀ d ∈ rdeps ops x, listed.getD d false = true

theorem edgesOk_masks {σ : List Entry} {listed : Array Bool} (hcl : Closed ops listed) (hsz : listed.size = ops.size) :
    ∀ (r : List Entry) (seen : List Nat), edgesOk ops σ seen r = true → (∀ d ∈ seen, (∀ c ∈ rdeps ops d, listed.getD c false = true) → ∀ j, j < ops.size → (maskOf σ d).testBit j = true → listed.getD j false = true) →
      (∀ e ∈ r, maskOf σ e.1 = e.2.2) → ∀ e ∈ r, (∀ c ∈ rdeps ops e.1, listed.getD c false = true) → ∀ j, j < ops.size → e.2.2.testBit j = true → listed.getD j false = true
  | [], _, _, _, _ => fun e he => by cases he
  | e0 :: r, seen, h, hseen, hm => by
    simp only [edgesOk, Bool.and_eq_true, List.all_eq_true] at h
    obtain ⟨⟨hd, hmask⟩, hr⟩ := h
    have key : (∀ c ∈ rdeps ops e0.1, listed.getD c false = true) → ∀ j, j < ops.size → e0.2.2.testBit j = true → listed.getD j false = true := by
      intro hc j hj hb
      have := hmask j (List.mem_range.2 hj)
      simp only [hb, Bool.not_true, Bool.false_or, List.any_eq_true, Bool.or_eq_true, beq_iff_eq] at this
      obtain ⟨d, hdm, hdj⟩ := this
      rcases hdj with rfl | hdj
      · exact hc d hdm
      · have hds : d ∈ seen := by simpa using hd d hdm
        exact hseen d hds (hcl d (hc d hdm)) j hj hdj
    intro e he
    rcases List.mem_cons.1 he with rfl | he
    · exact key
    · refine edgesOk_masks hcl hsz r (e0.1 :: seen) hr ?_ (fun e he => hm e (List.mem_cons_of_mem _ he)) e he
      intro d hdm
      rcases List.mem_cons.1 hdm with rfl | hdm
      · rw [hm e0 (List.mem_cons_self ..)]; exact key
      · exact hseen d hdm

theorem edgesOk_head {σ : List Entry} : ∀ (r : List Entry) (seen : List Nat), edgesOk ops σ seen r = true → ∀ A e B, r = A ++ e :: B → ∀ d ∈ rdeps ops e.1, d ∈ seen ∨ d ∈ A.map (·.1)
  | [], _, _ => fun A e B h => by simp at h
  | e0 :: r, seen, h => by
    simp only [edgesOk, Bool.and_eq_true, List.all_eq_true] at h
    intro A e B hr d hd
    cases A with
    | nil =>
      simp only [List.nil_append, List.cons.injEq] at hr
      obtain ⟨rfl, rfl⟩ := hr
      exact .inl (by simpa using h.1.1 d hd)
    | cons a A =>
      simp only [List.cons_append, List.cons.injEq] at hr
      obtain ⟨rfl, rfl⟩ := hr
      rcases edgesOk_head _ (e0.1 :: seen) h.2 A e B rfl d hd with h1 | h1
      · rcases List.mem_cons.1 h1 with rfl | h1
        · exact .inr (by simp)
        · exact .inl h1
      · exact .inr (by simp only [List.map_cons, List.mem_cons]; exact .inr h1)

theorem maskOf_mem {σ : List Entry} (hn : (σ.map (·.1)).Nodup) {e : Entry} (he : e ∈ σ) : maskOf σ e.1 = e.2.2 := by
  unfold maskOf
  induction σ with
  | nil => cases he
  | cons x σ ih =>
    simp only [List.map_cons, List.nodup_cons] at hn
    rcases List.mem_cons.1 he with rfl | he
    · simp
    · have hne : (x.1 == e.1) = false := by
        simp only [beq_eq_false_iff_ne, ne_eq]
        intro hx
        exact hn.1 (by rw [hx]; exact List.mem_map_of_mem he)
      rw [List.find?_cons, hne]
      exact ih hn.2 he

/-- The entries that are still to come. -/
def todo (σ : List Entry) (listed : Array Bool) : List Entry := σ.filter fun e => !listed.getD e.1 false

theorem mem_rdeps {x d : Nat} {o : Oper} (ho : ops[x]? = some o) : d ∈ rdeps ops x ↔ ∃ e ∈ o.after, Region.binds .any e = true ∧ e.on = d := by
  unfold rdeps
  simp [ho, and_assoc]

theorem tx_any {σ : List Entry} (hfn : ∀ f, F.fn f) (hok : ordOk ops keep σ = true) : ∀ (m : Nat) (listed : Array Bool) (a : Act) (w : World), listed.size = ops.size → Closed ops listed → (todo σ listed).length = m →
    ((∃ e ∈ todo σ listed, e.2.1 = 1) → Below w0.heap.size w0 w) → wpTx F n P ops w0 keep Q (todo σ listed) a w → wpAnyIn F n P .any ops Q m listed a w := by
  simp only [ordOk, Bool.and_eq_true, beq_iff_eq, decide_eq_true_eq, List.all_eq_true] at hok
  obtain ⟨⟨⟨⟨⟨⟨⟨hcov, hlen⟩, hnod⟩, hlt⟩, hcls⟩, hpr⟩, hed⟩, h4⟩ := hok
  have hall : ∀ i, i < ops.size → ∃ e ∈ σ, e.1 = i := by
    intro i hi
    have h := hcov i (List.mem_range.2 hi)
    simp only [List.any_eq_true, beq_iff_eq] at h
    exact h
  have hop : ∀ e ∈ σ, ∃ o, ops[e.1]? = some o ∧ (∀ cs b, o.op ≠ .select cs b) ∧ (∀ c, o.op ≠ .defer c) ∧ (e.2.1 = 1 → keep = true) := by
    intro e he
    have h := hcls e he
    unfold classOk at h
    cases ho : ops[e.1]? with
    | none => rw [ho] at h; cases h
    | some o =>
      rw [ho] at h
      simp only [Bool.and_eq_true, Bool.or_eq_true, bne_iff_ne, ne_eq] at h
      refine ⟨o, rfl, fun cs b hc => ?_, fun c hc => ?_, fun h1 => h.2.resolve_right (fun hne => hne h1)⟩
      · rw [hc] at h; simp at h
      · rw [hc] at h; simp at h
  have hready : ∀ (listed : Array Bool), listed.size = ops.size → ∀ i, i ∈ Region.ready .any ops listed → ∃ e ∈ todo σ listed, e.1 = i ∧ ∀ d ∈ rdeps ops i, listed.getD d false = true := by
    intro listed hsz i hi
    obtain ⟨h1, o, ho, h2⟩ := mem_ready.1 hi
    obtain ⟨e, he, rfl⟩ := hall i (Array.getElem?_eq_some_iff.1 ho).1
    refine ⟨e, List.mem_filter.2 ⟨he, ?_⟩, rfl, ?_⟩
    · have hi2 : e.1 < listed.size := by rw [hsz]; exact hlt e he
      rw [Array.getD_eq_getD_getElem?, Array.getElem?_eq_getElem hi2] at h1 ⊢
      simpa using h1
    · intro d hd
      obtain ⟨ed, hed, hb, rfl⟩ := (mem_rdeps ho).1 hd
      exact h2 ed hed hb
  intro m
  induction m with
  | zero =>
    intro listed a w hsz hcl hm hb h
    have ht : todo σ listed = [] := List.eq_nil_of_length_eq_zero hm
    rw [ht] at h
    refine ⟨?_, h⟩
    cases hr : Region.ready .any ops listed with
    | nil => rfl
    | cons x xs =>
      obtain ⟨e, he, _⟩ := hready listed hsz x (by rw [hr]; exact List.mem_cons_self ..)
      rw [ht] at he; cases he
  | succ m ih =>
    intro listed a w hsz hcl hm hb h
    refine ⟨fun hr => ?_, fun i hi => ?_⟩
    · -- the first entry that is still to come could come up
      exfalso
      cases ht : todo σ listed with
      | nil => rw [ht] at hm; cases hm
      | cons e T =>
        have heσ : e ∈ todo σ listed := by rw [ht]; exact List.mem_cons_self ..
        obtain ⟨hes, hel⟩ := List.mem_filter.1 heσ
        obtain ⟨A, B, hσ, hA⟩ : ∃ A B, σ = A ++ e :: B ∧ ∀ x ∈ A, listed.getD x.1 false = true := by
          unfold todo at ht
          obtain ⟨A, B, h1, h2, h3, h4⟩ := List.filter_eq_cons_iff.1 ht
          exact ⟨A, B, h1, fun x hx => by simpa using h2 x hx⟩
        obtain ⟨o, ho, _, _, _⟩ := hop e hes
        have : e.1 ∈ Region.ready .any ops listed := by
          refine mem_ready.2 ⟨?_, o, ho, fun ed hed' hbd => ?_⟩
          · have hi2 : e.1 < listed.size := by rw [hsz]; exact hlt e hes
            rw [Array.getD_eq_getD_getElem?, Array.getElem?_eq_getElem hi2] at hel ⊢
            simpa using hel
          · rcases edgesOk_head σ [] hed A e B hσ ed.on ((mem_rdeps ho).2 ⟨ed, hed', hbd, rfl⟩) with h1 | h1
            · cases h1
            · obtain ⟨x, hx, hx2⟩ := List.mem_map.1 h1
              rw [← hx2]; exact hA x hx
        rw [hr] at this; cases this
    · obtain ⟨e, he, rfl, hdeps⟩ := hready listed hsz i hi
      obtain ⟨hes, hel⟩ := List.mem_filter.1 he
      obtain ⟨A, B, hT⟩ := List.append_of_mem he
      obtain ⟨o, ho, hsel, hdf, hk1⟩ := hop e hes
      have hsub : (todo σ listed).Sublist σ := List.filter_sublist
      have hp := pairsOk_spec (pairsOk_sub hsub hpr) hT
      have hmask : ∀ j, j < ops.size → e.2.2.testBit j = true → listed.getD j false = true :=
        edgesOk_masks hcl hsz σ [] hed (fun d hd => by cases hd) (fun e he => maskOf_mem hnod he) e hes hdeps
      have hfront : wpTx F n P ops w0 keep Q (e :: (A ++ B)) a w := by
        refine tx_front (fun i hiA oi ox hoi hox => ?_) (by rw [ho]; rfl) (by rw [← hT]; exact h)
        have hiT : i ∈ todo σ listed := by rw [hT]; exact List.mem_append_left _ hiA
        obtain ⟨his, hil⟩ := List.mem_filter.1 hiT
        have hpi := hp i hiA
        have hnb : e.2.2.testBit i.1 = false := by
          cases hb : e.2.2.testBit i.1 with
          | false => rfl
          | true =>
            have := hmask i.1 (hlt i his) hb
            rw [this] at hil; cases hil
        rw [pairOk, hnb, Bool.false_or, hoi, hox, Bool.and_eq_true] at hpi
        obtain ⟨oi', hoi', hseli, _, _⟩ := hop i his
        rw [hoi] at hoi'
        injection hoi' with e1
        subst e1
        rw [ho] at hox
        injection hox with e2
        subst e2
        exact ⟨hpi.2, hpi.1, hseli, hsel⟩
      obtain ⟨o', ho', hst⟩ := hfront
      rw [ho] at ho'
      injection ho' with e3
      subst e3
      have hstep := wpOpIn_of_tx hfn ho hdf (fun h1 => hb ⟨e, he, h1⟩) hst
      refine wpOpIn_mono (fun a' w' hn => ?_) hstep
      have hi2 : e.1 < listed.size := by rw [hsz]; exact hlt e hes
      have hget : ∀ j, (listed.setIfInBounds e.1 true).getD j false = (if j = e.1 then true else listed.getD j false) := by
        intro j
        rw [Array.getD_eq_getD_getElem?, Array.getElem?_setIfInBounds]
        by_cases hj : j = e.1
        · subst hj; simp [hi2]
        · rw [if_neg (Ne.symm hj), if_neg hj, ← Array.getD_eq_getD_getElem?]
      have htodo : todo σ (listed.setIfInBounds e.1 true) = A ++ B := by
        have hnT : ((todo σ listed).map (·.1)).Nodup := (hsub.map _).nodup hnod
        have hf : todo σ (listed.setIfInBounds e.1 true) = (todo σ listed).filter fun x => !(x.1 == e.1) := by
          unfold todo
          rw [List.filter_filter]
          refine List.filter_congr fun x _ => ?_
          rw [hget]
          by_cases hx : x.1 = e.1
          · simp [hx]
          · simp [hx]
        rw [hf, hT, List.filter_append, List.filter_cons]
        rw [hT, List.map_append, List.map_cons, List.nodup_append, List.nodup_cons] at hnT
        have hA' : A.filter (fun x => !(x.1 == e.1)) = A := List.filter_eq_self.2 fun x hx => by
          simp only [Bool.not_eq_true', beq_eq_false_iff_ne, ne_eq]
          exact fun hxe => hnT.2.2 _ (List.mem_map_of_mem hx) _ (List.mem_cons_self ..) hxe
        have hB' : B.filter (fun x => !(x.1 == e.1)) = B := List.filter_eq_self.2 fun x hx => by
          simp only [Bool.not_eq_true', beq_eq_false_iff_ne, ne_eq]
          exact fun hxe => hnT.2.1.1 (by rw [← hxe]; exact List.mem_map_of_mem hx)
        rw [hA', hB']
        simp
      refine ih _ a' w' (by simp [hsz]) ?_ ?_ ?_ (by rw [htodo]; exact hn.2)
      · intro x hx d hd
        rw [hget] at hx ⊢
        by_cases hde : d = e.1
        · rw [if_pos hde]
        · rw [if_neg hde]
          by_cases hxe : x = e.1
          · subst hxe; exact hdeps d hd
          · rw [if_neg hxe] at hx; exact hcl x hx d hd
      · rw [htodo]
        rw [hT] at hm
        simp only [List.length_append, List.length_cons] at hm ⊢
        omega
      · rintro ⟨f, hf, hf1⟩
        have hfT : f ∈ todo σ listed := by
          rw [htodo] at hf
          rw [hT]
          rcases List.mem_append.1 hf with h | h
          · exact List.mem_append_left _ h
          · exact List.mem_append_right _ (List.mem_cons_of_mem _ h)
        obtain ⟨hfs, hfl⟩ := List.mem_filter.1 hfT
        obtain ⟨_, _, _, _, hkf⟩ := hop f hfs
        by_cases hlt4 : e.2.1 < 4
        · exact hn.1 (hb ⟨f, hfT, hf1⟩) (hkf hf1) hlt4
        · exfalso
          have h5 := h4 e hes
          simp only [Bool.or_eq_true, decide_eq_true_eq, List.all_eq_true, bne_iff_ne, ne_eq] at h5
          rcases h5 with h5 | h5
          · exact hlt4 h5
          · rcases h5 f hfs with h6 | h6
            · exact h6 hf1
            · have := hmask f.1 (hlt f hfs) h6
              rw [this] at hfl
              cases hfl

/-- **A region that draws its order, walked in the order σ.** -/
theorem wpIn_region_ord {id : Nat} {l : List Oper} {a : Act} {w : World} (σ : List Entry) (keep : Bool) (hm : P.follows .mixedOrders = true) (hfn : ∀ f, F.fn f) (hok : ordOk l.toArray keep σ = true)
    (h : wpTx F n P l.toArray w.drew keep Q σ a w.drew) : (Code.region id l.toArray true).wpIn F n P Q a w := by
  refine wpIn_region_any hm ?_
  have hl : (todo σ (Array.replicate l.toArray.size false)) = σ := List.filter_eq_self.2 fun x _ => by
    rw [Array.getD_eq_getD_getElem?, Array.getElem?_replicate]; split <;> rfl
  have hlen : σ.length = l.toArray.size := by
    simp only [ordOk, Bool.and_eq_true, beq_iff_eq] at hok
    exact hok.1.1.1.1.1.1.2
  have := tx_any (σ := σ) (w0 := w.drew) (Q := Q) (n := n) (P := P) hfn hok l.toArray.size (Array.replicate l.toArray.size false) a w.drew (by simp) (fun x hx => by
    rw [Array.getD_eq_getD_getElem?, Array.getElem?_replicate] at hx; split at hx <;> cases hx) (by rw [hl, hlen]) (fun _ => Below.refl _ _) (by rw [hl]; exact h)
  exact this

/-- .. outside a fence. -/
theorem wp_region_ord {id : Nat} {l : List Oper} {a : Act} {w : World} (σ : List Entry) (keep : Bool) (hm : P.follows .mixedOrders = true) (hok : ordOk l.toArray keep σ = true)
    (h : wpTx Fence.wide 0 P l.toArray w.drew keep Q σ a w.drew) : (Code.region id l.toArray true).wp P Q a w :=
  (wpIn_wide (n := 0)).1 (wpIn_region_ord σ keep hm (fun _ => trivial) hok h)

/-! ### Its steps -/
section
variable {o : Oper} {i m : Nat} {σ : List Entry} {a : Act} {w : World}
theorem tx_nil (h : Q .normal a w) : wpTx F n P ops w0 keep Q [] a w := h
theorem tx_P (ho : ops[i]? = some o) (h : ∀ K : Act → World → Prop, (∀ a w, wpTx F n P ops w0 keep Q σ a w → K a w) →
    if Region.wanted o (yielded ops a.tmps) then (∃ v, (∀ w', (execOp a.eval o).run P w' = .ok (.value v) w') ∧ K (a.put o.dst v) w) else K (a.put o.dst undef) w) : wpTx F n P ops w0 keep Q ((i, 0, m) :: σ) a w := by
  refine ⟨o, ho, ?_⟩
  have := h _ (fun _ _ h => h)
  unfold txStep
  simpa using this
theorem tx_H (ho : ops[i]? = some o) (h : ∀ K : Act → World → Prop, (∀ a w, wpTx F n P ops w0 keep Q σ a w → K a w) →
    if Region.wanted o (yielded ops a.tmps) then (∃ v, (∀ w', Below w0.heap.size w0 w' → (execOp a.eval o).run P w' = .ok (.value v) w') ∧ K (a.put o.dst v) w) else K (a.put o.dst undef) w) : wpTx F n P ops w0 keep Q ((i, 1, m) :: σ) a w := by
  refine ⟨o, ho, ?_⟩
  have := h _ (fun _ _ h => h)
  unfold txStep
  simpa using this
theorem tx_L (ho : ops[i]? = some o) (h : ∀ K : Act → World → Prop, (∀ a w, wpTx F n P ops w0 keep Q σ a w → K a w) →
    if Region.wanted o (yielded ops a.tmps) then (∃ v, (execOp a.eval o).run P w = .ok (.value v) w ∧ K (a.put o.dst v) w) else K (a.put o.dst undef) w) : wpTx F n P ops w0 keep Q ((i, 2, m) :: σ) a w := by
  refine ⟨o, ho, ?_⟩
  have := h _ (fun _ _ h => h)
  unfold txStep
  simpa using this
/-- .. an effect behind all loads of old memory. -/
theorem tx_X (ho : ops[i]? = some o) (h : ∀ K : Act → World → Prop, (∀ a w, wpTx F n P ops w0 keep Q σ a w → K a w) →
    if Region.wanted o (yielded ops a.tmps) then o.uponIn F n P a K (NoPanic Q) ((execOp a.eval o).run P w) else wpTx F n P ops w0 keep Q σ (a.put o.dst undef) w) : wpTx F n P ops w0 keep Q ((i, 4, m) :: σ) a w := by
  refine ⟨o, ho, ?_⟩
  have := h (fun a' w' => (keep = true → 4 = 3 → Below w0.heap.size w0 w') ∧ wpTx F n P ops w0 keep Q σ a' w') (fun _ _ h => ⟨fun _ h4 => absurd h4 (by decide), h⟩)
  unfold txStep
  simpa using this
/-- .. an effect that leaves old memory alone. -/
theorem tx_EK (ho : ops[i]? = some o) (h : ∀ K : Act → World → Prop, (∀ a w, Below w0.heap.size w0 w → wpTx F n P ops w0 true Q σ a w → K a w) →
    if Region.wanted o (yielded ops a.tmps) then o.uponIn F n P a K (NoPanic Q) ((execOp a.eval o).run P w) else wpTx F n P ops w0 true Q σ (a.put o.dst undef) w) : wpTx F n P ops w0 true Q ((i, 3, m) :: σ) a w := by
  refine ⟨o, ho, ?_⟩
  have := h (fun a' w' => (true = true → 3 = 3 → Below w0.heap.size w0 w') ∧ wpTx F n P ops w0 true Q σ a' w') (fun _ _ hb h => ⟨fun _ _ => hb, h⟩)
  unfold txStep
  simpa using this
end
theorem uponIn_value {o : Oper} {a : Act} {K : Act → World → Prop} {Q : Exit → Act → World → Prop} {r : Result Next} {v : Value} {w' : World} (hr : r = .ok (.value v) w') (h : K (a.put o.dst v) w') : o.uponIn F n P a K Q r := by subst hr; exact h
/-- An append, behind all loads of old memory. -/
theorem tx_append {i m : Nat} {σ : List Entry} {a : Act} {w : World} (o : Oper) (ho : ops[i]? = some o) (s x : Operand) (t ty : TypeId) (hop : o.op = .call { callee := .builtin .append, args := #[s, x], argTypes := #[t, t] }) (hty : o.type = ty)
    (hwant : Region.wanted o (yielded ops a.tmps) = true) (v sl v' : Value) (w' : World) (hs : a.eval s = v) (hx : a.eval x = sl) (hr : (Builtin.append_ #[t, t] ty #[v, sl]).run P w = .ok v' w')
    (h : wpTx F n P ops w0 keep Q σ (a.put o.dst v') w') : wpTx F n P ops w0 keep Q ((i, 4, m) :: σ) a w := by
  refine ⟨o, ho, ?_⟩
  unfold txStep
  rw [if_pos hwant]
  simp only [show ¬ (4 = 0) from by decide, show ¬ (4 = 1) from by decide, show ¬ (4 = 2) from by decide, if_false]
  refine uponIn_value (v := v') (w' := w') ?_ ⟨fun _ h => absurd h (by decide), h⟩
  subst hty
  simp only [execOp, hop, resolve, invoke, builtin, Sem.run_bind, Sem.run_pure, Result.andThen_ok, List.map_toArray, List.map_cons, List.map_nil, hs, hx, hr]
end
end Go.Proofs.YtempbknidpmncaaDoor.O2
