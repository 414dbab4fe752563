/-
  TopBus, with no program in sight: serving the jobs by the order of their ends succeeds just when the messages ask no more than the cycle holds, and a table so made gives each message its slots.
-/
import Derived.Test.YtempbknidpmncaaDoorBusG
namespace Go.Proofs.YtempbknidpmncaaDoor

def usedL (c : Nat) (l : List Msg) : Nat := (l.map fun m => m.size * (c / m.period)).sum
def idleN (t : List Int) : Nat := (t.filter fun x => decide (x = -1)).length
def sumJ (js : List Job) : Nat := (js.map (·.left)).sum
def cntW (t : List Int) (i a b k : Nat) : Nat := ((List.range k).filter fun s => decide (a ≤ s) && decide (s < b) && decide (t[s]? = some (i : Int))).length

theorem mem_waitUp {js : List Job} {slot : Nat} : ∀ (k x : Nat) (hx : x < js.length), x < k → ready js slot x = true → (⟨x, hx⟩ : Ix js) ∈ waitUp js slot k
  | 0, _, _, h, _ => by omega
  | k + 1, x, hx, h, hr => by
    by_cases hxk : x = k
    · subst hxk; rw [waitUp_yes hx hr]; simp
    · have := mem_waitUp k x hx (by omega) hr
      exact (waitUp_prefix js slot (Nat.le_succ k)).subset this
theorem pickL_min {js : List Job} : ∀ (pre : List (Ix js)) (b : Option Nat),
    (pre.foldl (fun b x => better js b x.1) b = none → b = none ∧ pre = []) ∧
    (∀ i, pre.foldl (fun b x => better js b x.1) b = some i → (∀ y, b = some y → (js.getD i job0).en ≤ (js.getD y job0).en) ∧ ∀ x ∈ pre, (js.getD i job0).en ≤ (js.getD x.1 job0).en)
  | [], b => ⟨fun h => ⟨h, rfl⟩, fun i h => ⟨fun y hy => by rw [List.foldl_nil, hy] at h; cases h; exact Nat.le_refl _, fun x hx => by cases hx⟩⟩
  | x :: pre, b => by
    obtain ⟨h1, h2⟩ := pickL_min pre (better js b x.1)
    constructor
    · intro h
      have := (h1 h).1
      unfold better at this
      cases b with
      | none => cases this
      | some b => simp only at this; split at this <;> cases this
    · intro i hi
      obtain ⟨h3, h4⟩ := h2 i hi
      have h5 : (∀ y, b = some y → (js.getD i job0).en ≤ (js.getD y job0).en) ∧ (js.getD i job0).en ≤ (js.getD x.1 job0).en := by
        cases b with
        | none => exact ⟨fun y hy => (by cases hy), h3 _ rfl⟩
        | some b =>
          by_cases hlt : (js.getD x.1 job0).en < (js.getD b job0).en
          · have := h3 x.1 (by simp only [better, if_pos hlt])
            exact ⟨fun y hy => (by cases hy; omega), this⟩
          · have := h3 b (by simp only [better, if_neg hlt])
            exact ⟨fun y hy => (by cases hy; exact this), by omega⟩
      refine ⟨h5.1, fun y hy => ?_⟩
      rcases List.mem_cons.1 hy with rfl | hy
      · exact h5.2
      · exact h4 y hy
theorem pick_none {js : List Job} {slot : Nat} (h : pick js slot = none) (x : Nat) (hx : x < js.length) : ready js slot x = false := by
  have h1 := ((pickL_min (waitUp js slot js.length) none).1 h).2
  cases hr : ready js slot x with
  | false => rfl
  | true => have := mem_waitUp js.length x hx hx hr; rw [h1] at this; cases this
theorem pick_min {js : List Job} {slot b : Nat} (h : pick js slot = some b) (x : Nat) (hx : x < js.length) (hr : ready js slot x = true) : (js.getD b job0).en ≤ (js.getD x job0).en :=
  ((pickL_min (waitUp js slot js.length) none).2 b h).2 _ (mem_waitUp js.length x hx hx hr)

theorem wsum_set (p : Job → Bool) : ∀ (js : List Job) (b : Nat) (j : Job), js[b]? = some j → 0 < j.left → p (served j) = p j →
    (((js.set b (served j)).filter p).map (·.left)).sum + (if p j then 1 else 0) = ((js.filter p).map (·.left)).sum
  | [], _, _, h, _, _ => by cases h
  | x :: js, 0, j, h, hl, hp => by
    have hxj : x = j := by simpa using h
    subst hxj
    simp only [List.set_cons_zero, List.filter_cons, hp]
    cases p x
    · simp
    · simp [served]; omega
  | x :: js, b + 1, j, h, hl, hp => by
    have := wsum_set p js b j h hl hp
    simp only [List.set_cons_succ, List.filter_cons]
    cases p x
    · simpa using this
    · simp only [if_true, List.map_cons, List.sum_cons]; omega
theorem dem_set (js : List Job) (b : Nat) (j : Job) (a d : Nat) (h : js[b]? = some j) (hl : 0 < j.left) : dem (js.set b (served j)) a d + (if a ≤ j.fr ∧ j.en ≤ d then 1 else 0) = dem js a d := by
  have := wsum_set (fun j => decide (a ≤ j.fr) && decide (j.en ≤ d)) js b j h hl rfl
  simp only [Bool.and_eq_true, decide_eq_true_eq] at this
  exact this
theorem sumJ_set (js : List Job) (b : Nat) (j : Job) (h : js[b]? = some j) (hl : 0 < j.left) : sumJ (js.set b (served j)) + 1 = sumJ js := by
  have := wsum_set (fun _ => true) js b j h hl rfl
  simpa [sumJ, List.filter_eq_self.2] using this
theorem dem_pos {js : List Job} {j : Job} (hj : j ∈ js) {a d : Nat} (h1 : a ≤ j.fr) (h2 : j.en ≤ d) : j.left ≤ dem js a d := by
  induction js with
  | nil => cases hj
  | cons x js ih =>
    simp only [dem, List.filter_cons] at *
    rcases List.mem_cons.1 hj with rfl | hj
    · simp [h1, h2]
    · have := ih hj
      split
      · simp only [List.map_cons, List.sum_cons]; omega
      · exact this
theorem cntW_snoc (ts : List Int) (y : Int) (i a b k : Nat) (hk : ts.length = k) : cntW (ts ++ [y]) i a b (k + 1) = cntW ts i a b k + (if a ≤ k ∧ k < b ∧ y = (i : Int) then 1 else 0) := by
  have h1 : (List.range k).filter (fun s => decide (a ≤ s) && decide (s < b) && decide ((ts ++ [y])[s]? = some (i : Int))) = (List.range k).filter (fun s => decide (a ≤ s) && decide (s < b) && decide (ts[s]? = some (i : Int))) :=
    List.filter_congr fun s hs => by rw [List.getElem?_append_left (by have := List.mem_range.1 hs; omega)]
  have h2 : (ts ++ [y])[k]? = some y := by rw [← hk]; simp
  simp only [cntW, List.range_succ, List.filter_append, List.length_append, h1, List.filter_cons, List.filter_nil, h2]
  by_cases h : a ≤ k ∧ k < b ∧ y = (i : Int)
  · simp [h.1, h.2.1, h.2.2]
  · rw [if_neg h, if_neg (by simpa [and_assoc] using h)]; simp
theorem cntUp_W (t : List Int) (i p q k : Nat) (hp : 0 < p) : cntUp t i p q k = cntW t i (q * p) (q * p + p) k := by
  unfold cntUp cntW
  congr 1
  refine List.filter_congr fun s _ => ?_
  congr 1
  have : s / p = q ↔ q * p ≤ s ∧ s < q * p + p := by
    constructor
    · rintro rfl
      have h1 := Nat.div_add_mod s p
      have h2 := Nat.mod_lt s hp
      rw [Nat.mul_comm] at h1
      omega
    · rintro ⟨h1, h2⟩
      have := Nat.div_le_div_right (c := p) h1
      rw [Nat.mul_div_cancel _ hp] at this
      have h3 : s < (q + 1) * p := by rw [Nat.succ_mul]; exact h2
      have h4 := (Nat.div_lt_iff_lt_mul hp).2 h3
      omega
  simp [this]
theorem idleN_snoc (ts : List Int) (y : Int) : idleN (ts ++ [y]) = idleN ts + (if y = -1 then 1 else 0) := by
  unfold idleN
  rw [List.filter_append, List.length_append]
  by_cases h : y = -1
  · simp [h]
  · simp [h]

/-- What holds of the state after k slots. -/
structure Inv (js0 : List Job) (k : Nat) (js : List Job) (ts : List Int) : Prop where
  len : js.length = js0.length
  same : ∀ (x : Nat) (j : Job), js[x]? = some j → ∃ j0, js0[x]? = some j0 ∧ j.msg = j0.msg ∧ j.fr = j0.fr ∧ j.en = j0.en ∧ cntW ts j.msg j.fr j.en k + j.left = j0.left
  tl : ts.length = k
  tv : ∀ y ∈ ts, y = -1 ∨ ∃ j ∈ js0, y = (j.msg : Int)
  idle : idleN ts + sumJ js0 = k + sumJ js
  edf : ∀ d, ∃ t0, t0 ≤ k ∧ (∀ j ∈ js, j.en ≤ d → j.fr < t0 → j.left = 0) ∧ dem js t0 d + (k - t0) ≤ dem js0 t0 d

theorem dem_mono : ∀ (js js0 : List Job), js.length = js0.length → (∀ (x : Nat) (j : Job), js[x]? = some j → ∃ j0, js0[x]? = some j0 ∧ j.fr = j0.fr ∧ j.en = j0.en ∧ j.left ≤ j0.left) → ∀ a d, dem js a d ≤ dem js0 a d
  | [], _, _, _, a, d => Nat.zero_le _
  | j :: js, [], h, _, _, _ => by simp at h
  | j :: js, i :: js0, h, hs, a, d => by
    have ih := dem_mono js js0 (by simpa using h) (fun x j hx => by simpa using hs (x + 1) j (by simpa using hx)) a d
    obtain ⟨j0, e, h1, h2, h3⟩ := hs 0 j rfl
    cases e
    simp only [dem, List.filter_cons, h1, h2] at *
    split
    · simp only [List.map_cons, List.sum_cons]; omega
    · exact ih

theorem Inv.start (js0 : List Job) : Inv js0 0 js0 [] where
  len := rfl
  same := fun x j h => ⟨j, h, rfl, rfl, rfl, by simp [cntW]⟩
  tl := rfl
  tv := fun y h => by cases h
  idle := by simp [idleN]
  edf := fun d => ⟨0, Nat.le_refl _, fun j _ _ h => by omega, by simp⟩
/-- Jobs of one message do not meet. -/
def Apart (js0 : List Job) : Prop := ∀ (x y : Nat) (jx jy : Job), js0[x]? = some jx → js0[y]? = some jy → x ≠ y → jx.msg = jy.msg → jx.en ≤ jy.fr ∨ jy.en ≤ jx.fr

theorem Inv.left_le {js0 js : List Job} {k : Nat} {ts : List Int} (h : Inv js0 k js ts) (a d : Nat) : dem js a d ≤ dem js0 a d :=
  dem_mono js js0 h.len (fun x j hj => by obtain ⟨j0, h1, h2, h3, h4, h5⟩ := h.same x j hj; exact ⟨j0, h1, h3, h4, by omega⟩) a d

theorem Inv.step {js0 js js' : List Job} {k : Nat} {ts : List Int} {y : Int} (hA : Apart js0) (h : Inv js0 k js ts) (hs : stepE js k = some (js', y)) : Inv js0 (k + 1) js' (ts ++ [y]) := by
  unfold stepE at hs
  cases hp : pick js k with
  | none =>
    rw [hp] at hs
    cases hs
    have hz : ∀ j ∈ js, j.fr < k + 1 → j.left = 0 := by
      intro j hj hf
      obtain ⟨x, hx⟩ := List.mem_iff_getElem?.1 hj
      have := pick_none hp x (List.getElem?_eq_some_iff.1 hx).1
      simp only [ready, hx, Bool.and_eq_false_iff, decide_eq_false_iff_not] at this
      omega
    exact {
      len := h.len
      same := fun x j hj => by
        obtain ⟨j0, h1, h2, h3, h4, h5⟩ := h.same x j hj
        refine ⟨j0, h1, h2, h3, h4, ?_⟩
        rw [cntW_snoc _ _ _ _ _ _ h.tl, if_neg (by omega)]; exact h5
      tl := by simp [h.tl]
      tv := fun z hz => by
        rcases List.mem_append.1 hz with hz | hz
        · exact h.tv z hz
        · exact .inl (List.mem_singleton.1 hz)
      idle := by have := h.idle; rw [idleN_snoc, if_pos rfl]; omega
      edf := fun d => ⟨k + 1, Nat.le_refl _, fun j hj _ hf => hz j hj hf, by simpa using h.left_le (k + 1) d⟩ }
  | some b =>
    rw [hp] at hs
    obtain ⟨hr, hb⟩ := pick_ready hp
    have hjb : js[b]? = some js[b] := by simp [hb]
    have hgd : js.getD b job0 = js[b] := by simp [List.getD, hb]
    have hmin := pick_min hp
    simp only [hgd] at hmin hs
    generalize js[b] = j at hjb hgd hmin hs
    simp only [ready, hjb, Bool.and_eq_true, decide_eq_true_eq] at hr
    split at hs
    · cases hs
    · rename_i hen
      cases hs
      obtain ⟨jb0, hb0, hbm, hbf, hbe, hbc⟩ := h.same b j hjb
      exact {
        len := by simp [h.len]
        same := fun x j' hj' => by
          by_cases hxb : x = b
          · subst hxb
            rw [List.getElem?_set_self hb] at hj'
            cases hj'
            refine ⟨jb0, hb0, hbm, hbf, hbe, ?_⟩
            rw [cntW_snoc _ _ _ _ _ _ h.tl]
            simp only [served]
            rw [if_pos ⟨by omega, by omega, trivial⟩]; omega
          · rw [List.getElem?_set_ne (Ne.symm hxb)] at hj'
            obtain ⟨j0, h1, h2, h3, h4, h5⟩ := h.same x j' hj'
            refine ⟨j0, h1, h2, h3, h4, ?_⟩
            rw [cntW_snoc _ _ _ _ _ _ h.tl, if_neg]
            · exact h5
            · rintro ⟨e1, e2, e3⟩
              have := hA x b j0 jb0 h1 hb0 hxb (by omega)
              omega
        tl := by simp [h.tl]
        tv := fun z hz => by
          rcases List.mem_append.1 hz with hz | hz
          · exact h.tv z hz
          · exact .inr ⟨jb0, List.mem_of_getElem? hb0, by rw [List.mem_singleton.1 hz, hbm]⟩
        idle := by
          have h1 := h.idle
          have h2 := sumJ_set js b j hjb hr.2
          rw [idleN_snoc, if_neg (by omega)]; omega
        edf := fun d => by
          obtain ⟨t0, h1, h2, h3⟩ := h.edf d
          by_cases hd : j.en ≤ d
          · have h4 : t0 ≤ j.fr := by
              rcases Nat.lt_or_ge j.fr t0 with h5 | h5
              · have := h2 j (List.mem_of_getElem? hjb) hd h5; omega
              · exact h5
            have h5 := dem_set js b j t0 d hjb hr.2
            rw [if_pos ⟨h4, hd⟩] at h5
            refine ⟨t0, by omega, ?_, by omega⟩
            intro j' hj' e1 e2
            rcases List.mem_or_eq_of_mem_set hj' with hj' | rfl
            · exact h2 j' hj' e1 e2
            · simp only [served] at e2; omega
          · refine ⟨k + 1, Nat.le_refl _, ?_, ?_⟩
            · intro j' hj' e1 e2
              rcases List.mem_or_eq_of_mem_set hj' with hj' | rfl
              · obtain ⟨x, hx⟩ := List.mem_iff_getElem?.1 hj'
                have hxl := (List.getElem?_eq_some_iff.1 hx).1
                rcases Nat.eq_zero_or_pos j'.left with h6 | h6
                · exact h6
                · have := hmin x hxl (by simp [ready, hx]; omega)
                  have h7 : js.getD x job0 = j' := by simp [List.getD, hx]
                  rw [h7] at this
                  omega
              · simp only [served] at e1; omega
            · have h5 := dem_set js b j (k + 1) d hjb hr.2
              have h6 := h.left_le (k + 1) d
              omega }

theorem Inv.of_stAt {js0 : List Job} (hA : Apart js0) : ∀ (k : Nat) (js : List Job) (ts : List Int), stAt js0 k = some (js, ts) → Inv js0 k js ts
  | 0, js, ts, h => by cases h; exact Inv.start _
  | k + 1, js, ts, h => by
    simp only [stAt] at h
    cases hk : stAt js0 k with
    | none => rw [hk] at h; cases h
    | some s =>
      rw [hk] at h
      simp only [Option.bind_some, Option.map_eq_some_iff] at h
      obtain ⟨r, hr, he⟩ := h
      cases he
      exact Inv.step hA (Inv.of_stAt hA k s.1 s.2 hk) hr

/-- A job whose end has come has been served. -/
theorem Inv.done {js0 js : List Job} {k c : Nat} {ts : List Int} (h : Inv js0 k js ts) (hw : ∀ j ∈ js0, j.fr < j.en ∧ j.en ≤ c) (hd : ∀ a b, a ≤ b → b ≤ c → dem js0 a b ≤ b - a) (j : Job) (hj : j ∈ js) (he : j.en ≤ k) : j.left = 0 := by
  obtain ⟨t0, h1, h2, h3⟩ := h.edf j.en
  obtain ⟨x, hx⟩ := List.mem_iff_getElem?.1 hj
  obtain ⟨j0, e1, e2, e3, e4, e5⟩ := h.same x j hx
  obtain ⟨e6, e7⟩ := hw j0 (List.mem_of_getElem? e1)
  rcases Nat.lt_or_ge j.fr t0 with h4 | h4
  · exact h2 j hj (Nat.le_refl _) h4
  · have h5 := hd t0 j.en (by omega) (by omega)
    have h6 := dem_pos hj h4 (Nat.le_refl _)
    omega

theorem madeL_ok {js0 : List Job} {c : Nat} (hA : Apart js0) (hw : ∀ j ∈ js0, j.fr < j.en ∧ j.en ≤ c) (hd : ∀ a b, a ≤ b → b ≤ c → dem js0 a b ≤ b - a) : ∃ t, madeL js0 c = some t := by
  have key : ∀ k, ∃ s, stAt js0 k = some s := by
    intro k
    induction k with
    | zero => exact ⟨_, rfl⟩
    | succ k ih =>
      obtain ⟨⟨js, ts⟩, hs⟩ := ih
      have hI := Inv.of_stAt hA k js ts hs
      have : ∃ r, stepE js k = some r := by
        unfold stepE
        cases hp : pick js k with
        | none => exact ⟨_, rfl⟩
        | some b =>
          obtain ⟨hr, hb⟩ := pick_ready hp
          have hjb : js[b]? = some js[b] := by simp [hb]
          have hgd : js.getD b job0 = js[b] := by simp [List.getD, hb]
          simp only [ready, hjb, Bool.and_eq_true, decide_eq_true_eq] at hr
          simp only [hgd]
          rw [if_neg]
          · exact ⟨_, rfl⟩
          · intro he
            have := hI.done hw hd js[b] (List.getElem_mem _) he
            omega
      obtain ⟨r, hr⟩ := this
      exact ⟨(r.1, ts ++ [r.2]), by simp [stAt, hs, hr]⟩
  obtain ⟨⟨js, ts⟩, hs⟩ := key c
  have hI := Inv.of_stAt hA c js ts hs
  refine ⟨ts, ?_⟩
  simp only [madeL, hs, Option.bind_some]
  rw [if_pos]
  rw [List.eq_nil_iff_forall_not_mem]
  intro x hx
  have hr := waitUp_ready _ x hx
  have hjb : js[x.1]? = some js[x.1] := by simp [x.2]
  obtain ⟨j0, e1, e2, e3, e4, e5⟩ := hI.same x.1 _ hjb
  obtain ⟨e6, e7⟩ := hw j0 (List.mem_of_getElem? e1)
  have := hI.done hw hd js[x.1] (List.getElem_mem _) (by omega)
  simp only [ready, hjb, Bool.and_eq_true, decide_eq_true_eq] at hr
  omega

theorem madeL_some {js0 : List Job} {c : Nat} (hA : Apart js0) (hw : ∀ j ∈ js0, j.fr < j.en ∧ j.en ≤ c) {t : List Int} (h : madeL js0 c = some t) :
    t.length = c ∧ (∀ y ∈ t, y = -1 ∨ ∃ j ∈ js0, y = (j.msg : Int)) ∧ (∀ j ∈ js0, cntW t j.msg j.fr j.en c = j.left) ∧ idleN t + sumJ js0 = c := by
  unfold madeL at h
  cases hs : stAt js0 c with
  | none => rw [hs] at h; cases h
  | some s =>
    obtain ⟨js, ts⟩ := s
    rw [hs] at h
    simp only [Option.bind_some] at h
    split at h
    · rename_i hwt
      cases h
      have hI := Inv.of_stAt hA c js t hs
      have hz : ∀ j ∈ js, j.left = 0 := by
        intro j hj
        obtain ⟨x, hx⟩ := List.mem_iff_getElem?.1 hj
        have hxl := (List.getElem?_eq_some_iff.1 hx).1
        obtain ⟨j0, e1, e2, e3, e4, e5⟩ := hI.same x _ hx
        obtain ⟨e6, e7⟩ := hw j0 (List.mem_of_getElem? e1)
        rcases Nat.eq_zero_or_pos j.left with h6 | h6
        · exact h6
        · have := mem_waitUp (slot := c) js.length x hxl hxl (by simp [ready, hx]; omega)
          rw [hwt] at this; cases this
      refine ⟨hI.tl, hI.tv, ?_, ?_⟩
      · intro j0 hj0
        obtain ⟨x, hx⟩ := List.mem_iff_getElem?.1 hj0
        have hxl := (List.getElem?_eq_some_iff.1 hx).1
        have hxl' : x < js.length := by rw [hI.len]; exact hxl
        have hjx : js[x]? = some js[x] := List.getElem?_eq_getElem hxl'
        obtain ⟨j1, e1, e2, e3, e4, e5⟩ := hI.same x _ hjx
        rw [hx] at e1; cases e1
        rw [hz _ (List.getElem_mem _), e2, e3, e4] at e5
        exact e5
      · have := hI.idle
        have h0 : sumJ js = 0 := by
          clear this hI hs hwt
          unfold sumJ
          induction js with
          | nil => rfl
          | cons x js ih =>
            have := hz x (List.mem_cons_self ..)
            have := ih (fun j hj => hz j (List.mem_cons_of_mem _ hj))
            simp only [List.map_cons, List.sum_cons]; omega
        omega
    · cases h

theorem dem_append (a b : List Job) (f e : Nat) : dem (a ++ b) f e = dem a f e + dem b f e := by simp [dem, List.filter_append]
theorem sumJ_append (a b : List Job) : sumJ (a ++ b) = sumJ a + sumJ b := by simp [sumJ]
/-- How many of the first n periods of p slots lie from a to b. -/
def inN (p a b n : Nat) : Nat := ((List.range n).filter fun q => decide (a ≤ q * p) && decide (q * p + p ≤ b)).length
theorem inN_succ (p a b n : Nat) : inN p a b (n + 1) = inN p a b n + (if a ≤ n * p ∧ n * p + p ≤ b then 1 else 0) := by
  simp only [inN, List.range_succ, List.filter_append, List.length_append, List.filter_cons, List.filter_nil]
  by_cases h : a ≤ n * p ∧ n * p + p ≤ b
  · simp [h.1, h.2]
  · rw [if_neg h, if_neg (by simpa using h)]; simp
theorem inN_le (p a b : Nat) : ∀ n, inN p a b n * p ≤ n * p - a ∧ inN p a b n * p ≤ b - a
  | 0 => by simp [inN]
  | n + 1 => by
    obtain ⟨h1, h2⟩ := inN_le p a b n
    rw [inN_succ, Nat.succ_mul n p]
    by_cases h : a ≤ n * p ∧ n * p + p ≤ b
    · rw [if_pos h, Nat.succ_mul]; omega
    · rw [if_neg h, Nat.add_zero]; omega
theorem inN_all (p b : Nat) : ∀ n, n * p ≤ b → inN p 0 b n = n
  | 0, _ => rfl
  | n + 1, h => by
    rw [Nat.succ_mul] at h
    rw [inN_succ, inN_all p b n (by omega), if_pos ⟨Nat.zero_le _, h⟩]
theorem dem_of (i : Nat) (m : Msg) (a b : Nat) : ∀ n, dem ((List.range n).map (jobOf i m)) a b = m.size * inN m.period a b n
  | 0 => by simp [dem, inN]
  | n + 1 => by
    rw [List.range_succ, List.map_append, dem_append, dem_of i m a b n, inN_succ]
    by_cases h : a ≤ n * m.period ∧ n * m.period + m.period ≤ b
    · rw [if_pos h]; simp [dem, jobOf, h.1, h.2, Nat.mul_add]
    · rw [if_neg h]
      simp only [dem, List.map_cons, List.map_nil, jobOf, List.filter_cons, List.filter_nil]
      rw [if_neg (by simpa using h)]; simp
theorem sum_of (i : Nat) (m : Msg) : ∀ n, sumJ ((List.range n).map (jobOf i m)) = m.size * n
  | 0 => by simp [sumJ]
  | n + 1 => by
    rw [List.range_succ, List.map_append, sumJ_append, sum_of i m n]
    simp [sumJ, jobOf, Nat.mul_add]
theorem usedL_snoc (c : Nat) (l : List Msg) (m : Msg) : usedL c (l ++ [m]) = usedL c l + m.size * (c / m.period) := by simp [usedL]
theorem jobsUpTo_next {l : List Msg} {k : Nat} {m : Msg} (c : Nat) (hk : l[k]? = some m) : jobsUpTo c l (k + 1) = jobsUpTo c l k ++ (List.range (c / m.period)).map (jobOf k m) := by
  rw [jobsUpTo_succ]; simp [jobsOf, List.getD, hk]
theorem sum_upTo (c : Nat) (l : List Msg) : ∀ k, k ≤ l.length → sumJ (jobsUpTo c l k) = usedL c (l.take k)
  | 0, _ => by simp [jobsUpTo, sumJ, usedL]
  | k + 1, h => by
    have hk : l[k]? = some l[k] := List.getElem?_eq_getElem (by omega)
    rw [jobsUpTo_next c hk, sumJ_append, sum_upTo c l k (by omega), take_snoc' hk, usedL_snoc, sum_of]
theorem dem_upTo (c : Nat) (l : List Msg) (hdv : ∀ m ∈ l, m.period ∣ c) (hp : ∀ m ∈ l, 1 ≤ m.period) (a b : Nat) : ∀ k, k ≤ l.length → c * dem (jobsUpTo c l k) a b ≤ usedL c (l.take k) * (b - a)
  | 0, _ => by simp [jobsUpTo, dem]
  | k + 1, h => by
    have hk : l[k]? = some l[k] := List.getElem?_eq_getElem (by omega)
    have ih := dem_upTo c l hdv hp a b k (by omega)
    obtain ⟨d, hd⟩ := hdv l[k] (List.getElem_mem _)
    have h1 := hp l[k] (List.getElem_mem _)
    rw [jobsUpTo_next c hk, dem_append, take_snoc' hk, usedL_snoc, dem_of]
    generalize l[k] = m at hd h1
    have e : c / m.period = d := by rw [hd, Nat.mul_div_cancel_left _ (by omega)]
    rw [e, Nat.mul_add, Nat.add_mul]
    refine Nat.add_le_add ih ?_
    have h2 := (inN_le m.period a b d).2
    calc c * (m.size * inN m.period a b d) = m.size * d * (inN m.period a b d * m.period) := by rw [hd]; ac_rfl
      _ ≤ m.size * d * (b - a) := Nat.mul_le_mul_left _ h2
theorem dem_zero (c : Nat) (l : List Msg) (hdv : ∀ m ∈ l, m.period ∣ c) (hp : ∀ m ∈ l, 1 ≤ m.period) : ∀ k, k ≤ l.length → dem (jobsUpTo c l k) 0 c = usedL c (l.take k)
  | 0, _ => by simp [jobsUpTo, dem, usedL]
  | k + 1, h => by
    have hk : l[k]? = some l[k] := List.getElem?_eq_getElem (by omega)
    have ih := dem_zero c l hdv hp k (by omega)
    have h1 := hp l[k] (List.getElem_mem _)
    rw [jobsUpTo_next c hk, dem_append, take_snoc' hk, usedL_snoc, dem_of, ih, inN_all _ _ _ (Nat.div_mul_le_self _ _)]

theorem mem_jobs {l : List Msg} {j : Job} : j ∈ jobsAll l ↔ ∃ (i : Nat) (m : Msg) (q : Nat), l[i]? = some m ∧ q < cyc l / m.period ∧ j = jobOf i m q := by
  constructor
  · intro hj
    obtain ⟨i, hi, hj⟩ := List.mem_flatMap.1 hj
    have hi' := List.mem_range.1 hi
    obtain ⟨q, hq, rfl⟩ := List.mem_map.1 hj
    have hm : l.getD i msg0 = l[i] := by simp [List.getD, hi']
    rw [hm] at hq ⊢
    exact ⟨i, l[i], q, List.getElem?_eq_getElem hi', List.mem_range.1 hq, rfl⟩
  · rintro ⟨i, m, q, hi, hq, rfl⟩
    have hm : l.getD i msg0 = m := by simp [List.getD, hi]
    refine List.mem_flatMap.2 ⟨i, List.mem_range.2 (List.getElem?_eq_some_iff.1 hi).1, ?_⟩
    unfold jobsOf
    rw [hm]
    exact List.mem_map.2 ⟨q, List.mem_range.2 hq, rfl⟩
theorem apart_upTo (c : Nat) (l : List Msg) : ∀ k, (jobsUpTo c l k).Pairwise (fun j j' => j.msg = j'.msg → j.en ≤ j'.fr) ∧ ∀ j ∈ jobsUpTo c l k, j.msg < k
  | 0 => by simp [jobsUpTo]
  | k + 1 => by
    obtain ⟨h1, h2⟩ := apart_upTo c l k
    rw [jobsUpTo_succ]
    have h3 : ∀ j ∈ jobsOf c l k, j.msg = k := by
      intro j hj
      obtain ⟨q, _, rfl⟩ := List.mem_map.1 hj
      rfl
    constructor
    · refine List.pairwise_append.2 ⟨h1, ?_, ?_⟩
      · unfold jobsOf
        rw [List.pairwise_map]
        refine List.pairwise_lt_range.imp ?_
        intro a b hab _
        simp only [jobOf]
        rw [← Nat.succ_mul]
        exact Nat.mul_le_mul_right _ hab
      · intro j hj j' hj' e
        have := h2 j hj
        have := h3 j' hj'
        omega
    · intro j hj
      rcases List.mem_append.1 hj with hj | hj
      · have := h2 j hj; omega
      · have := h3 j hj; omega
theorem apart_all (l : List Msg) : Apart (jobsAll l) := by
  intro x y jx jy hx hy hne hm
  have h := List.pairwise_iff_getElem.1 (apart_upTo (cyc l) l l.length).1
  obtain ⟨lx, rfl⟩ := List.getElem?_eq_some_iff.1 hx
  obtain ⟨ly, rfl⟩ := List.getElem?_eq_some_iff.1 hy
  rcases Nat.lt_or_ge x y with hlt | hge
  · exact .inl (h x y lx ly hlt hm)
  · exact .inr (h y x ly lx (by omega) hm.symm)

/-- What the messages ask of a whole cycle. -/
def used (l : List Msg) : Nat := usedL (cyc l) l
theorem Good.cyc_pos {l : List Msg} (hg : Good l) : 1 ≤ cyc l := Nat.pos_of_dvd_of_pos (cyc_dvd l hg.period) (by omega)
theorem Good.p_pos {l : List Msg} (hg : Good l) : ∀ m ∈ l, 1 ≤ m.period := fun m hm => by have := hg.size m hm; omega
theorem sumJ_all (l : List Msg) : sumJ (jobsAll l) = used l := by
  have := sum_upTo (cyc l) l l.length (Nat.le_refl _)
  rwa [List.take_length] at this

/-- With room enough a table is made. -/
theorem plain_made {l : List Msg} (hg : Good l) (h : used l ≤ cyc l) : ∃ t, madeL (jobsAll l) (cyc l) = some t := by
  refine madeL_ok (apart_all l) (fun j hj => ((jobs_good hg j hj).2)) ?_
  intro a b _ _
  have h1 := dem_upTo (cyc l) l dvd_cyc hg.p_pos a b l.length (Nat.le_refl _)
  rw [List.take_length] at h1
  have h2 : cyc l * dem (jobsAll l) a b ≤ cyc l * (b - a) := Nat.le_trans h1 (Nat.mul_le_mul_right _ h)
  exact Nat.le_of_mul_le_mul_left h2 hg.cyc_pos
/-- A table that is made is right. -/
theorem plain_right {l : List Msg} (hg : Good l) {t : List Int} (h : madeL (jobsAll l) (cyc l) = some t) :
    t.length = cyc l ∧ (∀ x ∈ t, x = -1 ∨ (0 ≤ x ∧ x < l.length)) ∧ AllRight l (cyc l) t ∧ idleN t + used l = cyc l := by
  obtain ⟨h1, h2, h3, h4⟩ := madeL_some (apart_all l) (fun j hj => ((jobs_good hg j hj).2)) h
  refine ⟨h1, ?_, ?_, by rw [← sumJ_all]; exact h4⟩
  · intro x hx
    rcases h2 x hx with h5 | ⟨j, hj, rfl⟩
    · exact .inl h5
    · obtain ⟨i, m, q, hi, hq, rfl⟩ := mem_jobs.1 hj
      have := (List.getElem?_eq_some_iff.1 hi).1
      refine .inr ⟨?_, ?_⟩ <;> simp only [jobOf] <;> omega
  · intro i m hi q hq
    have hp := hg.p_pos m (List.mem_of_getElem? hi)
    have := h3 (jobOf i m q) (mem_jobs.2 ⟨i, m, q, hi, hq, rfl⟩)
    rw [cntUp_W _ _ _ _ _ hp]
    exact this
/-- With too little room none is made, and the whole cycle shows it. -/
theorem plain_not {l : List Msg} (hg : Good l) (h : cyc l < used l) : madeL (jobsAll l) (cyc l) = none ∧ cyc l < dem (jobsAll l) 0 (cyc l) := by
  constructor
  · cases hm : madeL (jobsAll l) (cyc l) with
    | none => rfl
    | some t => have := (plain_right hg hm).2.2.2; omega
  · have := dem_zero (cyc l) l dvd_cyc hg.p_pos l.length (Nat.le_refl _)
    rw [List.take_length] at this
    show cyc l < dem (jobsUpTo (cyc l) l l.length) 0 (cyc l)
    rw [this]; exact h

theorem cntUp_set (t : List Int) (s : Nat) (i p q : Nat) (hs : t[s]? = some (i : Int)) : ∀ k, cntUp (t.set s (-1)) i p q k + (if s < k ∧ s / p = q then 1 else 0) = cntUp t i p q k
  | 0 => by simp [cntUp]
  | k + 1 => by
    have ih := cntUp_set t s i p q hs k
    have hsl := (List.getElem?_eq_some_iff.1 hs).1
    rw [cntUp_succ, cntUp_succ]
    by_cases hks : k = s
    · subst hks
      rw [List.getElem?_set_self hsl, hs]
      rw [if_neg (by omega)] at ih
      by_cases hq : k / p = q
      · rw [if_neg (by rintro ⟨_, h⟩; injection h; omega), if_pos ⟨Nat.lt_succ_self _, hq⟩, if_pos ⟨hq, rfl⟩]; omega
      · rw [if_neg (by omega), if_neg (by omega), if_neg (by omega)]; omega
    · rw [List.getElem?_set_ne (Ne.symm hks)]
      by_cases hq : s < k ∧ s / p = q
      · rw [if_pos hq] at ih
        rw [if_pos (⟨by omega, hq.2⟩ : s < k + 1 ∧ s / p = q)]; omega
      · rw [if_neg hq] at ih
        rw [if_neg (by omega : ¬ (s < k + 1 ∧ s / p = q))]; omega
/-- A right table with a slot taken away is not right. -/
theorem plain_less {l : List Msg} (hg : Good l) {t : List Int} (h1 : t.length = cyc l) (h2 : ∀ x ∈ t, x = -1 ∨ (0 ≤ x ∧ x < l.length)) (h3 : AllRight l (cyc l) t) {s : Nat} {x : Int} (hs : t[s]? = some x) (hx : 0 ≤ x) : ¬ AllRight l (cyc l) (t.set s (-1)) := by
  intro h4
  rcases h2 x (List.mem_of_getElem? hs) with h | ⟨_, hxl⟩
  · omega
  · obtain ⟨i, rfl⟩ := Int.eq_ofNat_of_zero_le hx
    have hi : l[i]? = some l[i] := List.getElem?_eq_getElem (by omega)
    have hp := hg.p_pos _ (List.mem_of_getElem? hi)
    have hsl := (List.getElem?_eq_some_iff.1 hs).1
    obtain ⟨d, hd⟩ := dvd_cyc l[i] (List.getElem_mem _)
    have hq : s / (l[i]).period < cyc l / (l[i]).period := by
      rw [Nat.div_lt_iff_lt_mul hp, hd, Nat.mul_div_cancel_left _ hp, Nat.mul_comm d, ← hd]; omega
    have e1 := h3 i _ hi _ hq
    have e2 := h4 i _ hi _ hq
    have e3 := cntUp_set t s i (l[i]).period (s / (l[i]).period) hs (cyc l)
    rw [if_pos ⟨by omega, rfl⟩] at e3
    omega
/-- A right table serves somebody. -/
theorem plain_some {l : List Msg} (hg : Good l) {t : List Int} (h1 : t.length = cyc l) (h3 : AllRight l (cyc l) t) : ∃ (s : Nat) (x : Int), t[s]? = some x ∧ 0 ≤ x := by
  have hl := hg.len1
  have hi : l[0]? = some l[0] := List.getElem?_eq_getElem (by omega)
  have hp := hg.size _ (List.mem_of_getElem? hi)
  obtain ⟨d, hd⟩ := dvd_cyc l[0] (List.getElem_mem _)
  have hq : 0 < cyc l / (l[0]).period := Nat.div_pos (Nat.le_of_dvd hg.cyc_pos ⟨d, hd⟩) (by omega)
  have h4 := h3 0 _ hi 0 hq
  rcases Nat.eq_zero_or_pos (cntUp t 0 l[0].period 0 (cyc l)) with h5 | h5
  · omega
  · unfold cntUp at h5
    obtain ⟨s, hs⟩ := List.exists_mem_of_length_pos h5
    have := (List.mem_filter.1 hs).2
    simp only [Bool.and_eq_true, decide_eq_true_eq] at this
    exact ⟨s, _, this.2, by omega⟩
