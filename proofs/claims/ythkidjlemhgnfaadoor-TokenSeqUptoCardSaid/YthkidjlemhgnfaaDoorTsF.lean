/-
  REGIONS whose order is open: any order that keeps what binds gives what the given order gives.
  A SCHEDULE is an order that keeps what binds.
  REGIONS whose order is open, in a frame.
  A ROUND of a range over a function.
  THE WHOLE: what a run of the machine answers, the loaded program does.
-/
import Derived.Test.YthkidjlemhgnfaaDoorTsE
import Derived.Orders
set_option linter.unusedVariables false
set_option linter.unusedSimpArgs false
set_option linter.unusedSectionVars false
section
namespace AI
open Go

section
variable {P : Program} {glob : Nat → Row} {S : SFn}

/-- The run in the given order, operation by operation. -/
structure Trace (glob : Nat → Row) (S : SFn) (gs : List GOp) (before : List Nat) (s s' : St) (st : Nat → St) (f : Nat → List Nat × List Nat) : Prop where
  first : st 0 = s
  fin : st gs.length = s'
  step : ∀ j g, gs[j]? = some g → ∃ rd wr, touch (prims glob) g.op (st j).tmps (st j).heap = some (rd, wr) ∧ stepG (prims glob) S g (st j) = some (.ok (st (j + 1))) ∧
    f j = (rd, wr ++ List.range' (st j).heap.length ((st (j + 1)).heap.length - (st j).heap.length))
  apart : ∀ i j, i < j → j < gs.length → (before.getD j 0).testBit i = true ∨ AI.apart (f i) (f j) = true

theorem apartAll_get {b : Nat} {f : List Nat × List Nat} : ∀ {l : List (List Nat × List Nat)} {k : Nat}, apartAll b f k l = true → ∀ (i : Nat) (e : List Nat × List Nat), l[i]? = some e → b.testBit (k + i) = true ∨ AI.apart e f = true
  | [], _, _, i, e, h => by simp at h
  | x :: l, k, h, i, e, hi => by
    simp only [apartAll, Bool.and_eq_true, Bool.or_eq_true] at h
    cases i with
    | zero => simp at hi; subst hi; simpa using h.1
    | succ i =>
      simp at hi
      have := apartAll_get h.2 i e hi
      rwa [show k + (i + 1) = k + 1 + i by omega]

theorem trace_of : ∀ {gs : List GOp} {before : List Nat} {fs : List (List Nat × List Nat)} {s s' : St}, runDraw (prims glob) S gs before fs s = some s' →
    ∃ (st : Nat → St) (f : Nat → List Nat × List Nat), st 0 = s ∧ st gs.length = s' ∧ (∀ j g, gs[j]? = some g → ∃ rd wr, touch (prims glob) g.op (st j).tmps (st j).heap = some (rd, wr) ∧ stepG (prims glob) S g (st j) = some (.ok (st (j + 1))) ∧
      f j = (rd, wr ++ List.range' (st j).heap.length ((st (j + 1)).heap.length - (st j).heap.length))) ∧
      (∀ j, j < gs.length → ∀ i e, fs[i]? = some e → (before.getD j 0).testBit i = true ∨ AI.apart e (f j) = true) ∧
      ∀ i j, i < j → j < gs.length → (before.getD j 0).testBit (fs.length + i) = true ∨ AI.apart (f i) (f j) = true
  | [], before, fs, s, s', e => by
    simp [runDraw] at e
    exact ⟨fun _ => s, fun _ => ([], []), rfl, e, fun j g h => by simp at h, fun j h => by simp at h, fun i j _ h => by simp at h⟩
  | g :: gs, before, fs, s, s', e => by
    simp only [runDraw] at e
    split at e
    · cases e
    rename_i rd wr ht
    split at e
    · rename_i s1 hs
      split at e
      · rename_i hap
        obtain ⟨st, f, q1, q2, q3, q4, q5⟩ := trace_of e
        refine ⟨fun k => match k with | 0 => s | k + 1 => st k, fun k => match k with | 0 => (rd, wr ++ List.range' s.heap.length (s1.heap.length - s.heap.length)) | k + 1 => f k, rfl, q2, fun j g' hg => ?_, fun j hj i e' he => ?_, fun i j hij hj => ?_⟩
        · cases j with
          | zero => simp at hg; subst hg; exact ⟨rd, wr, ht, by simpa [q1] using hs, by simp [q1]⟩
          | succ j => simp at hg; exact q3 j g' hg
        · cases j with
          | zero =>
            have := apartAll_get hap i e' he
            cases before <;> simpa using this
          | succ j =>
            have := q4 j (by simpa using hj) i e' (by
              have hi : i < fs.length := (List.getElem?_eq_some_iff.1 he).1
              rw [List.getElem?_append_left hi]; exact he)
            cases before <;> simpa using this
        · cases j with
          | zero => omega
          | succ j =>
            cases i with
            | zero =>
              have := q4 j (by simpa using hj) fs.length _ (by rw [List.getElem?_append_right (Nat.le_refl _), Nat.sub_self]; rfl)
              cases before <;> simpa using this
            | succ i =>
              have := q5 i j (by omega) (by simpa using hj)
              rw [List.length_append, List.length_singleton] at this
              rw [show fs.length + (i + 1) = fs.length + 1 + i by omega]
              cases before <;> simpa using this
      · cases e
    · cases e

theorem trace_draw {gs : List GOp} {before : List Nat} {s s' : St} (e : runDraw (prims glob) S gs before [] s = some s') : ∃ st f, Trace glob S gs before s s' st f := by
  obtain ⟨st, f, q1, q2, q3, q4, q5⟩ := trace_of e
  exact ⟨st, f, q1, q2, q3, fun i j h1 h2 => by simpa using q5 i j h1 h2⟩

/-! ### Schedules -/
/-- An order in which every operation stands once, behind all that bind it. -/
inductive Order (n : Nat) (bind : Nat → Nat → Prop) : (Nat → Bool) → List Nat → Prop where
  | done (D : Nat → Bool) (h : ∀ i, i < n → D i = true) : Order n bind D []
  | next (D : Nat → Bool) (j : Nat) (l : List Nat) (hj : j < n) (hd : D j = false) (hb : ∀ i, bind j i → D i = true) (h : Order n bind (fun i => D i || i == j) l) : Order n bind D (j :: l)

theorem meets_of {a b : List Nat} {i : Nat} (h1 : i ∈ a) (h2 : i ∈ b) : meets a b = true := by
  induction a with
  | nil => simp at h1
  | cons x a ih =>
    simp only [meets, Bool.or_eq_true]
    simp only [List.mem_cons] at h1
    rcases h1 with rfl | h1
    · exact .inl (by simpa using h2)
    · exact .inr (ih h1)

theorem apart_wr {e f : List Nat × List Nat} (h : AI.apart e f = true) {i : Nat} (h1 : i ∈ e.2) (h2 : i ∈ f.1 ∨ i ∈ f.2) : False := by
  simp only [AI.apart, Bool.not_eq_true', Bool.or_eq_false_iff] at h
  rcases h2 with h2 | h2
  · rw [meets_of h1 h2] at h; exact absurd h.1.1 (by simp)
  · rw [meets_of h1 h2] at h; exact absurd h.1.2 (by simp)
theorem apart_rw {e f : List Nat × List Nat} (h : AI.apart e f = true) {i : Nat} (h1 : i ∈ e.1 ∨ i ∈ e.2) (h2 : i ∈ f.2) : False := by
  rcases h1 with h1 | h1
  · simp only [AI.apart, Bool.not_eq_true', Bool.or_eq_false_iff] at h
    rw [meets_of h1 h2] at h; exact absurd h.2 (by simp)
  · exact apart_wr h h1 (.inr h2)

section
variable {gs : List GOp} {before : List Nat} {s s' : St} {st : Nat → St} {f : Nat → List Nat × List Nat}

def wT (gs : List GOp) (m i : Nat) : Bool := (gs.getD i default).op.dst == some m
def wH (f : Nat → List Nat × List Nat) (id i : Nat) : Bool := (f i).2.contains id

theorem Trace.at (T : Trace glob S gs before s s' st f) {j : Nat} (hj : j < gs.length) : gs[j]? = some (gs.getD j default) := by simp [List.getD, hj]

theorem Trace.put (T : Trace glob S gs before s s' st f) {j : Nat} (hj : j < gs.length) : ∃ x ks, st (j + 1) = ⟨AI.put (st j).tmps (gs.getD j default).op.dst x, (st (j + 1)).heap, ks ++ (st j).oks⟩ := by
  obtain ⟨rd, wr, h1, h2, h3⟩ := T.step j _ (T.at hj)
  obtain ⟨x, ks, e, -⟩ := stepG_congr (t := (st j).tmps) (t' := (st j).tmps) (hl := (st j).heap) (k := (st j).oks) (fun _ _ => rfl) h2
  exact ⟨x, ks, e⟩
theorem put_length (t : List LV) (d : Option Nat) (x : LV) : (AI.put t d x).length = t.length := by cases d <;> simp [AI.put]
theorem put_getD {t : List LV} {d : Option Nat} {x : LV} {m : Nat} (h : (d == some m) = false) : (AI.put t d x).getD m .bad = t.getD m .bad := by
  cases d with
  | none => rfl
  | some d =>
    have : d ≠ m := by simpa using h
    simp [AI.put, List.getD, List.getElem?_set, this]
theorem put_getD_same {t : List LV} {x : LV} {m : Nat} (h : m < t.length) : (AI.put t (some m) x).getD m .bad = x := by
  simp [AI.put, List.getD, h]

theorem Trace.len (T : Trace glob S gs before s s' st f) : ∀ {j : Nat}, j ≤ gs.length → (st j).tmps.length = s.tmps.length
  | 0, _ => by rw [T.first]
  | j + 1, hj => by
    obtain ⟨x, ks, e⟩ := T.put (j := j) (by omega)
    rw [e]
    simp only [put_length]
    exact T.len (by omega)

theorem Trace.oks (T : Trace glob S gs before s s' st f) (hk : s'.oks.all id = true) : ∀ (d : Nat) {j : Nat}, j + d = gs.length → (st j).oks.all id = true
  | 0, j, h => by rw [show j = gs.length by omega, T.fin]; exact hk
  | d + 1, j, h => by
    have := T.oks hk d (j := j + 1) (by omega)
    obtain ⟨x, ks, e⟩ := T.put (j := j) (by omega)
    rw [e] at this
    simp only [List.all_append, Bool.and_eq_true] at this
    exact this.2

theorem Trace.tv (T : Trace glob S gs before s s' st f) {m i : Nat} (hi : i < gs.length) (h : wT gs m i = false) : (st (i + 1)).tmps.getD m .bad = (st i).tmps.getD m .bad := by
  obtain ⟨x, ks, e⟩ := T.put hi
  rw [e]
  exact put_getD h
theorem mem_new {a b id : Nat} : id ∈ List.range' a (b - a) ↔ a ≤ id ∧ id < b := by
  rw [List.mem_range'_1]; omega
theorem Trace.hv (T : Trace glob S gs before s s' st f) {i0 i : Nat} (hi : i < gs.length) (h : wH f i0 i = false) : (st (i + 1)).heap[i0]? = (st i).heap[i0]? := by
  obtain ⟨rd, wr, h1, h2, h3⟩ := T.step i _ (T.at hi)
  obtain ⟨k1, k2⟩ := stepG_abs h1 h2
  have hn : i0 ∉ wr ∧ ¬ ((st i).heap.length ≤ i0 ∧ i0 < (st (i + 1)).heap.length) := by
    have : i0 ∉ (f i).2 := by simpa [wH] using h
    rw [h3] at this
    simp only [List.mem_append, not_or] at this
    exact ⟨this.1, fun hc => this.2 (mem_new.2 hc)⟩
  by_cases hlt : i0 < (st i).heap.length
  · exact k2 i0 hn.1 hlt
  · rw [List.getElem?_eq_none (by omega), List.getElem?_eq_none (by omega)]

/-- Operations that are not bound share nothing. -/
structure Free (gs : List GOp) (before : List Nat) (f : Nat → List Nat × List Nat) : Prop where
  tmp : ∀ i j, i < j → j < gs.length → (before.getD j 0).testBit i = true ∨ indep (gs.getD i default) (gs.getD j default) = true
  heap : ∀ i j, i < j → j < gs.length → (before.getD j 0).testBit i = true ∨ AI.apart (f i) (f j) = true

theorem free_of (T : Trace glob S gs before s s' st f) (h : ckApart before gs = true) : Free gs before f := by
  refine ⟨fun i j hij hj => ?_, T.apart⟩
  unfold ckApart at h
  have := List.all_eq_true.1 (List.all_eq_true.1 h j (by simpa using hj)) i (by simpa using hij)
  simpa using this

/-- The writers of what an operation touches are those ahead of it. -/
theorem writers_tmp (F : Free gs before f) {D : Nat → Bool} {j m : Nat} (hj : j < gs.length) (hD : D j = false) (hb : ∀ i, (before.getD j 0).testBit i = true → D i = true) (hc : ∀ i, D i = true → ∀ k, (before.getD i 0).testBit k = true → D k = true)
    (hm : m ∈ (gs.getD j default).reads ∨ (gs.getD j default).op.dst = some m) {i : Nat} (hi : i < gs.length) (hw : wT gs m i = true) : (i < j → D i = true) ∧ (j < i → D i = false) := by
  have hdi : (gs.getD i default).op.dst = some m := by simpa [wT] using hw
  refine ⟨fun hij => ?_, fun hji => ?_⟩
  · rcases F.tmp i j hij hj with h | h
    · exact hb i h
    · exfalso
      simp only [indep, hdi, Bool.and_eq_true, Bool.not_eq_true'] at h
      rcases hm with hm | hm
      · have := h.1.1; rw [List.contains_iff_mem.2 hm] at this; cases this
      · have := h.1.2; rw [hm] at this; simp at this
  · rw [Bool.eq_false_iff]
    intro hDi
    rcases F.tmp j i hji hi with h | h
    · have := hc i hDi j h; rw [hD] at this; cases this
    · simp only [indep, hdi, Bool.and_eq_true, Bool.not_eq_true'] at h
      rcases hm with hm | hm
      · have := h.2; rw [List.contains_iff_mem.2 hm] at this; cases this
      · have := h.1; rw [hm] at this; simp at this

theorem writers_heap (F : Free gs before f) {D : Nat → Bool} {j m : Nat} (hj : j < gs.length) (hD : D j = false) (hb : ∀ i, (before.getD j 0).testBit i = true → D i = true) (hc : ∀ i, D i = true → ∀ k, (before.getD i 0).testBit k = true → D k = true)
    (hm : m ∈ (f j).1 ∨ m ∈ (f j).2) {i : Nat} (hi : i < gs.length) (hw : wH f m i = true) : (i < j → D i = true) ∧ (j < i → D i = false) := by
  have hdi : m ∈ (f i).2 := by simpa [wH] using hw
  refine ⟨fun hij => ?_, fun hji => ?_⟩
  · rcases F.heap i j hij hj with h | h
    · exact hb i h
    · exact (apart_wr h hdi hm).elim
  · rw [Bool.eq_false_iff]
    intro hDi
    rcases F.heap j i hji hi with h | h
    · have := hc i hDi j h; rw [hD] at this; cases this
    · exact apart_rw h hm hdi

/-- Where a run stands that has done the operations of D, in whatever order. -/
structure Good (P : Program) (glob : Nat → Row) (gs : List GOp) (s : St) (st : Nat → St) (f : Nat → List Nat × List Nat) (D : Nat → Bool) (G : Ghost) (w : World) (h : HF) (μ : Loc) (a : Array Value) : Prop where
  hr : HRel P G w h μ
  gr : GlobRel G w glob
  size : a.size = s.tmps.length
  tr : ∀ m v, a[m]? = some v → RV G w h μ (last D (wT gs m) (fun k => (st k).tmps.getD m .bad) gs.length) v
  hh : ∀ i, h i = last D (wH f i) (fun k => (st k).heap[i]?) gs.length

theorem good_step (hS : SoundFn P glob S) {ops : Array Oper} (T : Trace glob S gs before s s' st f) (hk : s'.oks.all id = true) (F : Free gs before f) (hck : ∀ (j : Nat) (g : GOp), gs[j]? = some g → ∃ o, ops[j]? = some o ∧ ckG P ops o g = true)
    {D : Nat → Bool} {G : Ghost} {w : World} {h : HF} {μ : Loc} {a : Array Value} (g : Good P glob gs s st f D G w h μ a) {j : Nat} (hj : j < gs.length) (hD : D j = false) (hb : ∀ i, (before.getD j 0).testBit i = true → D i = true)
    (hc : ∀ i, D i = true → ∀ k, (before.getD i 0).testBit k = true → D k = true) (b : Base) (rest : List Nat) (d : List Deferred) (k : List Item) (cs : List Frame) :
    ∃ a' w' G' h' μ', Steps P (lone (b.fr a d (.inRegion ops (j :: rest) :: k)) cs w) (lone (b.fr a' d (.inRegion ops rest :: k)) cs w') ∧ Mv G w h μ G' w' h' μ' ∧ Good P glob gs s st f (fun i => D i || i == j) G' w' h' μ' a' := by
  let tD : List LV := (List.range s.tmps.length).map fun m => last D (wT gs m) (fun k => (st k).tmps.getD m .bad) gs.length
  have hlenD : tD.length = s.tmps.length := by simp [tD]
  have getD_tD : ∀ m, m < s.tmps.length → tD[m]? = some (last D (wT gs m) (fun k => (st k).tmps.getD m .bad) gs.length) := fun m hm => by simp [tD, hm]
  have c : Ctx P glob G w h μ tD a := ⟨⟨by rw [hlenD, g.size], fun m x v hx hv => by
    have hm : m < s.tmps.length := by rw [← hlenD]; exact (List.getElem?_eq_some_iff.1 hx).1
    rw [getD_tD m hm] at hx
    cases hx
    exact g.tr m v hv⟩, g.gr, g.hr⟩
  obtain ⟨rd, wr, h1, h2, h3⟩ := T.step j _ (T.at hj)
  obtain ⟨o, ho, hcg⟩ := hck j _ (T.at hj)
  have same : ∀ m ∈ (gs.getD j default).reads, (st j).tmps.getD m .bad = tD.getD m .bad := by
    intro m hm
    by_cases hlt : m < s.tmps.length
    · have hl : last D (wT gs m) (fun k => (st k).tmps.getD m .bad) gs.length = (st j).tmps.getD m .bad := last_eq (v := fun k => (st k).tmps.getD m .bad) (Nat.le_of_lt hj) (fun i hi hw => by
        obtain ⟨q1, q2⟩ := writers_tmp F hj hD hb hc (.inl hm) hi hw
        refine ⟨fun e => ?_, q1⟩
        rcases Nat.lt_trichotomy i j with q | q | q
        · exact q
        · subst q; rw [hD] at e; cases e
        · rw [q2 q] at e; cases e) (fun i hi hw => T.tv hi hw)
      rw [← hl]
      simp [List.getD, getD_tD m hlt]
    · have e1 : (st j).tmps[m]? = none := List.getElem?_eq_none (by rw [T.len (Nat.le_of_lt hj)]; omega)
      have e2 : tD[m]? = none := List.getElem?_eq_none (by rw [hlenD]; omega)
      simp [List.getD, e1, e2]
  obtain ⟨x, ks, e1, e2⟩ := stepG_congr (t := (st j).tmps) (t' := tD) (hl := (st j).heap) (k := (st j).oks) same h2
  have hks : ks.all id = true := by
    have := T.oks hk (gs.length - (j + 1)) (j := j + 1) (by omega)
    rw [e1] at this
    simp only [List.all_append, Bool.and_eq_true] at this
    exact this.1
  have ht' : touch (prims glob) (gs.getD j default).op tD (st j).heap = some (rd, wr) := by
    rw [← touch_congr (fun n hn => same n (by unfold GOp.reads; exact List.mem_append_right _ hn))]; exact h1
  have hagree : ∀ i, i ∈ (f j).1 ∨ i ∈ (f j).2 → h i = (st j).heap[i]? := by
    intro i hi
    rw [g.hh i]
    exact last_eq (v := fun k => (st k).heap[i]?) (Nat.le_of_lt hj) (fun i' hi' hw => by
      obtain ⟨q1, q2⟩ := writers_heap F hj hD hb hc hi hi' hw
      refine ⟨fun e => ?_, q1⟩
      rcases Nat.lt_trichotomy i' j with q | q | q
      · exact q
      · subst q; rw [hD] at e; cases e
      · rw [q2 q] at e; cases e) (fun i' hi' hw => T.hv hi' hw)
  have hA : ∀ i, i ∈ rd ∨ i ∈ wr → h i = (st j).heap[i]? := fun i hi => hagree i (by
    rw [h3]
    rcases hi with hi | hi
    · exact .inl hi
    · exact .inr (List.mem_append_left _ hi))
  have hF : ∀ i, (st j).heap.length ≤ i → i < (st (j + 1)).heap.length → h i = none := fun i q1 q2 => by
    rw [hagree i (by rw [h3]; exact .inr (List.mem_append_right _ (mem_new.2 ⟨q1, q2⟩)))]
    exact List.getElem?_eq_none q1
  obtain ⟨-, h', hq, x', hx', hst⟩ := stepG_core (Q := fun l h' => Eff (st j).heap l wr h h') (s := ⟨tD, (st j).heap, []⟩) c hcg ho
    (fun res hres hheap hko => op_gen c hS (by simp only [ckG, Bool.and_eq_true] at hcg; exact hcg.1) ht' hA (fun i q1 q2 => hF i q1 (by rw [hheap] at q2; exact q2)) hres hko)
    (eff_same (fun i hi => hA i (.inr hi))) e2 (by simpa using hks)
  obtain ⟨v, w', G', μ', z1, z2, z3, z4⟩ := hst b rest d k cs
  have hdst : o.dst = (gs.getD j default).op.dst := by
    simp only [ckG, Bool.and_eq_true] at hcg
    have := hcg.1
    unfold ckOp at this
    rw [Bool.and_eq_true] at this
    simpa using this.1
  have upto : ∀ {W : Nat → Bool}, (∀ i, i < gs.length → W i = true → (i < j → D i = true) ∧ (j < i → D i = false)) → ∀ i, i < gs.length → W i = true → ((D i || i == j) = true ↔ i < j + 1) := by
    intro W hW i hi hw
    obtain ⟨q1, q2⟩ := hW i hi hw
    simp only [Bool.or_eq_true, beq_iff_eq]
    rcases Nat.lt_trichotomy i j with q | q | q
    · exact ⟨fun _ => by omega, fun _ => .inl (q1 q)⟩
    · exact ⟨fun _ => by omega, fun _ => .inr q⟩
    · exact ⟨fun e => by rcases e with e | e; (rw [q2 q] at e; cases e); omega, fun _ => by omega⟩
  refine ⟨putV a o.dst v, w', G', h', μ', z1, z2, ⟨z3, g.gr.evo z2.evo, ?_, fun m u hu => ?_, fun i => ?_⟩⟩
  · rw [← g.size]; cases o.dst <;> simp [putV]
  · by_cases hm : (gs.getD j default).op.dst = some m
    · have hdm : o.dst = some m := hdst.trans hm
      rw [hdm] at hu
      simp only [putV] at hu
      rw [Array.getElem?_setIfInBounds, if_pos rfl] at hu
      split at hu <;> cases hu
      rename_i hlt
      rw [g.size] at hlt
      have hl : last (fun i => D i || i == j) (wT gs m) (fun k => (st k).tmps.getD m .bad) gs.length = (st (j + 1)).tmps.getD m .bad :=
        last_eq (v := fun k => (st k).tmps.getD m .bad) (by omega) (upto (fun i hi hw => writers_tmp F hj hD hb hc (.inr hm) hi hw)) (fun i hi hw => T.tv hi hw)
      rw [hl, e1, hm]
      simp only
      rw [put_getD_same (by rw [T.len (Nat.le_of_lt hj)]; exact hlt)]
      have hxx : x = x' := by
        have := congrArg (fun l : List LV => l.getD m .bad) hx'
        simp only [hm, hdm] at this
        rwa [put_getD_same (by rw [hlenD]; exact hlt), put_getD_same (by rw [hlenD]; exact hlt)] at this
      rw [hxx]; exact z4
    · have hwj : wT gs m j = false := by simpa [wT] using hm
      have hl : last (fun i => D i || i == j) (wT gs m) (fun k => (st k).tmps.getD m .bad) gs.length = last D (wT gs m) (fun k => (st k).tmps.getD m .bad) gs.length :=
        last_congr (fun i hi hw => by
          have : i ≠ j := fun e => by rw [e, hwj] at hw; cases hw
          simp [this])
      rw [hl]
      have hu' : a[m]? = some u := by
        rw [hdst] at hu
        cases hd : (gs.getD j default).op.dst with
        | none => rw [hd] at hu; exact hu
        | some d =>
          rw [hd] at hu hm
          simp only [putV] at hu
          rw [Array.getElem?_setIfInBounds, if_neg (fun e => hm (by rw [e]))] at hu
          exact hu
      exact (g.tr m u hu').evo z2.evo z2.comp
  · rw [hq.eq]
    show (if i ∈ wr ∨ ((st j).heap.length ≤ i ∧ i < (st (j + 1)).heap.length) then (st (j + 1)).heap[i]? else h i) = _
    by_cases hw : wH f i j = true
    · have hmem : i ∈ (f j).2 := by simpa [wH] using hw
      have hl : last (fun i => D i || i == j) (wH f i) (fun k => (st k).heap[i]?) gs.length = (st (j + 1)).heap[i]? :=
        last_eq (v := fun k => (st k).heap[i]?) (by omega) (upto (fun i' hi' hw' => writers_heap F hj hD hb hc (.inr hmem) hi' hw')) (fun i' hi' hw' => T.hv hi' hw')
      rw [hl, if_pos]
      rw [h3, List.mem_append] at hmem
      rcases hmem with hmem | hmem
      · exact .inl hmem
      · exact .inr (mem_new.1 hmem)
    · have hmem : i ∉ (f j).2 := by simpa [wH] using hw
      rw [if_neg, g.hh i]
      · exact (last_congr (fun i' hi' hw' => by
          have : i' ≠ j := fun e => hw (e ▸ hw')
          simp [this])).symm
      · rw [h3, List.mem_append] at hmem
        exact fun e => hmem (e.imp id mem_new.2)

theorem good_run (hS : SoundFn P glob S) {ops : Array Oper} (T : Trace glob S gs before s s' st f) (hk : s'.oks.all id = true) (F : Free gs before f) (hck : ∀ (j : Nat) (g : GOp), gs[j]? = some g → ∃ o, ops[j]? = some o ∧ ckG P ops o g = true)
    {D : Nat → Bool} {l : List Nat} (ho : Order gs.length (fun j i => (before.getD j 0).testBit i = true) D l) : ∀ {G : Ghost} {w : World} {h : HF} {μ : Loc} {a : Array Value}, Good P glob gs s st f D G w h μ a →
    (∀ i, D i = true → ∀ k, (before.getD i 0).testBit k = true → D k = true) → ∀ (b : Base) (d : List Deferred) (k : List Item) (cs : List Frame),
    ∃ a' w' G' h' μ' D', Steps P (lone (b.fr a d (.inRegion ops l :: k)) cs w) (lone (b.fr a' d k) cs w') ∧ Mv G w h μ G' w' h' μ' ∧ Good P glob gs s st f D' G' w' h' μ' a' ∧ ∀ i, i < gs.length → D' i = true := by
  induction ho with
  | done D hall => exact fun g hc b d k cs => ⟨_, _, _, _, _, D, .one s_regionEnd, Mv.refl .., g, hall⟩
  | next D j l hj hd hb _ ih =>
    intro G w h μ a g hc b d k cs
    obtain ⟨a1, w1, G1, h1, μ1, z1, z2, z3⟩ := good_step hS T hk F hck g hj hd hb hc b l d k cs
    obtain ⟨a2, w2, G2, h2, μ2, D', y1, y2, y3, y4⟩ := ih z3 (fun i hi k hk => by
      simp only [Bool.or_eq_true, beq_iff_eq] at hi ⊢
      rcases hi with hi | hi
      · exact .inl (hc i hi k hk)
      · subst hi; exact .inl (hb k hk)) b d k cs
    exact ⟨a2, w2, G2, h2, μ2, D', Steps.trans z1 y1, z2.trans y2, y3, y4⟩

theorem last_none {α : Type} {W : Nat → Bool} {v : Nat → α} : ∀ {N : Nat}, last (fun _ => false) W v N = v 0
  | 0 => rfl
  | k + 1 => by rw [last]; simpa using last_none

/-- All of a region, in any order that keeps what binds. -/
theorem order_ok (hS : SoundFn P glob S) {ops : Array Oper} (e : runDraw (prims glob) S gs before [] s = some s') (hk : s'.oks.all id = true) (ha : ckApart before gs = true) (hck : ckOps P ops ops.toList gs = true)
    {l : List Nat} (ho : Order gs.length (fun j i => (before.getD j 0).testBit i = true) (fun _ => false) l) :
    s.oks.all id = true ∧ ∀ {G : Ghost} {w : World} {μ : Loc} {a : Array Value}, Ctx P glob G w (lift s.heap) μ s.tmps a → ∀ (b : Base) (d : List Deferred) (k : List Item) (cs : List Frame),
    ∃ a' w' G' μ', Steps P (lone (b.fr a d (.inRegion ops l :: k)) cs w) (lone (b.fr a' d k) cs w') ∧ Mv G w (lift s.heap) μ G' w' (lift s'.heap) μ' ∧ Ctx P glob G' w' (lift s'.heap) μ' s'.tmps a' := by
  obtain ⟨st, f, T⟩ := trace_draw e
  have F := free_of T ha
  refine ⟨by have := T.oks hk gs.length (j := 0) (by omega); rwa [T.first] at this, fun {G w μ a} c b d k cs => ?_⟩
  have hcks : ∀ (l : List Oper) (gs : List GOp), ckOps P ops l gs = true → ∀ (j : Nat) (g : GOp), gs[j]? = some g → ∃ o, l[j]? = some o ∧ ckG P ops o g = true := by
    intro l
    induction l with
    | nil => intro gs h j g hg; cases gs <;> simp [ckOps] at h hg
    | cons o l ih =>
      intro gs h j g hg
      cases gs with
      | nil => simp at hg
      | cons g0 gs =>
        simp only [ckOps, Bool.and_eq_true] at h
        cases j with
        | zero => simp at hg; subst hg; exact ⟨o, rfl, h.1⟩
        | succ j => simp at hg; simpa using ih gs h.2 j g hg
  have g0 : Good P glob gs s st f (fun _ => false) G w (lift s.heap) μ a := ⟨c.hr, c.gr, c.tr.size.symm, fun m v hv => by
    rw [last_none, T.first]
    have hm : m < s.tmps.length := by rw [c.tr.size]; exact (Array.getElem?_eq_some_iff.1 hv).1
    have := c.tr.rel m _ v (List.getElem?_eq_getElem hm) hv
    simpa [List.getD, List.getElem?_eq_getElem hm] using this, fun i => by rw [last_none, T.first]⟩
  obtain ⟨a', w', G', h', μ', D', z1, z2, z3, z4⟩ := good_run hS T hk F (fun j g hg => by
    obtain ⟨o, h1, h2⟩ := hcks _ _ hck j g hg
    exact ⟨o, by simpa using h1, h2⟩) ho g0 (fun i h => by cases h) b d k cs
  have hh : h' = lift s'.heap := by
    funext i
    rw [z3.hh i, ← T.fin]
    exact last_eq (v := fun k => (st k).heap[i]?) (Nat.le_refl _) (fun i' hi' _ => ⟨fun _ => hi', fun _ => z4 i' hi'⟩) (fun i' hi' hw => T.hv hi' hw)
  subst hh
  refine ⟨a', w', G', μ', z1, z2, ⟨⟨?_, fun m x v hx hv => ?_⟩, z3.gr, z3.hr⟩⟩
  · rw [z3.size, ← T.fin]; exact T.len (Nat.le_refl _)
  · have := z3.tr m v hv
    rw [last_eq (v := fun k => (st k).tmps.getD m .bad) (Nat.le_refl _) (fun i' hi' _ => ⟨fun _ => hi', fun _ => z4 i' hi'⟩) (fun i' hi' hw => T.tv hi' hw), T.fin] at this
    simpa [List.getD, hx] using this
end
end
end AI
end

section
namespace AI
open Go

theorem testBit_fold {before : List Nat} : ∀ {l : List Edge} {s k : Nat}, (l.foldl (fun s e => if Region.binds .any e then s ||| 2 ^ e.on ||| before.getD e.on 0 else s) s).testBit k = true →
    s.testBit k = true ∨ ∃ e ∈ l, Region.binds .any e = true ∧ (k = e.on ∨ (before.getD e.on 0).testBit k = true)
  | [], s, k, h => .inl h
  | e :: l, s, k, h => by
    rw [List.foldl_cons] at h
    rcases testBit_fold h with h | ⟨e', h1, h2⟩
    · split at h
      · rename_i hb
        rw [Nat.testBit_or, Nat.testBit_or, Bool.or_eq_true, Bool.or_eq_true] at h
        rcases h with (h | h) | h
        · exact .inl h
        · rw [Nat.testBit_two_pow] at h
          exact .inr ⟨e, by simp, hb, .inl (Eq.symm (by simpa using h))⟩
        · exact .inr ⟨e, by simp, hb, .inr h⟩
      · exact .inl h
    · exact .inr ⟨e', by simp [h1], h2⟩

theorem ckBefore_at {ops : Array Oper} {before : List Nat} (h : ckBefore ops before = true) {j : Nat} {o : Oper} (ho : ops[j]? = some o) :
    (∀ k, (before.getD j 0).testBit k = true → ∃ e ∈ o.after.toList, Region.binds .any e = true ∧ (k = e.on ∨ (before.getD e.on 0).testBit k = true)) ∧ ∀ e ∈ o.after.toList, Region.binds .any e = true → e.on < j := by
  have hj : j < ops.size := (Array.getElem?_eq_some_iff.1 ho).1
  unfold ckBefore at h
  have := List.all_eq_true.1 h j (by simpa using hj)
  simp only [ho, Bool.and_eq_true, beq_iff_eq] at this
  obtain ⟨h1, h2⟩ := this
  refine ⟨fun k hk => ?_, fun e he hb => ?_⟩
  · rw [h1] at hk
    rcases testBit_fold hk with hk | hk
    · simp at hk
    · exact hk
  · have := List.all_eq_true.1 h2 e he
    simpa [hb] using this

theorem countP_lt {p q : Nat → Bool} (h : ∀ x, q x = true → p x = true) {i : Nat} (hp : p i = true) (hq : q i = false) : ∀ {l : List Nat}, i ∈ l → l.countP q < l.countP p
  | [], hm => by simp at hm
  | x :: l, hm => by
    have hmono : l.countP q ≤ l.countP p := List.countP_mono_left (fun x _ => h x)
    rw [List.countP_cons, List.countP_cons]
    by_cases hx : x = i
    · subst hx; simp [hp, hq]; omega
    · have hm' : i ∈ l := by
        rcases List.mem_cons.1 hm with e | e
        · exact (hx e.symm).elim
        · exact e
      have := countP_lt h hp hq hm'
      cases hqx : q x with
      | true => simp [h x hqx]; exact this
      | false => simp; omega

theorem go_order {ops : Array Oper} {before : List Nat} (hck : ckBefore ops before = true) : ∀ (fuel t : Nat) (listed : Array Bool), listed.size = ops.size → ((List.range ops.size).countP fun i => !listed.getD i false) ≤ fuel →
    (∀ i, listed.getD i false = true → ∀ k, (before.getD i 0).testBit k = true → listed.getD k false = true) →
    Order ops.size (fun j i => (before.getD j 0).testBit i = true) (fun i => listed.getD i false) (Region.linearise.go .any ops fuel t listed []) := by
  intro fuel
  induction fuel with
  | zero =>
    intro t listed hs hc hcl
    have h0 := List.countP_eq_zero.1 (Nat.le_zero.1 hc)
    refine .done _ fun i hi => ?_
    have := h0 i (by simpa using hi)
    simpa using this
  | succ fuel ih =>
    intro t listed hs hc hcl
    simp only [Region.linearise.go]
    split
    · rename_i i hi
      have hmem := List.mem_of_getElem? hi
      simp only [List.mem_filter, List.mem_range, Bool.and_eq_true, Bool.not_eq_true'] at hmem
      obtain ⟨hin, hnl, hready⟩ := hmem
      have ho : ops[i]? = some ops[i] := Array.getElem?_eq_getElem hin
      rw [ho] at hready
      simp only [Option.map_some, Option.getD_some, Array.all_eq_true_iff_forall_mem] at hready
      have hil : i < listed.size := by omega
      have hD : listed.getD i false = false := by simpa [Array.getD, hil] using hnl
      rw [linearise_go_acc, List.reverse_singleton, List.singleton_append]
      have hb : ∀ k, (before.getD i 0).testBit k = true → listed.getD k false = true := by
        intro k hk
        obtain ⟨e, he, hbe, hk⟩ := (ckBefore_at hck ho).1 k hk
        have hl : listed.getD e.on false = true := by
          have := hready e (by simpa using he)
          simpa [hbe] using this
        rcases hk with rfl | hk
        · exact hl
        · exact hcl _ hl k hk
      have hset : ∀ k, (listed.setIfInBounds i true).getD k false = (listed.getD k false || k == i) := by
        intro k
        simp only [Array.getD_eq_getD_getElem?, Array.getElem?_setIfInBounds]
        by_cases hk : i = k
        · subst hk; simp [hil]
        · simp [hk, Ne.symm hk]
      have hfun : (fun k => listed.getD k false || k == i) = fun k => (listed.setIfInBounds i true).getD k false := by funext k; exact (hset k).symm
      refine .next _ i _ hin hD hb ?_
      rw [hfun]
      refine ih _ _ (by simpa using hs) ?_ (fun k hk m hm => ?_)
      · have : ((List.range ops.size).countP fun k => !(listed.setIfInBounds i true).getD k false) < (List.range ops.size).countP fun k => !listed.getD k false := by
          refine countP_lt (i := i) (fun x hx => ?_) (by simp [hD]) (by rw [hset]; simp) (by simpa using hin)
          rw [hset] at hx
          simp only [Bool.not_eq_true', Bool.or_eq_false_iff] at hx
          simp [hx.1]
        omega
      · rw [hset] at hk ⊢
        simp only [Bool.or_eq_true, beq_iff_eq] at hk ⊢
        rcases hk with hk | hk
        · exact .inl (hcl k hk m hm)
        · subst hk; exact .inl (hb m hm)
    · rename_i hnone
      have hempty : ∀ i, i < ops.size → listed.getD i false = false → (∀ k, k < i → listed.getD k false = true) → False := by
        intro i hi hl hlow
        have ho : ops[i]? = some ops[i] := Array.getElem?_eq_getElem hi
        have hil : i < listed.size := by omega
        have hlt : listed.getD i true = false := by simpa [Array.getD, hil] using hl
        have hmem : i ∈ (List.range ops.size).filter fun i => !listed.getD i true && ((ops[i]?).map (·.after.all fun e => !Region.binds .any e || listed.getD e.on false)).getD false := by
          simp only [List.mem_filter, List.mem_range, hi, true_and, hlt, Bool.not_false, Bool.true_and, ho, Option.map_some, Option.getD_some, Array.all_eq_true_iff_forall_mem]
          intro e he
          cases hb : Region.binds .any e with
          | false => rfl
          | true => simpa using hlow e.on ((ckBefore_at hck ho).2 e (by simpa using he) hb)
        have hpos := List.length_pos_of_mem hmem
        have := Nat.mod_lt t hpos
        rw [List.getElem?_eq_getElem this] at hnone
        cases hnone
      refine .done _ fun i => ?_
      induction i using Nat.strongRecOn with
      | _ i hrec =>
        intro hi
        cases hl : listed.getD i false with
        | true => rfl
        | false => exact (hempty i hi hl (fun k hk => hrec k hk (by omega))).elim

theorem sched_order {ops : Array Oper} {before : List Nat} (hck : ckBefore ops before = true) (t : Nat) : Order ops.size (fun j i => (before.getD j 0).testBit i = true) (fun _ => false) (Region.schedule true ops t) := by
  have hf : (fun i => (Array.replicate ops.size false).getD i false) = fun _ => false := by
    funext i; simp [Array.getD_eq_getD_getElem?, Array.getElem?_replicate]; split <;> rfl
  have := go_order hck ops.size t (Array.replicate ops.size false) (by simp) (by
    have := List.countP_le_length (p := fun i => !(Array.replicate ops.size false).getD i false) (l := List.range ops.size)
    simpa using this) (fun i hi => by rw [congrFun hf i] at hi; cases hi)
  rw [hf] at this
  simpa [Region.schedule, Region.linearise] using this
end AI
end

section
namespace AI
open Go

section
variable {P : Program} {glob : Nat → Row} {S : SFn}

theorem drew_mv {G : Ghost} {w w' : World} {h : HF} {μ : Loc} (r : HRel P G w h μ) (e1 : w'.heap = w.heap) (e2 : w'.os = w.os) (e3 : w'.tape = w.tape) (e4 : w'.output = w.output) : Mv G w h μ G w' h μ ∧ HRel P G w' h μ := by
  have evo : Evo G w G w' := ⟨e2, e3, e4, by rw [e1]; exact Nat.le_refl _, fun b o ho => ⟨ho, by simp [World.cell?, e1]⟩⟩
  refine ⟨⟨evo, Comp.refl .., fun b _ _ => ⟨by rw [e1], rfl⟩, fun id x' b c hx hd hm => .inr ⟨id, x', c, hx, hd, hm⟩⟩, ⟨fun id blk hb => (r.own id blk hb).keep evo (Comp.refl ..) rfl (fun b c _ _ => ⟨by rw [e1], rfl⟩), r.inj, fun b hb => r.new b (by rw [e1] at hb; exact hb)⟩⟩

theorem ckOps_length {ops : Array Oper} : ∀ {l : List Oper} {gs : List GOp}, ckOps P ops l gs = true → gs.length = l.length
  | [], [], _ => rfl
  | o :: l, g :: gs, h => by simp only [ckOps, Bool.and_eq_true] at h; simp [ckOps_length h.2]
  | [], _ :: _, h => by simp [ckOps] at h
  | _ :: _, [], h => by simp [ckOps] at h

theorem draw_ok (hS : SoundFn P glob S) (hm : P.follows .mixedOrders = true) : DrawOk P glob S := by
  intro id0 ops gs before s s' hck e hk
  simp only [ckCode, Bool.and_eq_true, Bool.true_and] at hck
  obtain ⟨⟨hc, hb⟩, ha⟩ := hck
  have hlen : gs.length = ops.size := by rw [ckOps_length hc]; simp
  have key := fun t => order_ok hS e hk ha hc (l := Region.schedule true ops t) (by rw [hlen]; exact sched_order hb t)
  refine ⟨(key 0).1, fun G0 w0 h0 μ0 b G w μ a i d k cs hd => ?_⟩
  obtain ⟨q1, q2⟩ := drew_mv (w' := { w with drawn := w.drawn + 1 }) i.ctx.hr rfl rfl rfl rfl
  obtain ⟨a', w', G', μ', z1, z2, z3⟩ := (key (w.tape w.drawn (.order b.fn id0))).2 (i.ctx.mv q1 q2) b d k cs
  refine ⟨a', w', G', μ', _, d, .head s_draw ?_, rfl, ⟨(i.mv.trans q1).trans z2, z3⟩, hd.mv i.ctx.hr (q1.trans z2)⟩
  rw [hm]; exact z1
end
end AI
end

section
namespace AI
open Go

section
variable {P : Program} {b : Base} {t : Array Value} {d : List Deferred} {k : List Item} {cs : List Frame} {w : World} {l : Nat} {L : Loop}

/-- The world with this loop's state. -/
def setLoop (w : World) (l : Nat) (L : Loop) : World := { w with heap := w.heap.setIfInBounds l (.loop L) }

theorem s_begin (hro : b.ro = some l) (hl : w.heap[l]? = some (.loop L)) (hs : L.state = .ready) :
    step P (lone (b.fr t d (.beginRound :: k)) cs w) = .next (lone (b.fr t d k) cs (setLoop w l { L with state := .busy })) := by
  refine step_lone_go ?_
  have hb : (Instr.beginRound l).run P w = .ok () (setLoop w l { L with state := .busy }) := by
    simp [Instr.beginRound, Instr.getLoop, getObj, setObj, Sem.run, hl, hs, setLoop]
  simp [Go.stepG, Go.stepG.exec, Base.fr, hro, Go.stepG.apply, hb, Frame.finish]

/-- How a round's frame leaves. -/
def Leaves (todo : List Item) : Option Code → Prop
  | none => todo = []
  | some .ret => ∃ k, todo = .code .ret :: k
  | some (.exit id) => ∃ k, todo = .code (.exit id) :: k ∧ exitTo id k = none
  | _ => False

theorem s_leaveRound {c : Frame} {todo : List Item} {jump : Option Code} (hro : b.ro = some l) (hk : b.kind = .normal) (hl : w.heap[l]? = some (.loop L)) (hj : Leaves todo jump) :
    step P (lone (b.fr t d todo) (c :: cs) w) = .next (lone (c.finish (.bool jump.isNone)) cs (setLoop w l { L with state := if jump.isNone then .ready else .done, pending := jump })) := by
  refine step_lone_go ?_
  have he : (Instr.endRound l jump).run P w = .ok (.bool jump.isNone) (setLoop w l { L with state := if jump.isNone then .ready else .done, pending := jump }) := by
    simp [Instr.endRound, Instr.getLoop, getObj, setObj, Sem.run, hl, setLoop]
  cases jump with
  | none => obtain rfl : todo = [] := hj; simp [Go.stepG, Go.stepG.exec, Base.fr, hro, he, doReturn, hk]
  | some j =>
    cases j <;> simp only [Leaves] at hj <;> try exact hj.elim
    · obtain ⟨k, rfl, hx⟩ := hj; simp [Go.stepG, Go.stepG.exec, Base.fr, hro, hx, he, doReturn, hk]
    · obtain ⟨k, rfl⟩ := hj; simp [Go.stepG, Go.stepG.exec, Base.fr, hro, he, doReturn, hk]
end

section
variable {P : Program} {glob : Nat → Row} {S : SFn} {G : Ghost} {w : World} {μ : Loc}

/-- The loop's block and its object change together. -/
theorem set_loop {h : List Blk} (r : HRel P G w (lift h) μ) {id : Nat} {t : List LV} {ps : List Nat} {as bo : RCode} {p0 : Option Jump} (hb : h[id]? = some (.loop t ps as bo p0)) {b c : Nat} {L : Loop} (hm : μ id = some (b, c)) (hl : w.heap[b]? = some (.loop L))
    {st : LoopState} {pe : Option Code} {p : Option Jump} (h1 : p ≠ some .busy → pe = jumpCode p) (h2 : p ≠ some .busy → st = (if p.isNone then .ready else .done)) :
    Mv G w (lift h) μ G (setLoop w b { L with state := st, pending := pe }) (lift (h.set id (.loop t ps as bo p))) μ ∧ HRel P G (setLoop w b { L with state := st, pending := pe }) (lift (h.set id (.loop t ps as bo p))) μ := by
  have hn : id < h.length := (List.getElem?_eq_some_iff.1 hb).1
  obtain ⟨b9, c9, L9, o1, o2, o3, o4, o5, o6, o7, o8, o9⟩ := r.own _ _ hb
  rw [hm] at o1; cases o1
  rw [hl] at o2; cases o2
  have hsz := blk_lt hl
  have evo : Evo G w G (setLoop w b { L with state := st, pending := pe }) :=
    ⟨rfl, rfl, rfl, by simp [setLoop], fun b' o ho => ⟨ho, by
      by_cases hb : b = b'
      · subst hb
        simp only [setLoop, World.cell?, Array.getElem?_setIfInBounds, if_true, hsz, hl]
      · simp only [setLoop, World.cell?, Array.getElem?_setIfInBounds, if_neg hb]⟩⟩
  have hcomp : Comp (lift h) μ (fun i => if i = id then some (.loop t ps as bo p) else lift h i) (fun i => if i = id then μ id else μ i) :=
    comp_set hb _ _ (fun _ _ h => by cases h) (fun _ _ _ _ h => by cases h) (fun _ _ _ _ _ h => by cases h; exact ⟨⟨_, _, _, _, _, rfl⟩, rfl⟩)
  have key := r.one (G' := G) (w' := setLoop w b { L with state := st, pending := pe }) (n := id) (blk := .loop t ps as bo p) (m := μ id) evo hcomp
    (fun k hk hne => ⟨by
      have : b ≠ k := fun e => hne _ c hb (by simp) (by rw [hm, e])
      simp [setLoop, Array.getElem?_setIfInBounds, this], rfl⟩)
    (fun b' c' _ hm' => .inr ⟨_, c', hb, by simp, hm'⟩)
    ⟨b, c, { L with state := st, pending := pe }, by simp [hm], by simp [setLoop, hsz], o3, o4, o5, h1, h2, o8, fun j x v hx hv => (o9 j x v hx hv).evo evo hcomp⟩
    (fun b' hb' => r.new b' (by simpa [setLoop] using hb'))
  rw [ite_self_loc, ← lift_set hn] at key
  exact key

theorem set_all {h : HF} {T : List LV} {a : Array Value} (r : TR G w h μ T a) : ∀ {ps : List Nat} {vs : List LV} {us : List Value} {T : List LV} {a : Array Value}, TR G w h μ T a → LRel G w h μ vs us →
    TR G w h μ (setAll T ps vs) ((ps.zip us).foldl (fun tmps (x : Nat × Value) => tmps.setIfInBounds x.1 x.2) a)
  | [], _, _, T, a, r, _ => by simpa [setAll] using r
  | p :: ps, [], [], T, a, r, _ => by simpa [setAll] using r
  | p :: ps, v :: vs, u :: us, T, a, r, hl => by
    simp only [setAll, List.zip_cons_cons, List.foldl_cons]
    refine set_all (T := T) (a := a) r (ps := ps) ?_ ⟨by simpa using hl.1, fun j x c hx hc => hl.2 (j + 1) x c (by simpa using hx) (by simpa using hc)⟩
    have := put_tr (d := some p) r (hl.2 0 v u rfl rfl)
    simpa [put, putV] using this
  | _ :: _, [], _ :: _, _, _, _, hl => by have := hl.1; simp at this
  | _ :: _, _ :: _, [], _, _, _, hl => by have := hl.1; simp at this

theorem yield_run {l : Nat} {vs : Array Value} {L : Loop} (hl : w.heap[l]? = some (.loop L)) (hs : vs.size = L.params.size) :
    (Instr.yield l vs).run P w = .ok (.round l L.fn ((L.params.toList.zip vs.toList).foldl (fun tmps (x : Nat × Value) => tmps.setIfInBounds x.1 x.2) L.tmps) L.assign L.body) w := by
  simp [Instr.yield, Instr.getLoop, getObj, Sem.run, hl, hs]
  have hz : (L.params.zip vs).size = L.params.size := by simp [hs]
  rw [← hz, ← Array.foldl_toList, Array.toList_zip]

theorem round_ok (hS : SoundFn P glob S) (hD : DrawOk P glob S) (n : Nat) {id : Nat} {args : List LV} {h0 h' : List Blk} {v : LV}
    (e : runYld (prims glob) S (loopAt (prims glob) n) id args h0 = some (.ret v, h')) {vs : Array Value} (hr : HRel P G w (lift h0) μ) (hg : GlobRel G w glob) (ha : LRel G w (lift h0) μ args vs.toList) (hz : Zero h0) :
    ∃ b c, μ id = some (b, c) ∧ (∃ t ps a bo p, h0[id]? = some (.loop t ps a bo p)) ∧ Yields P b vs w (fun r w' => ∃ G' μ', Mv G w (lift h0) μ G' w' (lift h') μ' ∧ HRel P G' w' (lift h') μ' ∧ RV G' w' (lift h') μ' v r) := by
  unfold runYld at e
  split at e <;> try cases e
  rename_i t ps as bo hb
  by_cases hlen : ps.length = args.length
  case neg => rw [if_neg hlen] at e; cases e
  rw [if_pos hlen] at e
  split at e <;> try cases e
  rename_i s1 hx1
  split at e <;> try cases e
  rename_i t1 ps1 as1 bo1 hb1
  split at e <;> try cases e
  rename_i ex s hx2
  by_cases hchk : (prims glob).chk s.oks = true
  case neg => rw [if_neg hchk] at e; cases e
  rw [if_pos hchk] at e
  obtain ⟨b, c, L, o1, o2, o3, o4, o5, o6, o7, o8, o9⟩ := hr.own _ _ hb
  simp only [Bool.and_eq_true] at o4 o5
  have hsz : vs.size = L.params.size := by
    have := ha.1; rw [← o3] at hlen; simp at this hlen; omega
  rcases exec_ok hS hD hz n L.body bo _ s ex o5.1 hx2 (chk_all hchk) with ⟨x, hx⟩ | ⟨k1, q2⟩
  · subst hx; cases e
  rcases exec_ok hS hD hz n L.assign as _ s1 .normal o4.1 hx1 k1 with ⟨x, hx⟩ | ⟨-, q1⟩
  · cases hx
  refine ⟨b, c, o1, ⟨t, ps, as, bo, none, hb⟩, L.fn, _, L.assign, L.body, yield_run o2 hsz, fun cf cs => ?_⟩
  have tr0 : TR G w (lift h0) μ t L.tmps := ⟨o8.symm, o9⟩
  have tr : TR G w (lift h0) μ (setAll t ps args) ((L.params.toList.zip vs.toList).foldl (fun tmps (x : Nat × Value) => tmps.setIfInBounds x.1 x.2) L.tmps) := by
    rw [o3]; exact set_all tr0 tr0 ha
  obtain ⟨a1, w1, G1, μ1, m1, d1, z1, z2, z3, zd⟩ := q1 G w μ ⟨L.fn, .normal, some b⟩ (.inl o4.2) G w μ _ ⟨Mv.refl .., tr, hg, hr⟩ [] [.beginRound, .code L.body] (cf :: cs) ⟨[], List.nodup_nil, rfl, fun r h => by simp at h⟩
  obtain rfl : m1 = _ := z2
  have hμ1 : μ1 id = some (b, c) := (z3.mv.comp.loop id _ _ _ _ _ _ hb hb1).2.trans o1
  obtain ⟨b9, c9, L1, p1, p2, p3, p4, p5, p6, p7, p8, p9⟩ := z3.ctx.hr.own _ _ hb1
  rw [hμ1] at p1; cases p1
  obtain ⟨n1, n2⟩ := set_loop (st := .busy) (pe := L1.pending) (p := some .busy) z3.ctx.hr hb1 hμ1 p2 (fun h => absurd rfl h) (fun h => absurd rfl h)
  obtain ⟨a2, w2, G2, μ2, m2, d2, y1, y2, y3, yd⟩ := q2 G w μ ⟨L.fn, .normal, some b⟩ (.inl o5.2) G1 _ μ1 a1
    ⟨z3.mv.trans n1, ⟨z3.ctx.tr.size, fun j x y hx hy => (z3.ctx.tr.rel j x y hx hy).evo n1.evo n1.comp⟩, z3.ctx.gr.evo n1.evo, n2⟩ d1 [] (cf :: cs) (zd.mv z3.ctx.hr n1)
  have hbegin := s_begin (P := P) (b := ⟨L.fn, .normal, some b⟩) (t := a1) (d := d1) (k := [.code L.body]) (cs := cf :: cs) rfl p2 (p7 (by simp))
  have start := Steps.trans z1 (.head hbegin y1)
  -- behind it
  have fin : ∀ (p : Option Jump) (jump : Option Code) (todo : List Item) (hp : List Blk), p ≠ some .busy → jump = jumpCode p → Leaves todo jump → m2 = lone ((⟨L.fn, .normal, some b⟩ : Base).fr a2 d2 todo) (cf :: cs) w2 →
      putBack h0.length id s.heap p = some hp → ∃ w', (∃ G' μ', Mv G w (lift h0) μ G' w' (lift hp) μ' ∧ HRel P G' w' (lift hp) μ') ∧ Steps P (lone (Frame.round b L.fn ((L.params.toList.zip vs.toList).foldl (fun tmps (x : Nat × Value) => tmps.setIfInBounds x.1 x.2) L.tmps) L.assign L.body .normal) (cf :: cs) w) (lone (cf.finish (.bool jump.isNone)) cs w') := by
    intro p jump todo hp hpb hj hlv hm hput
    unfold putBack at hput
    split at hput <;> cases hput
    rename_i t2 ps2 as2 bo2 hb2
    have hμ2 : μ2 id = some (b, c) := (y3.mv.comp.loop id _ _ _ _ _ _ hb hb2).2.trans o1
    obtain ⟨b9, c9, L2, r1, r2, -⟩ := y3.ctx.hr.own _ _ hb2
    rw [hμ2] at r1; cases r1
    obtain ⟨s1, s2⟩ := set_loop (st := if jump.isNone then .ready else .done) (pe := jump) (p := p) y3.ctx.hr hb2 hμ2 r2 (fun _ => hj) (fun _ => by
      subst hj
      cases p with
      | none => rfl
      | some j => cases j <;> first | rfl | exact absurd rfl hpb)
    obtain ⟨μ3, u1, u2, -, -⟩ := tidy_ok (grow := []) (vs := []) hz (y3.mv.trans s1) s2
    refine ⟨_, ⟨G2, μ3, u1, u2⟩, Steps.trans start (.one ?_)⟩
    rw [hm]
    exact s_leaveRound rfl rfl r2 hlv
  cases ex with
  | pnc x => cases e
  | normal =>
    obtain rfl : m2 = _ := y2
    simp only at e
    split at e <;> cases e
    rename_i hp hput
    obtain ⟨w', ⟨G', μ', f1, f2⟩, f3⟩ := fin none none [] _ (by simp) rfl rfl rfl hput
    exact ⟨.bool true, w', ⟨G', μ', f1, f2, .pv _ _ (.bool true)⟩, f3⟩
  | exit i =>
    obtain ⟨k', e1, rfl⟩ := y2
    simp only at e
    split at e <;> cases e
    rename_i hp hput
    obtain ⟨w', ⟨G', μ', f1, f2⟩, f3⟩ := fin (some (.exit i)) (some (.exit i)) _ _ (by simp) rfl ⟨k', rfl, e1⟩ rfl hput
    exact ⟨.bool false, w', ⟨G', μ', f1, f2, .pv _ _ (.bool false)⟩, f3⟩
  | ret =>
    obtain ⟨k', rfl⟩ := y2
    simp only at e
    split at e <;> cases e
    rename_i hp hput
    obtain ⟨w', ⟨G', μ', f1, f2⟩, f3⟩ := fin (some .ret) (some .ret) _ _ (by simp) rfl ⟨k', rfl⟩ rfl hput
    exact ⟨.bool false, w', ⟨G', μ', f1, f2, .pv _ _ (.bool false)⟩, f3⟩
end
end AI
end

section
namespace AI
open Go

section
variable {P : Program} {glob : Nat → Row}

abbrev Over := SFn → List LV → List Blk → Option (Out × List Blk)

/-- What one function promises. -/
def FnOk (P : Program) (glob : Nat → Row) (f : Nat) (F : List LV → List Blk → Option (Out × List Blk)) : Prop :=
  ∀ args h0 v h', F args h0 = some (.ret v, h') → ∀ G w μ vs, HRel P G w (lift h0) μ → GlobRel G w glob → LRel G w (lift h0) μ args vs.toList → Zero h0 →
    Acts P f vs w (fun r w' => ∃ G' μ', Mv G w (lift h0) μ G' w' (lift h') μ' ∧ HRel P G' w' (lift h') μ' ∧ RV G' w' (lift h') μ' v r)

theorem run_ok (hm : P.follows .mixedOrders = true) {tab : Nat → Option RFn} {ov : Nat → Option Over} (htab : ∀ f fn, tab f = some fn → plainFn P f = true ∧ ckFn P f fn = true)
    (hov : ∀ f F, ov f = some F → ∀ S, SoundFn P glob S → FnOk P glob f (F S)) : ∀ k, SoundFn P glob (run (prims glob) tab ov k)
  | 0 => ⟨fun f args h0 v h' e => by simp [run] at e, fun id args h0 v h' e => by simp [run] at e⟩
  | k + 1 => by
    have ih := run_ok hm htab hov k
    have hD := draw_ok ih hm
    refine ⟨fun f args h0 v h' e G w μ vs hr hg ha hz => ?_, fun id args h0 v h' e G w μ vs hr hg ha hz => ?_⟩
    · simp only [run] at e
      split at e
      · rename_i F hF
        exact hov f F hF _ ih args h0 v h' e G w μ vs hr hg ha hz
      · split at e <;> try cases e
        rename_i fn hf
        exact fn_ok ih hD k (htab f fn hf).1 (htab f fn hf).2 e hr hg ha hz
    · simp only [run] at e
      exact round_ok ih hD k e hr hg ha hz
end
end AI
end
