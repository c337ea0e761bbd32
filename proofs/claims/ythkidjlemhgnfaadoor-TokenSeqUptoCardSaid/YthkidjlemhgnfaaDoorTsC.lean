/-
  STEPS THAT CHANGE THE HEAP: what they keep, how one block's change is shown, how lists are sealed.
  THE OPERATIONS, 7: new blocks, stores.
  THE OPERATIONS, 8: lists that are made from texts and that grow.
  THE OPERATIONS, 9: append.
  THE OPERATIONS, 10: those that seal.
-/
import Derived.Test.YthkidjlemhgnfaaDoorTsB
import Derived.Laws.CopyRow
import Derived.Laws.MakeOwn
set_option linter.unusedVariables false
set_option linter.unusedSimpArgs false
set_option linter.unusedSectionVars false
section
namespace AI
open Go

abbrev lift (l : List Blk) : HF := fun id => l[id]?

/-- What no step parts with. -/
structure Mv (G : Ghost) (w : World) (h : HF) (μ : Loc) (G' : Ghost) (w' : World) (h' : HF) (μ' : Loc) : Prop where
  evo : Evo G w G' w'
  comp : Comp h μ h' μ'
  frame : ∀ b, b < w.heap.size → (∀ id x c, h id = some x → x ≠ .dead → μ id ≠ some (b, c)) → w'.heap[b]? = w.heap[b]? ∧ G' b = G b
  loc : ∀ id x' b c, h' id = some x' → x' ≠ .dead → μ' id = some (b, c) → w.heap.size ≤ b ∨ ∃ i x c', h i = some x ∧ x ≠ .dead ∧ μ i = some (b, c')

theorem Mv.refl (G : Ghost) (w : World) (h : HF) (μ : Loc) : Mv G w h μ G w h μ where
  evo := Evo.refl G w
  comp := Comp.refl h μ
  frame _ _ _ := ⟨rfl, rfl⟩
  loc id x' b c hx hd hm := .inr ⟨id, x', c, hx, hd, hm⟩

theorem Mv.trans {G G1 G2 : Ghost} {w w1 w2 : World} {h h1 h2 : HF} {μ μ1 μ2 : Loc} (a : Mv G w h μ G1 w1 h1 μ1) (b : Mv G1 w1 h1 μ1 G2 w2 h2 μ2) : Mv G w h μ G2 w2 h2 μ2 where
  evo := a.evo.trans b.evo
  comp := a.comp.trans b.comp
  frame k hk hn := by
    obtain ⟨e1, e2⟩ := a.frame k hk hn
    obtain ⟨f1, f2⟩ := b.frame k (Nat.lt_of_lt_of_le hk a.evo.size) (fun id x c hx hd hm => by
      rcases a.loc id x k c hx hd hm with hl | ⟨i, y, c', hy, hyd, hm'⟩
      · omega
      · exact hn i y c' hy hyd hm')
    exact ⟨f1.trans e1, f2.trans e2⟩
  loc id x' k c hx hd hm := by
    rcases b.loc id x' k c hx hd hm with hl | ⟨i, y, c', hy, hyd, hm'⟩
    · exact .inl (Nat.le_trans a.evo.size hl)
    · exact a.loc i y k c' hy hyd hm'

/-- One block is changed, made or done with. -/
theorem HRel.one {P : Program} {G G' : Ghost} {w w' : World} {h : HF} {μ : Loc} (r : HRel P G w h μ) {n : Nat} {blk : Blk} {m : Option (Nat × Nat)}
    (evo : Evo G w G' w') (comp : Comp h μ (fun i => if i = n then some blk else h i) (fun i => if i = n then m else μ i))
    (fr : ∀ k, k < w.heap.size → (∀ x c, h n = some x → x ≠ .dead → μ n ≠ some (k, c)) → w'.heap[k]? = w.heap[k]? ∧ G' k = G k)
    (mloc : ∀ b c, blk ≠ .dead → m = some (b, c) → w.heap.size ≤ b ∨ ∃ x c', h n = some x ∧ x ≠ .dead ∧ μ n = some (b, c'))
    (own : Own P G' w' (fun i => if i = n then some blk else h i) (fun i => if i = n then m else μ i) n blk)
    (new : ∀ b, w'.heap.size ≤ b → G' b = 0) :
    Mv G w h μ G' w' (fun i => if i = n then some blk else h i) (fun i => if i = n then m else μ i) ∧ HRel P G' w' (fun i => if i = n then some blk else h i) (fun i => if i = n then m else μ i) := by
  refine ⟨⟨evo, comp, fun k hk hn => fr k hk (fun x c hx => hn n x c hx), fun id x' b c hx hd hm => ?_⟩, ⟨fun id bb hb => ?_, fun i j x y b c c' hi hj hx hy hm hm' => ?_, new⟩⟩
  · by_cases hi : id = n
    · subst hi
      simp only [if_true] at hx hm
      cases hx
      rcases mloc b c hd hm with h1 | ⟨x, c', h1, h2, h3⟩
      · exact .inl h1
      · exact .inr ⟨_, x, c', h1, h2, h3⟩
    · simp only [hi, if_false] at hx hm
      exact .inr ⟨id, x', c, hx, hd, hm⟩
  · by_cases hi : id = n
    · subst hi
      simp only [if_true] at hb
      cases hb
      exact own
    · simp only [hi, if_false] at hb
      refine (r.own id bb hb).keep evo comp (by simp [hi]) (fun b c hm hd => fr b ((r.own id bb hb).lt hd hm) (fun x c' hx hxd hm' => ?_))
      exact hi (r.inj id n bb x b c c' hb hx hd hxd hm hm')
  · have old : ∀ k x b c, k ≠ n → h k = some x → x ≠ .dead → μ k = some (b, c) → b < w.heap.size := fun k x b c _ hk hd hm => (r.own k x hk).lt hd hm
    by_cases hin : i = n
    · by_cases hjn : j = n
      · rw [hin, hjn]
      · simp only [hjn, if_false] at hj hm'
        subst hin
        simp only [if_true] at hi hm
        cases hi
        rcases mloc b c hx hm with h1 | ⟨x0, c0, h1, h2, h3⟩
        · have := old j y b c' hjn hj hy hm'; omega
        · exact r.inj i j x0 y b c0 c' h1 hj h2 hy h3 hm'
    · simp only [hin, if_false] at hi hm
      by_cases hjn : j = n
      · subst hjn
        simp only [if_true] at hj hm'
        cases hj
        rcases mloc b c' hy hm' with h1 | ⟨x0, c0, h1, h2, h3⟩
        · have := old i x b c hin hi hx hm; omega
        · exact r.inj i j x x0 b c c0 hi h1 hx h2 hm h3
      · simp only [hjn, if_false] at hj hm'
        exact r.inj i j x y b c c' hi hj hx hy hm hm'

/-- A new block leaves all others. -/
theorem comp_new {h : HF} {μ : Loc} {n : Nat} (hn : h n = none) (blk : Blk) (m : Option (Nat × Nat)) : Comp h μ (fun i => if i = n then some blk else h i) (fun i => if i = n then m else μ i) where
  dom id b hb := by
    by_cases hi : id = n
    · exact ⟨blk, by simp [hi]⟩
    · exact ⟨b, by simp [hi, hb]⟩
  data id b cells ty hb hc := by
    by_cases hi : id = n
    · subst hi; rw [hn] at hb; cases hb
    · simp only [hi, if_false] at hc ⊢
      exact ⟨⟨cells, Option.some.inj (hb.symm.trans hc)⟩, trivial⟩
  arr id b sz v f rows hb hc := by
    by_cases hi : id = n
    · subst hi; rw [hn] at hb; cases hb
    · simp only [hi, if_false] at hc ⊢
      exact ⟨sz, v, f, rows, Option.some.inj (hb.symm.trans hc), .inr ⟨rfl, rfl, rfl, trivial⟩⟩
  loop id b t ps a bo p hb hc := by
    by_cases hi : id = n
    · subst hi; rw [hn] at hb; cases hb
    · simp only [hi, if_false] at hc ⊢
      exact ⟨⟨t, ps, a, bo, p, Option.some.inj (hb.symm.trans hc)⟩, trivial⟩

/-- A block is changed: it must stay what it is, or be done with. -/
theorem comp_set {h : HF} {μ : Loc} {n : Nat} {b0 : Blk} (hn : h n = some b0) (blk : Blk) (m : Option (Nat × Nat))
    (h1 : ∀ cells ty, blk = .data cells ty → (∃ cells', b0 = .data cells' ty) ∧ m = μ n)
    (h2 : ∀ sz v f rows, blk = .arr sz v f rows → ∃ sz0 v0 f0 rows0, b0 = .arr sz0 v0 f0 rows0 ∧ (v0 < v ∨ (v0 = v ∧ rows0.length = rows.length ∧ sz0 = sz ∧ m = μ n)))
    (h3 : ∀ t ps a bo p, blk = .loop t ps a bo p → (∃ t' ps' a' bo' p', b0 = .loop t' ps' a' bo' p') ∧ m = μ n) :
    Comp h μ (fun i => if i = n then some blk else h i) (fun i => if i = n then m else μ i) where
  dom id b hb := by
    by_cases hi : id = n
    · exact ⟨blk, by simp [hi]⟩
    · exact ⟨b, by simp [hi, hb]⟩
  data id b cells ty hb hc := by
    by_cases hi : id = n
    · subst hi; simp only [if_true] at hc ⊢; rw [hn] at hb; cases hb; cases hc; exact h1 _ _ rfl
    · simp only [hi, if_false] at hc ⊢
      exact ⟨⟨cells, Option.some.inj (hb.symm.trans hc)⟩, trivial⟩
  arr id b sz v f rows hb hc := by
    by_cases hi : id = n
    · subst hi; simp only [if_true] at hc ⊢; rw [hn] at hb; cases hb; cases hc; exact h2 _ _ _ _ rfl
    · simp only [hi, if_false] at hc ⊢
      exact ⟨sz, v, f, rows, Option.some.inj (hb.symm.trans hc), .inr ⟨rfl, rfl, rfl, trivial⟩⟩
  loop id b t ps a bo p hb hc := by
    by_cases hi : id = n
    · subst hi; simp only [if_true] at hc ⊢; rw [hn] at hb; cases hb; cases hc; exact h3 _ _ _ _ _ rfl
    · simp only [hi, if_false] at hc ⊢
      exact ⟨⟨t, ps, a, bo, p, Option.some.inj (hb.symm.trans hc)⟩, trivial⟩

theorem ite_self_loc (μ : Loc) (n : Nat) : (fun i => if i = n then μ n else μ i) = μ := by funext i; split <;> simp_all

theorem lift_set {l : List Blk} {n : Nat} (hn : n < l.length) (blk : Blk) : lift (l.set n blk) = fun i => if i = n then some blk else lift l i := by
  funext i
  simp only [lift, List.getElem?_set]
  by_cases hi : i = n
  · subst hi; simp [hn]
  · simp [hi, Ne.symm hi]

theorem lift_append (l : List Blk) (blk : Blk) : lift (l ++ [blk]) = fun i => if i = l.length then some blk else lift l i := by
  funext i
  simp only [lift]
  by_cases hi : i = l.length
  · subst hi; simp
  · simp only [hi, if_false]
    by_cases hl : i < l.length
    · rw [List.getElem?_append_left hl]
    · rw [List.getElem?_eq_none (by simp; omega), List.getElem?_eq_none (by omega)]

/-- More of a block is sealed. -/
def sealed (G : Ghost) (b n : Nat) : Ghost := fun k => if k = b then max (G b) n else G k

theorem sealed_evo (G : Ghost) (w : World) (b n : Nat) : Evo G w (sealed G b n) w where
  os := rfl
  tape := rfl
  output := rfl
  size := Nat.le_refl _
  keep k o ho := ⟨by unfold sealed; split <;> (try subst k) <;> omega, rfl⟩

section
variable {P : Program} {glob : Nat → Row} {G : Ghost} {w : World} {μ : Loc}

/-- What a list of today seals. -/
theorem seal_ref {hl : List Blk} {id ver sz : Nat} {f : Bool × Nat} {rows : Rows} {v : Value} (r : HRel P G w (lift hl) μ) (hb : hl[id]? = some (.arr sz ver f rows)) (hx : RV G w (lift hl) μ (.ref id ver) v) :
    ∃ G', Mv G w (lift hl) μ G' w (lift (hl.set id (.arr sz ver (true, f.2) rows))) μ ∧ HRel P G' w (lift (hl.set id (.arr sz ver (true, f.2) rows))) μ ∧ RP G' w (.list rows) v ∧
      (∀ (i : Nat) (row : Row), rows[i]? = some row → row.length = sz) ∧ (0 < sz ∨ rows = []) ∧ (μ id = none → rows = []) ∧ ∀ b c, μ id = some (b, c) → v = .slice (some ⟨b, 0, none⟩) rows.length c ∧ rows.length * sz ≤ G' b := by
  have hlt : id < hl.length := (List.getElem?_eq_some_iff.1 hb).1
  obtain ⟨ad, n, c, ex, hd, hv⟩ := hx.ref_inv
  have hsl := (hv _ _ _ _ hb).2 rfl
  have hcomp : Comp (lift hl) μ (fun i => if i = id then some (.arr sz ver (true, f.2) rows) else lift hl i) (fun i => if i = id then μ id else μ i) :=
    comp_set hb _ _ (fun _ _ h => by cases h) (fun sz' v' f' rows' h => by cases h; exact ⟨_, _, _, _, rfl, .inr ⟨rfl, rfl, rfl, rfl⟩⟩) (fun _ _ _ _ _ h => by cases h)
  rw [lift_set hlt]
  rcases r.own id _ hb with ⟨m1, rfl⟩ | ⟨b1, c1, vs, tt, fr, m1, m2, m3, m4, m5, m7, m8, m9, m10, m11⟩
  · rw [m1, slv] at hsl
    have key := r.one (G' := G) (w' := w) (n := id) (blk := .arr sz ver (true, f.2) []) (m := μ id) (Evo.refl G w) hcomp (fun _ _ _ => ⟨rfl, rfl⟩) (fun b c _ hm => by rw [m1] at hm; cases hm) (.inl ⟨by simp [m1], rfl⟩) r.new
    rw [ite_self_loc] at key
    refine ⟨G, key.1, key.2, ?_, by simp, .inr rfl, fun _ => rfl, fun b c h => by rw [m1] at h; cases h⟩
    rw [ex, hsl]; exact .list0 none 0 (by simp)
  · rw [m1, slv] at hsl
    have e := sealed_evo G w b1 (rows.length * sz)
    have hGb : sealed G b1 (rows.length * sz) b1 = rows.length * sz := by unfold sealed; simp; omega
    have key := r.one (G' := sealed G b1 (rows.length * sz)) (w' := w) (n := id) (blk := .arr sz ver (true, f.2) rows) (m := μ id) e hcomp
      (fun k hk hn => ⟨rfl, by
        have : k ≠ b1 := fun hkb => hn _ c1 hb (by simp) (hkb ▸ m1)
        unfold sealed; simp [this]⟩)
      (fun b c _ hm => .inr ⟨_, c, hb, by simp, hm⟩)
      (.inr ⟨b1, c1, vs, tt, fr, by simp [m1], m2, m3, m4, m5, m7, m8, fun i row j p h1 h2 => let ⟨v, hv, hp⟩ := m9 i row j p h1 h2; ⟨v, hv, hp.evo e⟩, by rw [hGb]; exact Nat.le_refl _, ⟨fun h => (by cases h), m11.2⟩⟩)
      (fun b hb => by
        have : b ≠ b1 := by have := blk_lt m2; omega
        unfold sealed; simp [this]; exact r.new b hb)
    rw [ite_self_loc] at key
    refine ⟨_, key.1, key.2, ?_, m8, .inl m4, fun h => (by rw [m1] at h; cases h), fun b c h => (by rw [m1] at h; cases h; exact ⟨ex.trans hsl, by rw [hGb]; exact Nat.le_refl _⟩)⟩
    rw [ex, hsl]
    refine .list rows b1 0 c1 sz (fun i j => vs.getD (i * sz + j) undef) m7 m8 (fun i row j p h1 h2 => ?_) (fun i row j p h1 h2 => ?_)
    · obtain ⟨u, hu, -⟩ := m9 i row j p h1 h2
      rw [blk_cell m2, Nat.zero_add, hGb, hu]
      refine ⟨by simp [Array.getD_eq_getD_getElem?, hu], ?_⟩
      have hi : i < rows.length := (List.getElem?_eq_some_iff.1 h1).1
      have hj : j < row.length := (List.getElem?_eq_some_iff.1 h2).1
      rw [m8 i row h1] at hj
      have : (i + 1) * sz ≤ rows.length * sz := Nat.mul_le_mul_right _ hi
      rw [Nat.add_mul] at this
      omega
    · obtain ⟨u, hu, hp⟩ := m9 i row j p h1 h2
      have := hp.evo e
      simpa [Array.getD_eq_getD_getElem?, hu] using this

/-- A struct behind a pointer is given up. -/
theorem seal_ptr {hl : List Blk} {id : Nat} {cells : List LV} (r : HRel P G w (lift hl) μ) {ty0 : Nat} (hb : hl[id]? = some (.data cells ty0)) :
    ∃ b c vs ty, μ id = some (b, c) ∧ w.heap[b]? = some (.cells vs ty (0, 0)) ∧ vs.size = cells.length ∧
      (∀ (j : Nat) (x : LV) (v : Value), cells[j]? = some x → vs[j]? = some v → RV G w (lift hl) μ x v) ∧
      Mv G w (lift hl) μ (sealed G b cells.length) w (lift (hl.set id .dead)) μ ∧ HRel P (sealed G b cells.length) w (lift (hl.set id .dead)) μ := by
  have hlt : id < hl.length := (List.getElem?_eq_some_iff.1 hb).1
  obtain ⟨b1, c1, vs, tt, m1, m2, m3, m4, m5⟩ := r.own id _ hb
  have hcomp : Comp (lift hl) μ (fun i => if i = id then some .dead else lift hl i) (fun i => if i = id then μ id else μ i) :=
    comp_set hb _ _ (fun _ _ h => by cases h) (fun _ _ _ _ h => by cases h) (fun _ _ _ _ _ h => by cases h)
  have e := sealed_evo G w b1 cells.length
  have key := r.one (G' := sealed G b1 cells.length) (w' := w) (n := id) (blk := .dead) (m := μ id) e hcomp
    (fun k hk hn => ⟨rfl, by
      have : k ≠ b1 := fun hkb => hn _ c1 hb (by simp) (hkb ▸ m1)
      unfold sealed; simp [this]⟩)
    (fun b c hd => absurd rfl hd) trivial
    (fun b hb => by
      have : b ≠ b1 := by have := blk_lt m2; omega
      unfold sealed; simp [this]; exact r.new b hb)
  rw [ite_self_loc, ← lift_set hlt] at key
  exact ⟨b1, c1, vs, tt, m1, m2, m3, fun j x v h1 h2 => (m5 j x v h1 h2).1, key.1, key.2⟩

mutual
theorem freeze_rv : ∀ (k : Nat) {hl hl' : List Blk} {G : Ghost} {x : LV} {v : Value} {p : PV}, HRel P G w (lift hl) μ → RV G w (lift hl) μ x v → freeze k hl x = some (p, hl') →
    ∃ G', Mv G w (lift hl) μ G' w (lift hl') μ ∧ HRel P G' w (lift hl') μ ∧ RP G' w p v ∧ hl'.length = hl.length
  | 0, _, _, _, _, _, _, _, _, e => by simp [freeze] at e
  | k + 1, hl, hl', G, x, v, p, r, hx, e => by
    have stay : ∀ {p : PV}, RP G w p v → ∃ G', Mv G w (lift hl) μ G' w (lift hl) μ ∧ HRel P G' w (lift hl) μ ∧ RP G' w p v ∧ hl.length = hl.length := fun h => ⟨G, Mv.refl .., r, h, rfl⟩
    simp only [freeze] at e
    split at e
    · cases e; exact stay hx.pv_inv
    · cases e; rw [hx.nils_inv]; rw [hx.nils_inv] at stay; exact stay (.list0 none 0 (by simp))
    · cases e; obtain ⟨_, _, hp⟩ := hx.full_inv; exact stay hp
    · split at e <;> cases e
      rename_i row off h0
      subst h0
      obtain ⟨b, base, vs, ex, m1, m2⟩ := hx.fp_inv
      refine stay ?_
      rw [ex]
      exact .ptr row b base vs m1 m2
    · rename_i id ver
      split at e <;> try cases e
      rename_i sz v' f rows hb
      split at e <;> cases e
      rename_i hv; subst hv
      obtain ⟨G', h1, h2, h3, -, -⟩ := seal_ref r hb hx
      exact ⟨G', h1, h2, h3, by simp⟩
    · rename_i id off
      split at e <;> try cases e
      rename_i cells _ hb
      split at e <;> try cases e
      rename_i h0; subst h0
      split at e <;> cases e
      rename_i row he
      obtain ⟨b, c, vs, ty, m1, m2, m3, m4, m5, m6⟩ := seal_ptr r hb
      obtain ⟨b', ex, hd, hv⟩ := hx.ptr_inv
      obtain ⟨c', m7⟩ := hv cells _ hb
      obtain rfl : b = b' := by rw [m1] at m7; cases m7; rfl
      have hvs : vs.toList.length = cells.length := by simpa using m3
      obtain ⟨G', f1, f2, f3, f4, f5⟩ := freezeAll_rv k (vs := vs.toList) m6 (by simpa using m3.symm) (fun j y u hy hu => (m4 j y u hy (by simpa using hu)).evo m5.evo m5.comp) he
      refine ⟨G', m5.trans f1, f2, ?_, by rw [f4]; simp⟩
      rw [ex]
      have hG : cells.length ≤ G' b := by
        rcases Nat.eq_zero_or_pos cells.length with h0 | h0
        · omega
        · have h1 : cells.length - 1 < sealed G b cells.length b := by unfold sealed; simp; omega
          have := (f1.evo.keep b (cells.length - 1) h1).1
          omega
      refine .ptr row b 0 (fun j => vs.getD j undef) (fun j p hp => ?_) (fun j p hp => ?_)
      · have hj : j < row.length := (List.getElem?_eq_some_iff.1 hp).1
        have hj' : j < vs.size := by have := f5.1; simp at this; omega
        rw [Nat.zero_add, blk_cell m2]
        exact ⟨by simp [hj'], by omega⟩
      · have hj : j < row.length := (List.getElem?_eq_some_iff.1 hp).1
        have hj' : j < vs.size := by have := f5.1; simp at this; omega
        have := f5.2 j p vs[j] hp (by simp [hj'])
        simpa [hj'] using this
    · split at e <;> cases e
      rename_i t y q hl' he
      cases hx with
      | ifc _ _ u hu =>
        obtain ⟨G', f1, f2, f3, f4⟩ := freeze_rv k r hu he
        exact ⟨G', f1, f2, .iface _ _ _ f3, f4⟩
    · cases e
theorem freezeAll_rv : ∀ (k : Nat) {hl hl' : List Blk} {G : Ghost} {xs : List LV} {vs : List Value} {row : Row}, HRel P G w (lift hl) μ → xs.length = vs.length →
    (∀ (j : Nat) (x : LV) (v : Value), xs[j]? = some x → vs[j]? = some v → RV G w (lift hl) μ x v) → freezeAll k hl xs = some (row, hl') →
    ∃ G', Mv G w (lift hl) μ G' w (lift hl') μ ∧ HRel P G' w (lift hl') μ ∧ hl'.length = hl.length ∧ hl'.length = hl.length ∧ (row.length = vs.length ∧ ∀ (j : Nat) (p : PV) (v : Value), row[j]? = some p → vs[j]? = some v → RP G' w p v)
  | k, hl, hl', G, [], vs, row, r, hlen, hx, e => by
    have : row = [] ∧ hl' = hl := by cases k <;> simp [freezeAll] at e <;> first | exact ⟨e.1.symm, e.2.symm⟩ | exact ⟨e.1, e.2.symm⟩ | exact ⟨e.1.symm, e.2⟩ | exact e
    obtain ⟨rfl, rfl⟩ := this
    exact ⟨G, Mv.refl .., r, rfl, rfl, by simpa using hlen, fun j p v h => by simp at h⟩
  | 0, _, _, _, _ :: _, _, _, _, _, _, e => by simp [freezeAll] at e
  | k + 1, hl, hl', G, x :: xs, [], row, r, hlen, hx, e => by simp at hlen
  | k + 1, hl, hl', G, x :: xs, v :: vs, row, r, hlen, hx, e => by
    simp only [freezeAll] at e
    split at e <;> try cases e
    rename_i p h1 he1
    split at e <;> cases e
    rename_i row' hl' he2
    obtain ⟨G1, f1, f2, f3, f4⟩ := freeze_rv k r (hx 0 x v rfl rfl) he1
    obtain ⟨G2, g1, g2, g3, -, g4, g5⟩ := freezeAll_rv k (vs := vs) f2 (by simpa using hlen) (fun j y u hy hu => (hx (j + 1) y u (by simpa using hy) (by simpa using hu)).evo f1.evo f1.comp) he2
    refine ⟨G2, f1.trans g1, g2, g3.trans f4, g3.trans f4, by simp [g4], fun j q u hq hu => ?_⟩
    cases j with
    | zero => simp at hq hu; subst hq; subst hu; exact f3.evo g1.evo
    | succ j => simp at hq hu; exact g5 j q u hq hu
end
end
end AI
end

section
namespace AI
open Go

def ins (h : HF) (n : Nat) (b : Blk) : HF := fun i => if i = n then some b else h i

/-- What an operation does to the world. -/
def Turn (P : Program) (G : Ghost) (w : World) (h : HF) (μ : Loc) (a : Array Value) (o : Oper) (h' : HF) (x : LV) : Prop :=
  ∃ nx v w' G' μ', (execOp (ev a) o).run P w = .ok nx w' ∧ (nx = .value v ∨ (nx = .skip ∧ v = undef)) ∧ Mv G w h μ G' w' h' μ' ∧ HRel P G' w' h' μ' ∧ RV G' w' h' μ' x v

/-- One block is new, or one that is named is changed. -/
def Chg (hl hl' : List Blk) (W : List Nat) (n : Nat) (b : Blk) : Prop := (n = hl.length ∧ hl' = hl ++ [b]) ∨ (n < hl.length ∧ n ∈ W ∧ hl' = hl.set n b)

theorem oneCell_of_one {v : Value} (h : one v = true) : v.oneCell' = true := by cases v <;> first | rfl | (simp [one] at h)

section
variable {P : Program} {glob : Nat → Row} {G : Ghost} {w : World} {h : HF} {μ : Loc}

theorem Val.turn {a : Array Value} {o : Oper} {x : LV} (hh : HRel P G w h μ) (v : Val P G w h μ a o x) : Turn P G w h μ a o h x := by
  obtain ⟨v, h1, h2⟩ := v
  exact ⟨_, v, w, G, μ, h1, .inl rfl, Mv.refl .., hh, h2⟩

/-- A world with one more block. -/
structure Grown (w w' : World) (ob : Obj) : Prop where
  heap : w'.heap = w.heap.push ob
  os : w'.os = w.os
  tape : w'.tape = w.tape
  output : w'.output = w.output

theorem Grown.evo {w w' : World} {ob : Obj} (g : Grown w w' ob) (r : ∀ b, w.heap.size ≤ b → G b = 0) : Evo G w G w' where
  os := g.os
  tape := g.tape
  output := g.output
  size := by rw [g.heap]; simp
  keep b o ho := ⟨ho, by
    have hb : b < w.heap.size := by
      rcases Nat.lt_or_ge b w.heap.size with h | h
      · exact h
      · rw [r b h] at ho; omega
    simp [World.cell?, g.heap, Array.getElem?_push, Nat.ne_of_lt hb]⟩

theorem Grown.at {w w' : World} {ob : Obj} (g : Grown w w' ob) : w'.heap[w.heap.size]? = some ob := by rw [g.heap]; simp
theorem Grown.old {w w' : World} {ob : Obj} (g : Grown w w' ob) {k : Nat} (hk : k < w.heap.size) : w'.heap[k]? = w.heap[k]? := by rw [g.heap, Array.getElem?_push]; simp [Nat.ne_of_lt hk]

/-- A new block of the abstract heap, with or without one of the world. -/
theorem HRel.grow {w' : World} {ob : Obj} (r : HRel P G w h μ) (g : Grown w w' ob) {n : Nat} (hn : h n = none) {blk : Blk} {m : Option (Nat × Nat)} (hm : ∀ b c, m = some (b, c) → b = w.heap.size)
    (own : Own P G w' (ins h n blk) (fun i => if i = n then m else μ i) n blk) :
    Mv G w h μ G w' (ins h n blk) (fun i => if i = n then m else μ i) ∧ HRel P G w' (ins h n blk) (fun i => if i = n then m else μ i) := by
  refine r.one (g.evo r.new) (comp_new hn blk m) (fun k hk _ => ⟨g.old hk, rfl⟩) (fun b c _ hmb => .inl (by rw [hm b c hmb]; exact Nat.le_refl _)) own (fun b hb => r.new b ?_)
  rw [g.heap] at hb; simp at hb; omega

theorem grown_alloc (w : World) (o : Obj) : Grown w (w.alloc o) o := ⟨rfl, rfl, rfl, rfl⟩
theorem grown_drew (w : World) (o : Obj) : Grown w (w.drew.alloc o) o := ⟨rfl, rfl, rfl, rfl⟩

/-- A new struct. -/
theorem grow_data {w' : World} {vs : Array Value} {ty : TypeId} (r : HRel P G w h μ) (g : Grown w w' (.cells vs ty)) {n : Nat} (hn : h n = none) {cells : List LV} (hr : Rel2 G w h μ cells vs) {ty0 : Nat} (hty : ty0 ≠ 0 → ty = ty0) :
    ∃ μ', Mv G w h μ G w' (ins h n (.data cells ty0)) μ' ∧ HRel P G w' (ins h n (.data cells ty0)) μ' ∧ RV G w' (ins h n (.data cells ty0)) μ' (.ptr n 0) (.pointer (some ⟨w.heap.size, 0, none⟩)) := by
  have hc := comp_new (μ := μ) hn (.data cells ty0) (some (w.heap.size, 0))
  have key := r.grow g hn (blk := .data cells ty0) (m := some (w.heap.size, 0)) (fun b c e => by cases e; rfl)
    ⟨w.heap.size, 0, vs, ty, by simp, g.at, hr.size.symm, ⟨r.new _ (Nat.le_refl _), hty⟩, fun j x v hx hv => ⟨(hr.rel j x v hx hv).1.evo (g.evo r.new) hc, (hr.rel j x v hx hv).2⟩⟩
  exact ⟨_, key.1, key.2, .ptr n 0 _ ⟨_, if_pos rfl⟩ (fun cells' _ _ => ⟨0, by simp⟩)⟩

/-- A new list. -/
theorem grow_arr {w' : World} {vs : Array Value} {ty : TypeId} {fr : Nat × Nat} (r : HRel P G w h μ) (g : Grown w w' (.cells vs ty fr)) (hf : ∀ j, j < vs.size → ¬ (fr.1 ≤ j ∧ j < fr.2)) {n : Nat} (hn : h n = none) {rows : Rows} {sz c : Nat}
    {ety : Nat} (hety : ety ≠ 0 → ty = ety) (hz : 0 < sz) (hv : vs.size = c * sz) (hc : rows.length ≤ c) (hw : ∀ (i : Nat) (row : Row), rows[i]? = some row → row.length = sz)
    (hr : ∀ (i : Nat) (row : Row) (j : Nat) (p : PV), rows[i]? = some row → row[j]? = some p → ∃ v, vs[i * sz + j]? = some v ∧ RP G w p v) :
    ∃ μ', Mv G w h μ G w' (ins h n (.arr sz 0 (false, ety) rows)) μ' ∧ HRel P G w' (ins h n (.arr sz 0 (false, ety) rows)) μ' ∧ RV G w' (ins h n (.arr sz 0 (false, ety) rows)) μ' (.ref n 0) (.slice (some ⟨w.heap.size, 0, none⟩) rows.length c) := by
  have key := r.grow g hn (blk := .arr sz 0 (false, ety) rows) (m := some (w.heap.size, c)) (fun b c e => by cases e; rfl)
    (.inr ⟨w.heap.size, c, vs, ty, fr, by simp, g.at, hf, hz, hv, hc, hw, fun i row j p h1 h2 => let ⟨v, h3, h4⟩ := hr i row j p h1 h2; ⟨v, h3, h4.evo (g.evo r.new)⟩, by rw [r.new _ (Nat.le_refl _)]; exact Nat.zero_le _, ⟨fun _ => r.new _ (Nat.le_refl _), hety⟩⟩)
  refine ⟨_, key.1, key.2, .ref n 0 _ _ _ ⟨_, if_pos rfl⟩ (fun sz' v' f rows' hh => ?_)⟩
  have hh' : (some (Blk.arr sz 0 (false, ety) rows)) = some (.arr sz' v' f rows') := by simpa [ins] using hh
  cases hh'
  exact ⟨Nat.le_refl _, fun _ => by simp [slv]⟩

variable {t : List LV} {a : Array Value} {o : Oper} {S : SFn} {hl : List Blk} {res : OpR}

theorem r_alloc {ty : TypeId} {i : TypeInfo} {z : Value} (hi : P.info? ty = some i) (hz : i.zero = some z) : (Instr.alloc ty true (.tuple #[])).run P w = .ok (.pointer (some ⟨w.heap.size, 0, none⟩)) (w.alloc (.cells z.cells ty)) := by
  simp [Instr.alloc, zeroValue, typeInfo, hi, hz, newVar, newRow]

theorem o_alloc (c : Ctx P glob G w h μ t a) {ty : TypeId} {z : List LV} {d ty0 : Nat} (hop : o.op = .alloc ty) (hty : ty0 ≠ 0 → ty = ty0) (e1 : tzero P ty z = true) (hn : h hl.length = none)
    (hr : opRun (prims glob) S (.alloc d ty0 z) t hl = some (.ok res)) : ∃ b, res.heap = hl ++ [b] ∧ Turn P G w h μ a o (ins h hl.length b) res.v := by
  simp only [opRun] at hr
  cases hr
  obtain ⟨it, v, hi, hv, hsz, r0⟩ := zero_rel (G := G) (w := w) (h := h) (μ := μ) e1
  obtain ⟨μ', k1, k2, k3⟩ := grow_data c.hr (grown_alloc w (.cells v.cells ty)) hn r0 hty
  exact ⟨_, rfl, _, _, _, G, μ', by simp only [execOp, hop, Sem.run_bind, r_alloc hi hv, Result.andThen_ok, Sem.run_pure], .inl rfl, k1, k2, k3⟩

theorem o_box (c : Ctx P glob G w h μ t a) {ty : TypeId} {x : Operand} {y : RO} {d n : Nat} (hop : o.op = .box ty x) (e1 : ckRO x y = true) (hn : h hl.length = none)
    (hr : opRun (prims glob) S (.box d n y) t hl = some (.ok res)) (hk : res.oks.all id = true) : ∃ b, res.heap = hl ++ [b] ∧ Turn P G w h μ a o (ins h hl.length b) res.v := by
  simp only [opRun] at hr
  split at hr <;> cases hr
  rename_i cs hcs
  simp only [List.all_append, Bool.and_eq_true] at hk
  obtain ⟨s1, s2, s3⟩ := cellsOf_rv (sv_rv c.tr c.gr e1 hk.1) hcs hk.2
  obtain ⟨μ', k1, k2, k3⟩ := grow_data c.hr (grown_alloc w (.cells (ev a x).cells ty)) hn ⟨s2.trans s1.symm, s3⟩ (ty0 := 0) (fun h => absurd rfl h)
  exact ⟨_, rfl, _, _, _, G, μ', by simp only [execOp, hop, Instr.box, newVar, newRow, Sem.run_bind, run_newObj, Result.andThen_ok, Sem.run_pure]; rfl, .inl rfl, k1, k2, k3⟩

/-- Cells are stored one by one. -/
theorem run_store_splice (b off : Nat) (ty : TypeId) (fr : Nat × Nat) : ∀ (vs : List Value) (i : Nat) (cur : Array Value) (w : World), w.heap[b]? = some (.cells cur ty fr) → off + i + vs.length ≤ cur.size →
    (∀ j, j < cur.size → ¬ (fr.1 ≤ j ∧ j < fr.2)) → (∀ v ∈ vs, one v = true) → (storeCells ⟨b, off, none⟩ vs i).run P w = .ok () (w.setRow b (spliceA cur (off + i) vs))
  | [], i, cur, w, hg, _, _, _ => by
    simp only [storeCells, spliceA]
    rw [setRow_self w b cur ty fr hg]
    rfl
  | v :: rest, i, cur, w, hg, hl, hf, h1 => by
    have hi : off + i < cur.size := by simp at hl; omega
    have hcell : w.cell? ⟨b, off + i, none⟩ = some cur[off + i] := by simp [World.cell?, hg, hi]
    have hfro : w.frozen? ⟨b, off + i, none⟩ = false := by
      simp only [World.frozen?, hg]
      have := hf (off + i) hi
      simp only [Bool.and_eq_false_iff, decide_eq_false_iff_not]
      omega
    have hst : (store ((⟨b, off, none⟩ : Addr).add i) v).run P w = .ok () (w.setRow b (cur.setIfInBounds (off + i) v)) := by
      rw [add_plain, run_store P w _ v _ (oneCell_of_one (h1 v (by simp))), hcell]
      simp [hfro, setCell_eq_setRow w b (off + i) cur ty fr v hg]
    have ih := run_store_splice b off ty fr rest (i + 1) (cur.setIfInBounds (off + i) v) (w.setRow b (cur.setIfInBounds (off + i) v)) (setRow_heap w b cur _ ty _ hg) (by simp at hl ⊢; omega) (fun j hj => hf j (by simpa using hj)) (fun x hx => h1 x (by simp [hx]))
    simp only [storeCells, Sem.run_bind, hst, Result.andThen_ok, ih, setRow_setRow]
    rfl

theorem r_storeAt {ty n b off : Nat} (h1 : tsize P ty = some n) {v : Value} (hv : v.cells.size = n) {cur : Array Value} {tt : TypeId} {fr : Nat × Nat} (hg : w.heap[b]? = some (.cells cur tt fr)) (hl : off + n ≤ cur.size)
    (hf : ∀ j, j < cur.size → ¬ (fr.1 ≤ j ∧ j < fr.2)) (hone : ∀ u ∈ v.cells.toList, one u = true) :
    (Instr.storeAt ty (.pointer (some ⟨b, off, none⟩)) v).run P w = .ok () (w.setRow b (spliceA cur off v.cells.toList)) := by
  have := run_store_splice (P := P) b off tt fr v.cells.toList 0 cur w hg (by simp; omega) hf hone
  simp only [Instr.storeAt, Instr.sureAddr, storeVar, Sem.run_bind, Sem.run_pure, Result.andThen_ok, r_sizeOf w h1, hv, ne_eq, not_true_eq_false, if_false, this, Nat.add_zero]

theorem spliceA_get : ∀ (vs : List Value) (off : Nat) (cur : Array Value) (j : Nat), off + vs.length ≤ cur.size → (spliceA cur off vs)[j]? = if off ≤ j ∧ j < off + vs.length then vs[j - off]? else cur[j]?
  | [], off, cur, j, _ => by simp only [spliceA, List.length_nil]; rw [if_neg (by omega)]
  | v :: l, off, cur, j, h => by
    simp only [List.length_cons] at h
    rw [spliceA, spliceA_get l (off + 1) _ j (by simp; omega)]
    simp only [List.length_cons]
    by_cases h1 : off + 1 ≤ j ∧ j < off + 1 + l.length
    · rw [if_pos h1, if_pos (by omega)]
      have : j - off = (j - (off + 1)) + 1 := by omega
      rw [this, List.getElem?_cons_succ]
    · rw [if_neg h1, Array.getElem?_setIfInBounds]
      by_cases h2 : off = j
      · subst h2
        rw [if_pos rfl, if_pos (by omega), if_pos (by omega)]; simp
      · rw [if_neg h2, if_neg (by omega)]

theorem Rel2.mono {G' : Ghost} {w' : World} {h' : HF} {μ' : Loc} {zs : List LV} {cs : Array Value} (r : Rel2 G w h μ zs cs) (e : Evo G w G' w') (c : Comp h μ h' μ') : Rel2 G' w' h' μ' zs cs :=
  ⟨r.size, fun j x v h1 h2 => ⟨(r.rel j x v h1 h2).1.evo e c, (r.rel j x v h1 h2).2⟩⟩

/-- A store into cells that aren't sealed. -/
theorem setRow_evo {b : Nat} {cur vs : Array Value} {ty : TypeId} {fr : Nat × Nat} (hg : w.heap[b]? = some (.cells cur ty fr)) (hs : ∀ o, o < G b → vs[o]? = cur[o]?) : Evo G w G (w.setRow b vs) where
  os := rfl
  tape := rfl
  output := rfl
  size := by simp
  keep k o ho := ⟨ho, by
    by_cases hk : k = b
    · subst hk
      rw [cell_setRow_same w k o cur vs ty fr hg, blk_cell hg]
      exact hs o ho
    · exact cell_setRow_other w b vs ⟨k, o, none⟩ hk⟩

theorem o_storeP (c : Ctx P glob G w h μ t a) {ty : TypeId} {x y : Operand} {x' y' : RO} {n i off : Nat} {k : List Bool} (hop : o.op = .store ty x y) (e1 : ckRO x x' = true) (e2 : ckRO y y' = true) (e3 : tsize P ty = some n)
    (hs : sv (prims glob) t x' = (.ptr i off, k)) (hA : h i = hl[i]?)
    (hr : opRun (prims glob) S (.store n x' y') t hl = some (.ok res)) (hk : res.oks.all id = true) : ∃ b, i < hl.length ∧ res.heap = hl.set i b ∧ Turn P G w h μ a o (ins h i b) res.v := by
  simp only [opRun, hs] at hr
  split at hr <;> try cases hr
  rename_i cells ty0 hc
  split at hr <;> try cases hr
  rename_i cs hcs
  split at hr <;> cases hr
  rename_i hfit
  simp only [List.all_append, Bool.and_eq_true] at hk
  obtain ⟨⟨hk1, hk2⟩, hk3⟩ := hk
  have hlt : i < hl.length := (List.getElem?_eq_some_iff.1 hc).1
  have hb : h i = some (.data cells _) := hA.trans hc
  obtain ⟨b, ex, hd, hv⟩ := (sv_rv' c.tr c.gr e1 hs hk1).ptr_inv
  obtain ⟨s1, s2, s3⟩ := cellsOf_rv (sv_rv c.tr c.gr e2 hk2) hcs hk3
  obtain ⟨b1, c1, vs, tt, m1, m2, m3, m4, m5⟩ := c.hr.own i _ hb
  obtain ⟨c2, m6⟩ := hv cells _ hb
  obtain rfl : b1 = b := by rw [m1] at m6; cases m6; rfl
  have hlen : (ev a y).cells.toList.length = n := by simpa using s1
  have hrun := r_storeAt (P := P) (w := w) (off := off) e3 s1 m2 (by omega) (by intro j _; simp) (fun u hu => by
    obtain ⟨j, hj⟩ := List.mem_iff_getElem?.1 hu
    have hj' : j < (ev a y).cells.size := by have := (List.getElem?_eq_some_iff.1 hj).1; simpa using this
    exact (s3 j (cs[j]'(by omega)) u (List.getElem?_eq_getElem _) (by simpa using hj)).2)
  have evo : Evo G w G (w.setRow b1 (spliceA vs off (ev a y).cells.toList)) := setRow_evo m2 (fun o' ho => by rw [m4.1] at ho; omega)
  have hcomp : Comp h μ (ins h i (.data (splice cells off cs) ty0)) (fun j => if j = i then μ i else μ j) :=
    comp_set hb _ _ (fun _ _ h => by cases h; exact ⟨⟨_, rfl⟩, rfl⟩) (fun _ _ _ _ h => by cases h) (fun _ _ _ _ _ h => by cases h)
  have r0 : Rel2 G w h μ cells vs := ⟨m3.symm, m5⟩
  have r1 := r0.splice (off := off) (l := cs) (vs := (ev a y).cells.toList) (by simp [s2, s1]) (fun j x v hx hv => s3 j x v hx (by simpa using hv))
  have r2 := r1.mono evo hcomp
  have key := c.hr.one (n := i) (blk := .data (splice cells off cs) ty0) (m := μ i) evo hcomp
    (fun k hk hn => by
      have hkb : k ≠ b1 := fun e => hn _ c1 hb (by simp) (e ▸ m1)
      exact ⟨setRow_other w b1 k _ hkb, rfl⟩)
    (fun b c _ hm => .inr ⟨_, c, hb, by simp, hm⟩)
    ⟨b1, c1, _, tt, by simp [m1], setRow_heap w b1 vs _ tt _ m2, r2.size.symm, m4, r2.rel⟩
    (fun k hk => c.hr.new k (by simpa using hk))
  refine ⟨_, hlt, rfl, .skip, undef, _, G, _, ?_, .inr ⟨rfl, rfl⟩, key.1, key.2, .bad _⟩
  simp only [execOp, hop, ex, Sem.run_bind, hrun, Result.andThen_ok, Sem.run_pure]

theorem madeCells_get (z : Array Value) (n i j : Nat) (hi : i < n) (hj : j < z.size) : (madeCells z (n * z.size))[i * z.size + j]? = z[j]? := by
  have h1 : i * z.size + j < n * z.size := by
    have := Nat.mul_le_mul_right z.size (show i + 1 ≤ n from hi)
    rw [Nat.add_mul] at this; omega
  have h2 : (i * z.size + j) % z.size = j := by rw [Nat.mul_comm, Nat.mul_add_mod, Nat.mod_eq_of_lt hj]
  simp [madeCells, h1, h2, hj]

theorem o_mk (c : Ctx P glob G w h μ t a) {ty e : TypeId} {x y : Operand} {x' : RO} {z : Row} {d sz : Nat} (hop : o.op = .makeSlice ty x y) (e1 : ckRO x x' = true) (e2 : ckRO y x' = true) (h1 : telem P ty = some e) (h2 : tsize P e = some sz)
    (h3 : tzeroP P e z = true) (h4 : 0 < sz) (h5 : (P.info? e).any (fun i => decide (i.bytes ≤ 2 ^ 24)) = true) (hn : h hl.length = none)
    (hr : opRun (prims glob) S (.mk d sz z x') t hl = some (.ok res)) (hk : res.oks.all id = true) : ∃ b, res.heap = hl ++ [b] ∧ Turn P G w h μ a o (ins h hl.length b) res.v := by
  simp only [opRun] at hr
  split at hr <;> cases hr
  rename_i p k hp
  simp only [List.all_append, Bool.and_eq_true, List.all_cons, List.all_nil, id, and_true] at hk
  obtain ⟨hk1, hk2⟩ := hk
  have hx := (sv_rv' c.tr c.gr e1 (pvOf_some hp) hk1).pv_inv
  have hy := (sv_rv' c.tr c.gr e2 (pvOf_some hp) hk1).pv_inv
  simp only [prims] at hk2
  split at hk2
  · rename_i kk m
    simp only [Bool.and_eq_true, decide_eq_true_eq] at hk2
    obtain ⟨h0, hm⟩ := hk2
    unfold telem at h1
    split at h1 <;> cases h1
    rename_i hu
    unfold tzeroP at h3
    split at h3 <;> try cases h3
    rename_i i hi
    split at h3 <;> try cases h3
    rename_i zv hz
    simp only [Bool.and_eq_true, beq_iff_eq] at h3
    have hsz : i.size = sz := sizeOf_info h2 hi
    have hbytes : i.bytes ≤ 2 ^ 24 := by simpa [hi] using h5
    have hb1 : (i.bytes : Int) * m ≤ 281474976710656 := by
      have : (i.bytes : Int) * m ≤ (2 ^ 24 : Int) * 2 ^ 24 := Int.mul_le_mul (by omega) hm h0 (by omega)
      omega
    have hrun := run_make (P := P) w ty e i zv hu hi hz kk kk m m h0 (Int.le_refl _) hb1 (by omega)
    obtain ⟨q1, q2⟩ := eqCs_get h3.2
    have hzs : zv.cells.size = sz := by rw [← h3.1, hsz]
    have hzl : z.length = sz := by simp at q1; omega
    have hsize : (madeCells zv.cells (m.toNat * i.size)).size = m.toNat * sz := by rw [size_madeCells, hsz]
    obtain ⟨μ', k1, k2, k3⟩ := grow_arr (rows := List.replicate m.toNat z) (fr := (0, 0)) c.hr (grown_alloc w (.cells (madeCells zv.cells (m.toNat * i.size)) e)) (fun j _ => by simp) hn (ety := 0) (fun h => absurd rfl h) h4 hsize (by simp)
      (fun i row hrow => by
        have : row ∈ List.replicate m.toNat z := List.mem_of_getElem? hrow
        rw [List.eq_of_mem_replicate this]; exact hzl)
      (fun i' row j p hrow hp => by
        have hi' : i' < m.toNat := by have := (List.getElem?_eq_some_iff.1 hrow).1; simpa using this
        have hmem : row ∈ List.replicate m.toNat z := List.mem_of_getElem? hrow
        rw [List.eq_of_mem_replicate hmem] at hp
        have hj : j < z.length := (List.getElem?_eq_some_iff.1 hp).1
        have hjz : j < zv.cells.size := by omega
        refine ⟨zv.cells[j], ?_, ?_⟩
        · rw [hsz, ← hzs, madeCells_get zv.cells m.toNat i' j hi' hjz]; simp [hjz]
        · have := q2 j zv.cells[j] (.pv p) (by simp [hjz]) (by simp [hp])
          exact (eqC1_rv (h := h) (μ := μ) this).pv_inv)
    rw [List.length_replicate] at k3
    refine ⟨_, rfl, _, _, _, G, μ', by simp only [execOp, hop, hx.int_inv, hy.int_inv, Sem.run_bind, hrun, Result.andThen_ok, Sem.run_pure], .inl rfl, k1, k2, k3⟩
  · cases hk2
end
end AI
end

section
namespace AI
open Go

section
variable {P : Program} {glob : Nat → Row} {G : Ghost} {w : World} {h : HF} {μ : Loc}
variable {t : List LV} {a : Array Value} {o : Oper} {S : SFn} {hl : List Blk} {res : OpR}

theorem freeze_push (w : World) (c : Array Value) (e : TypeId) (n : Nat) :
    ((w.drew.alloc (.cells c e)).freeze ⟨w.heap.size, n, none⟩ 1).heap = w.heap.push (.cells c e (n, n + 1)) := by
  simp only [World.freeze, Nat.one_ne_zero, if_false, World.alloc, World.drew]
  apply Array.ext
  · simp
  · intro i h1 h2
    rw [Array.getElem_modify]
    by_cases hi : w.heap.size = i
    · subst hi; simp
    · rw [if_neg hi]
      have : i < w.heap.size := by simp at h2; omega
      simp [Array.getElem_push, this]

theorem r_stringToBytes (e : TypeId) (s : ByteArray) : (Conv.stringToBytes e s).run P w = .ok (.slice (some ⟨w.heap.size, 0, none⟩) s.size (grownCap w s.size 0 e))
    ((w.drew.alloc (.cells (s.data.map (fun b => Value.int .u8 b.toNat) ++ Array.replicate (grownCap w s.size 0 e - s.size) (.int .u8 0)) e)).freeze
      ⟨w.heap.size, (s.data.map (fun b : UInt8 => Value.int .u8 b.toNat) ++ Array.replicate (grownCap w s.size 0 e - s.size) (Value.int .u8 0)).size, none⟩ 1) := by
  have hsh : ∀ c : Array Value, (w.drew.alloc (.cells c e)).shape? w.heap.size = some (e, c.size) := by
    intro c; have := (grown_drew w (.cells c e)).at; simp only [World.shape?, this]
  simp only [Conv.stringToBytes, Sem.run_bind, run_choose, Question.forced, Bool.false_eq_true, if_false, Result.andThen_ok, newRow, run_newObj, Sem.run_pure, markStringish, run_shape, World.alloc_eq, World.drew_eq, World.size_drew]
  erw [hsh]
  rfl

theorem o_s2b (c : Ctx P glob G w h μ t a) {s ty : TypeId} {x : Operand} {y : RO} {d : Nat} (hop : o.op = .convert s ty x) (e1 : ckRO x y = true) (e2 : isStr P s = true) (e3 : isBytes P ty = true) (hn : h hl.length = none)
    (hr : opRun (prims glob) S (.s2b d y) t hl = some (.ok res)) (hk : res.oks.all id = true) : ∃ b, res.heap = hl ++ [b] ∧ Turn P G w h μ a o (ins h hl.length b) res.v := by
  simp only [opRun] at hr
  split at hr <;> cases hr
  rename_i p k hp
  simp only [List.all_append, Bool.and_eq_true, List.all_cons, List.all_nil, id, and_true] at hk
  obtain ⟨hk1, hk2⟩ := hk
  have hx := (sv_rv' c.tr c.gr e1 (pvOf_some hp) hk1).pv_inv
  simp only [prims] at hk2
  split at hk2
  · simp at hk2
  · rename_i st
    unfold isBytes at e3
    split at e3 <;> try cases e3
    rename_i e hte
    unfold telem at hte
    split at hte <;> cases hte
    rename_i hu
    unfold isKind at e3
    split at e3 <;> try cases e3
    rename_i kk hku
    simp only [beq_iff_eq] at e3; subst e3
    unfold isStr at e2
    split at e2 <;> try cases e2
    rename_i hus
    let cap := grownCap w (bstr st).size 0 e
    let cells : Array Value := (bstr st).data.map (fun b => Value.int .u8 b.toNat) ++ Array.replicate (cap - (bstr st).size) (.int .u8 0)
    have hcap : (bstr st).size ≤ cap := grownCap_ge w _ 0 e
    have hsz : cells.size = cap := by
      have : (bstr st).data.size = (bstr st).size := rfl
      simp only [cells, Array.size_append, Array.size_map, Array.size_replicate, this]; omega
    let w' := (w.drew.alloc (.cells cells e)).freeze ⟨w.heap.size, cells.size, none⟩ 1
    have hrun : (convert s ty (.string (bstr st))).run P w = .ok (.slice (some ⟨w.heap.size, 0, none⟩) (bstr st).size cap) w' := by
      simp only [convert, Sem.run_bind, r_underlying w hus, r_underlying w hu, Result.andThen_ok, r_underlying w hku]
      exact r_stringToBytes e (bstr st)
    have hg : Grown w w' (.cells cells e (cells.size, cells.size + 1)) := by
      exact ⟨freeze_push w cells e cells.size, rfl, rfl, rfl⟩
    have hlen : (st.map byteRow).length = (bstr st).size := by simp [bstr_size]
    obtain ⟨μ', k1, k2, k3⟩ := grow_arr (rows := st.map byteRow) (sz := 1) (c := cap) c.hr hg (fun j hj => by simp; omega) hn (ety := 0) (fun h => absurd rfl h) (by omega) (by omega) (by rw [hlen]; exact hcap)
      (fun i row hrow => by
        simp only [List.getElem?_map, Option.map_eq_some_iff] at hrow
        obtain ⟨b, _, rfl⟩ := hrow; rfl)
      (fun i row j p hrow hp => by
        simp only [List.getElem?_map, Option.map_eq_some_iff] at hrow
        obtain ⟨b, hb, rfl⟩ := hrow
        have hi : i < st.length := (List.getElem?_eq_some_iff.1 hb).1
        have hbi : st[i] = b := (List.getElem?_eq_some_iff.1 hb).2
        cases j with
        | succ j => simp [byteRow] at hp
        | zero =>
          simp [byteRow] at hp
          subst hp
          refine ⟨.int .u8 b.toNat, ?_, .int _ _⟩
          simp only [cells, Nat.mul_one, Nat.add_zero]
          rw [Array.getElem?_append_left (by simpa [bstr] using hi)]
          simp [bstr, hb])
    rw [hlen] at k3
    exact ⟨_, rfl, _, _, _, G, μ', by simp only [execOp, hop, hx.str_inv, Sem.run_bind, hrun, Result.andThen_ok, Sem.run_pure]; try rfl, .inl rfl, k1, k2, k3⟩
  · cases hk2

/-- The cells of what is read. -/
theorem cells_of {str : Bool} {sz : Nat} {x : LV} {v : Value} {rows : Rows} {k : List Bool} (hh : HRel P G w h μ) (r : RV G w h μ x v) (hA : ∀ id ∈ rowIds x, h id = hl[id]?)
    (e : rowsOf (prims glob) hl str sz x = some (rows, k)) (hk : k.all id = true) (hz : 0 < sz) :
    ∃ news : Array Value, (∀ w' : World, w'.heap = w.heap → (Builtin.firstCells sz rows.length v).run P w' = .ok news w') ∧ (∀ w' : World, (Builtin.lenOf v).run P w' = .ok rows.length w') ∧ news.size = rows.length * sz ∧
      (∀ (i : Nat) (row : Row), rows[i]? = some row → row.length = sz) ∧
      (∀ (i : Nat) (row : Row) (j : Nat) (p : PV), rows[i]? = some row → row[j]? = some p → ∃ u, news[i * sz + j]? = some u ∧ RP G w p u) ∧ (∀ u ∈ news.toList, one u = true) := by
  have allone : ∀ {rows : Rows} {news : Array Value}, news.size = rows.length * sz → (∀ (i : Nat) (row : Row), rows[i]? = some row → row.length = sz) →
      (∀ (i : Nat) (row : Row) (j : Nat) (p : PV), rows[i]? = some row → row[j]? = some p → ∃ u, news[i * sz + j]? = some u ∧ RP G w p u) → ∀ u ∈ news.toList, one u = true := by
    intro rows news h1 h2 h3 u hu
    obtain ⟨q, hq⟩ := List.mem_iff_getElem?.1 hu
    have hq' : q < rows.length * sz := by have := (List.getElem?_eq_some_iff.1 hq).1; simp at this; omega
    have hi : q / sz < rows.length := Nat.div_lt_of_lt_mul (by rw [Nat.mul_comm]; exact hq')
    have hrow := List.getElem?_eq_getElem hi
    have hj : q % sz < rows[q / sz].length := by rw [h2 _ _ hrow]; exact Nat.mod_lt _ hz
    obtain ⟨u', hu', hp⟩ := h3 _ _ _ _ hrow (List.getElem?_eq_getElem hj)
    rw [Nat.mul_comm, Nat.div_add_mod] at hu'
    have : u = u' := by simp at hq; rw [hq] at hu'; exact Option.some.inj hu'
    rw [this]; exact hp.one
  rcases rowsOf_rv hh r hA e hk with ⟨rfl, rfl, s, rfl, rfl⟩ | ⟨rfl, hw, ad, c, rfl, hc, hh'⟩
  · have key : ∀ (i : Nat) (row : Row) (j : Nat) (p : PV), (s.map byteRow)[i]? = some row → row[j]? = some p → ∃ u, ((bstr s).data.map fun b => Value.int .u8 b.toNat)[i * 1 + j]? = some u ∧ RP G w p u := by
      intro i row j p hrow hp
      simp only [List.getElem?_map, Option.map_eq_some_iff] at hrow
      obtain ⟨b, hb, rfl⟩ := hrow
      cases j with
      | succ j => simp [byteRow] at hp
      | zero => simp [byteRow] at hp; subst hp; exact ⟨.int .u8 b.toNat, by simp [bstr, hb], .int _ _⟩
    have hw : ∀ (i : Nat) (row : Row), (s.map byteRow)[i]? = some row → row.length = 1 := by
      intro i row hrow
      simp only [List.getElem?_map, Option.map_eq_some_iff] at hrow
      obtain ⟨b, _, rfl⟩ := hrow; rfl
    have hsize : ((bstr s).data.map fun b => Value.int .u8 b.toNat).size = (s.map byteRow).length * 1 := by simp [bstr]
    refine ⟨(bstr s).data.map fun b => .int .u8 b.toNat, fun w' _ => ?_, fun w' => by simp [Builtin.lenOf, bstr_size], hsize, hw, key, allone hsize hw key⟩
    simp only [Builtin.firstCells, Sem.run_pure, List.length_map]
    have : (bstr s).extract 0 s.length = bstr s := by
      have := bstr_extract s 0 s.length
      simpa using this
    rw [this]
  · rcases hh' with ⟨rfl, hsp⟩ | ⟨b, off, vs, rfl, m2, m3⟩
    · refine ⟨#[], fun w' _ => ?_, fun w' => by simp [Builtin.lenOf], by simp, by simp, by simp, by simp⟩
      cases ad with
      | none => simp [Builtin.firstCells]
      | some ad => simp [Builtin.firstCells, loadCells, loadCellsFrom]
    · let f : Nat → Value := fun q => vs (q / sz) (q % sz)
      have hsize : ((List.range (rows.length * sz)).map f).toArray.size = rows.length * sz := by simp
      have hidx : ∀ i j, j < sz → (i * sz + j) / sz = i ∧ (i * sz + j) % sz = j := by
        intro i j hj
        rw [Nat.mul_comm i sz, Nat.mul_add_div hz, Nat.div_eq_of_lt hj, Nat.mul_add_mod, Nat.mod_eq_of_lt hj]
        exact ⟨by omega, rfl⟩
      have key : ∀ (i : Nat) (row : Row) (j : Nat) (p : PV), rows[i]? = some row → row[j]? = some p → ∃ u, ((List.range (rows.length * sz)).map f).toArray[i * sz + j]? = some u ∧ RP G w p u := by
        intro i row j p hrow hp
        have hj : j < sz := by rw [← hw i row hrow]; exact (List.getElem?_eq_some_iff.1 hp).1
        have hi : i < rows.length := (List.getElem?_eq_some_iff.1 hrow).1
        have hlt : i * sz + j < rows.length * sz := by
          have := Nat.mul_le_mul_right sz (show i + 1 ≤ rows.length from hi)
          rw [Nat.add_mul] at this; omega
        refine ⟨vs i j, ?_, m3 i row j p hrow hp⟩
        simp [hlt, f, hidx i j hj]
      refine ⟨((List.range (rows.length * sz)).map f).toArray, fun w' hw' => ?_, fun w' => by simp [Builtin.lenOf], hsize, hw, key, allone hsize hw key⟩
      simp only [Builtin.firstCells]
      refine run_loadCells w' ⟨b, off, none⟩ (rows.length * sz) f (fun q hq => ?_)
      have hi : q / sz < rows.length := Nat.div_lt_of_lt_mul (by rw [Nat.mul_comm]; exact hq)
      have hrow := List.getElem?_eq_getElem hi
      have hj : q % sz < rows[q / sz].length := by rw [hw _ _ hrow]; exact Nat.mod_lt _ hz
      have := m2 _ _ _ _ hrow (List.getElem?_eq_getElem hj)
      rw [Nat.add_assoc, Nat.mul_comm, Nat.div_add_mod] at this
      rw [add_plain, ← this]
      simp [World.cell?, hw']

theorem lim_inv {rows : Rows} {b : Nat} (h : (prims glob).lim rows b = true) : rows.length * b ≤ 2 ^ 44 := by simpa [prims] using h

theorem r_append {st ut ty e size : TypeId} {i : TypeInfo} {z : Value} (ht : telem P st = some e) (hi : P.info? e = some i) (hz : i.zero = some z) (hsz : i.size = size) (hb : 0 < i.bytes)
    (hu : P.underlying ut = some .string ∨ ∃ e', P.underlying ut = some (.slice e')) {base : Option Addr} {sLen sCap n : Nat} {x : Value} {olds news : Array Value}
    (hx : ∀ w' : World, (Builtin.lenOf x).run P w' = .ok n w') (hfx : ∀ w' : World, w'.heap = w.heap → (Builtin.firstCells size n x).run P w' = .ok news w')
    (hfs : ∀ w' : World, w'.heap = w.heap → (Builtin.firstCells size sLen (.slice base sLen sCap)).run P w' = .ok olds w') :
    (sLen + n ≤ sCap → (Builtin.append_ #[st, ut] ty #[.slice base sLen sCap, x]).run P w =
      (match base with | some a => (storeCells (a.add (sLen * size)) news.toList).run P w | none => .ok () w).andThen fun _ w' => .ok (.slice base (sLen + n) sCap) w') ∧
    (sCap < sLen + n → (sLen + n) * i.bytes ≤ 2 ^ 44 → (Builtin.append_ #[st, ut] ty #[.slice base sLen sCap, x]).run P w =
      .ok (.slice (some ⟨w.heap.size, 0, none⟩) (sLen + n) (grownCap w (sLen + n) sCap e))
        (w.drew.alloc (.cells (olds ++ news ++ Builtin.zeroCells z.cells (grownCap w (sLen + n) sCap e - (sLen + n))) e))) := by
  unfold telem at ht
  split at ht <;> cases ht
  rename_i hst
  subst hsz
  constructor
  · intro hfit
    have h1 := hfx w rfl
    have hx := hx w
    rcases hu with hu | ⟨e', hu⟩ <;> cases base <;>
      simp [Builtin.append_, r_underlying w hst, r_underlying w hu, Go.sizeOf, typeInfo, hi, hx, h1, hfit]
  · intro hgr hlim
    have h1 := hfx w.drew rfl
    have h2 := hfs w.drew rfl
    have hx := hx w
    have h3 : ¬ (sLen + n ≤ sCap) := by omega
    have h4 : Builtin.nextslicecap (sLen + n) sCap * i.bytes ≤ 281474976710656 := growslice_fits hgr (by omega)
    have h5 : ¬ (281474976710656 < Builtin.nextslicecap (sLen + n) sCap * i.bytes) := by omega
    have h6 : i.bytes ≠ 0 := by omega
    rcases hu with hu | ⟨e', hu⟩ <;>
      simp [Builtin.append_, r_underlying w hst, r_underlying w hu, Go.sizeOf, typeInfo, zeroValue, hi, hz, hx, h1, h2, h3, h5, h6, Question.forced, newRow, grownCap]
end
end AI
end

section
namespace AI
open Go

section
variable {P : Program} {glob : Nat → Row} {G : Ghost} {w : World} {h : HF} {μ : Loc}
variable {t : List LV} {a : Array Value} {o : Oper} {S : SFn} {hl : List Blk} {res : OpR}

/-- The cells of two lists, one behind the other. -/
theorem two_get {olds news rest : Array Value} {rows1 rows2 : Rows} {sz : Nat} (h1 : olds.size = rows1.length * sz) (h2 : news.size = rows2.length * sz)
    (w1 : ∀ (i : Nat) (row : Row), rows1[i]? = some row → row.length = sz) (w2 : ∀ (i : Nat) (row : Row), rows2[i]? = some row → row.length = sz)
    (k1 : ∀ (i : Nat) (row : Row) (j : Nat) (p : PV), rows1[i]? = some row → row[j]? = some p → ∃ u, olds[i * sz + j]? = some u ∧ RP G w p u)
    (k2 : ∀ (i : Nat) (row : Row) (j : Nat) (p : PV), rows2[i]? = some row → row[j]? = some p → ∃ u, news[i * sz + j]? = some u ∧ RP G w p u) :
    (∀ (i : Nat) (row : Row), (rows1 ++ rows2)[i]? = some row → row.length = sz) ∧
    (∀ (i : Nat) (row : Row) (j : Nat) (p : PV), (rows1 ++ rows2)[i]? = some row → row[j]? = some p → ∃ u, (olds ++ news ++ rest)[i * sz + j]? = some u ∧ RP G w p u) := by
  have hw : ∀ (i : Nat) (row : Row), (rows1 ++ rows2)[i]? = some row → row.length = sz := by
    intro i row hr
    rw [List.getElem?_append] at hr
    split at hr
    · exact w1 _ _ hr
    · exact w2 _ _ hr
  refine ⟨hw, fun i row j p hr hp => ?_⟩
  have hj : j < sz := by rw [← hw i row hr]; exact (List.getElem?_eq_some_iff.1 hp).1
  rw [List.getElem?_append] at hr
  split at hr
  · rename_i hi
    obtain ⟨u, hu, hq⟩ := k1 i row j p hr hp
    refine ⟨u, ?_, hq⟩
    have : i * sz + j < olds.size := (Array.getElem?_eq_some_iff.1 hu).1
    rw [Array.append_assoc, Array.getElem?_append_left this, hu]
  · rename_i hi
    obtain ⟨u, hu, hq⟩ := k2 _ row j p hr hp
    refine ⟨u, ?_, hq⟩
    have h3 : (i - rows1.length) * sz + j < news.size := (Array.getElem?_eq_some_iff.1 hu).1
    have h4 : i * sz = rows1.length * sz + (i - rows1.length) * sz := by rw [← Nat.add_mul]; congr 1; omega
    rw [Array.append_assoc, Array.getElem?_append_right (by omega), Array.getElem?_append_left (by omega), ← hu]
    congr 1; omega

theorem size_two {olds news z : Array Value} {n1 n2 sz c : Nat} (h1 : olds.size = n1 * sz) (h2 : news.size = n2 * sz) (hz : z.size = sz) (hc : n1 + n2 ≤ c) :
    (olds ++ news ++ Builtin.zeroCells z (c - (n1 + n2))).size = c * sz := by
  rw [Array.size_append, Array.size_append, h1, h2, size_zeroCells, hz, ← Nat.add_mul, ← Nat.add_mul]
  congr 1; omega

theorem fxApp_ety {f : Bool × Nat} {s ety : Nat} (h : (fxApp f s ety).2 ≠ 0) : (fxApp f s ety).2 = ety := by
  simp only [fxApp] at h ⊢
  split
  · rfl
  · rename_i h0
    simp only [h0, if_false] at h
    split
    · rfl
    · rename_i h1; simp [h1] at h
theorem fxApp_keep {f : Bool × Nat} {s ety : Nat} (hs : s ≠ 0) (h : (fxApp f s ety).2 ≠ 0) : f.2 = (fxApp f s ety).2 := by
  simp only [fxApp, hs, if_false] at h ⊢
  split
  · assumption
  · rename_i h1; simp [h1] at h

/-- A list is extended in place, moved, or made. -/
theorem app_set {rows1 rows2 : Rows} {id ver sz : Nat} {f f' : Bool × Nat} (r : HRel P G w h μ) (hb : h id = some (.arr sz ver f rows1)) {b1 c1 : Nat} (m1 : μ id = some (b1, c1)) {vs : Array Value} {tt : TypeId} {fr : Nat × Nat}
    (m2 : w.heap[b1]? = some (.cells vs tt fr)) (m3 : ∀ j, j < vs.size → ¬ (fr.1 ≤ j ∧ j < fr.2)) (hz : 0 < sz) (m5 : vs.size = c1 * sz) (hfit : rows1.length + rows2.length ≤ c1)
    (w1 : ∀ (i : Nat) (row : Row), rows1[i]? = some row → row.length = sz) (w2 : ∀ (i : Nat) (row : Row), rows2[i]? = some row → row.length = sz)
    (k1 : ∀ (i : Nat) (row : Row) (j : Nat) (p : PV), rows1[i]? = some row → row[j]? = some p → ∃ u, vs[i * sz + j]? = some u ∧ RP G w p u)
    (hG : G b1 ≤ rows1.length * sz) (hG0 : (f.1 = false → G b1 = 0) ∧ (f.2 ≠ 0 → tt = f.2)) (hf1 : f'.1 = f.1) (hf2 : f'.2 ≠ 0 → f.2 = f'.2) {news : Array Value} (h2 : news.size = rows2.length * sz)
    (k2 : ∀ (i : Nat) (row : Row) (j : Nat) (p : PV), rows2[i]? = some row → row[j]? = some p → ∃ u, news[i * sz + j]? = some u ∧ RP G w p u) :
    Mv G w h μ G (w.setRow b1 (spliceA vs (rows1.length * sz) news.toList)) (ins h id (.arr sz (ver + 1) f' (rows1 ++ rows2))) μ ∧
      HRel P G (w.setRow b1 (spliceA vs (rows1.length * sz) news.toList)) (ins h id (.arr sz (ver + 1) f' (rows1 ++ rows2))) μ := by
  have hlen : rows1.length * sz + news.toList.length ≤ vs.size := by
    have := Nat.mul_le_mul_right sz hfit
    rw [Nat.add_mul] at this
    simp [h2]; omega
  have get : ∀ j, (spliceA vs (rows1.length * sz) news.toList)[j]? = if rows1.length * sz ≤ j ∧ j < rows1.length * sz + news.toList.length then news.toList[j - rows1.length * sz]? else vs[j]? := fun j => spliceA_get _ _ _ j hlen
  have evo : Evo G w G (w.setRow b1 (spliceA vs (rows1.length * sz) news.toList)) := setRow_evo m2 (fun o' ho => by rw [get, if_neg (by omega)])
  have hcomp : Comp h μ (ins h id (.arr sz (ver + 1) f' (rows1 ++ rows2))) (fun j => if j = id then μ id else μ j) :=
    comp_set hb _ _ (fun _ _ h => by cases h) (fun _ _ _ _ h => by cases h; exact ⟨_, _, _, _, rfl, .inl (Nat.lt_succ_self _)⟩) (fun _ _ _ _ _ h => by cases h)
  have hw : ∀ (i : Nat) (row : Row), (rows1 ++ rows2)[i]? = some row → row.length = sz := by
    intro i row hr
    rw [List.getElem?_append] at hr
    split at hr
    · exact w1 _ _ hr
    · exact w2 _ _ hr
  have key := r.one (n := id) (blk := .arr sz (ver + 1) f' (rows1 ++ rows2)) (m := μ id) evo hcomp
    (fun k hk hn => by
      have hkb : k ≠ b1 := fun e => hn _ c1 hb (by simp) (e ▸ m1)
      exact ⟨setRow_other w b1 k _ hkb, rfl⟩)
    (fun b c _ hm => .inr ⟨_, c, hb, by simp, hm⟩)
    (.inr ⟨b1, c1, _, tt, fr, by simp [m1], setRow_heap w b1 vs _ tt _ m2, fun j hj => m3 j (by simpa [spliceA_size] using hj), hz, by rw [spliceA_size]; exact m5, by simpa using hfit, hw,
      fun i row j p hr hp => by
        have hj : j < sz := by rw [← hw i row hr]; exact (List.getElem?_eq_some_iff.1 hp).1
        rw [List.getElem?_append] at hr
        split at hr
        · rename_i hi
          obtain ⟨u, hu, hq⟩ := k1 i row j p hr hp
          have h3 := Nat.mul_le_mul_right sz (show i + 1 ≤ rows1.length from hi)
          rw [Nat.add_mul] at h3
          refine ⟨u, ?_, hq.evo evo⟩
          rw [get, if_neg (by omega)]; exact hu
        · rename_i hi
          obtain ⟨u, hu, hq⟩ := k2 _ row j p hr hp
          have h3 : (i - rows1.length) * sz + j < news.size := (Array.getElem?_eq_some_iff.1 hu).1
          have h4 : i * sz = rows1.length * sz + (i - rows1.length) * sz := by rw [← Nat.add_mul]; congr 1; omega
          refine ⟨u, ?_, hq.evo evo⟩
          rw [get, if_pos (by simp; omega), Array.getElem?_toList, ← hu]
          congr 1; omega,
      by rw [List.length_append, Nat.add_mul]; omega, ⟨fun h => hG0.1 (hf1 ▸ h), fun h => (hG0.2 (by rw [hf2 h]; exact h)).trans (hf2 h)⟩⟩)
    (fun k hk => r.new k (by simpa using hk))
  rw [ite_self_loc] at key
  exact key

theorem grow_set {rows rows1 : Rows} {id ver sz s c : Nat} {f f' : Bool × Nat} {w' : World} {vs : Array Value} {ty : TypeId} (r : HRel P G w h μ) (hb : h id = some (.arr s ver f rows1)) (g : Grown w w' (.cells vs ty)) (hty : f'.2 ≠ 0 → ty = f'.2) (hz : 0 < sz) (hv : vs.size = c * sz) (hc : rows.length ≤ c)
    (hw : ∀ (i : Nat) (row : Row), rows[i]? = some row → row.length = sz)
    (hr : ∀ (i : Nat) (row : Row) (j : Nat) (p : PV), rows[i]? = some row → row[j]? = some p → ∃ v, vs[i * sz + j]? = some v ∧ RP G w p v) :
    ∃ μ', Mv G w h μ G w' (ins h id (.arr sz (ver + 1) f' rows)) μ' ∧ HRel P G w' (ins h id (.arr sz (ver + 1) f' rows)) μ' ∧ RV G w' (ins h id (.arr sz (ver + 1) f' rows)) μ' (.ref id (ver + 1)) (.slice (some ⟨w.heap.size, 0, none⟩) rows.length c) := by
  have hcomp : Comp h μ (ins h id (.arr sz (ver + 1) f' rows)) (fun j => if j = id then some (w.heap.size, c) else μ j) :=
    comp_set hb _ _ (fun _ _ h => by cases h) (fun _ _ _ _ h => by cases h; exact ⟨_, _, _, _, rfl, .inl (Nat.lt_succ_self _)⟩) (fun _ _ _ _ _ h => by cases h)
  have key := r.one (n := id) (blk := .arr sz (ver + 1) f' rows) (m := some (w.heap.size, c)) (g.evo r.new) hcomp (fun k hk _ => ⟨g.old hk, rfl⟩) (fun b c' _ e => by cases e; exact .inl (Nat.le_refl _))
    (.inr ⟨w.heap.size, c, vs, ty, (0, 0), by simp, g.at, fun j _ => by simp, hz, hv, hc, hw, fun i row j p h1 h2 => let ⟨v, h3, h4⟩ := hr i row j p h1 h2; ⟨v, h3, h4.evo (g.evo r.new)⟩, by rw [r.new _ (Nat.le_refl _)]; exact Nat.zero_le _, ⟨fun _ => r.new _ (Nat.le_refl _), hty⟩⟩)
    (fun b hb => r.new b (by rw [g.heap] at hb; simp at hb; omega))
  refine ⟨_, key.1, key.2, .ref id _ _ _ _ ⟨_, if_pos rfl⟩ (fun sz' v' f2 rows' hh => ?_)⟩
  have hh' : (some (Blk.arr sz (ver + 1) f' rows)) = some (.arr sz' v' f2 rows') := by simpa [ins] using hh
  cases hh'
  exact ⟨Nat.le_refl _, fun _ => by simp [slv]⟩

/-- A list of nothing, of which the world knows nothing. -/
theorem nil_new (r : HRel P G w h μ) {n sz ety : Nat} (hn : h n = none) :
    ∃ μ', Mv G w h μ G w (ins h n (.arr sz 0 (false, ety) [])) μ' ∧ HRel P G w (ins h n (.arr sz 0 (false, ety) [])) μ' ∧ RV G w (ins h n (.arr sz 0 (false, ety) [])) μ' (.ref n 0) (.slice none 0 0) := by
  have key := r.one (n := n) (blk := .arr sz 0 (false, ety) []) (m := none) (Evo.refl G w) (comp_new hn _ _) (fun _ _ _ => ⟨rfl, rfl⟩) (fun b c _ e => by cases e) (.inl ⟨by simp, rfl⟩) r.new
  refine ⟨_, key.1, key.2, .ref n 0 _ _ _ ⟨_, if_pos rfl⟩ (fun sz' v' f' rows' hh => ?_)⟩
  have hh' : (some (Blk.arr sz 0 (false, ety) [])) = some (.arr sz' v' f' rows') := by simpa [ins] using hh
  cases hh'
  exact ⟨Nat.le_refl _, fun _ => by simp [slv]⟩

theorem nil_set (r : HRel P G w h μ) {id sz s ver : Nat} {f f' : Bool × Nat} (hb : h id = some (.arr s ver f [])) (hm : μ id = none) :
    Mv G w h μ G w (ins h id (.arr sz (ver + 1) f' [])) μ ∧ HRel P G w (ins h id (.arr sz (ver + 1) f' [])) μ ∧ RV G w (ins h id (.arr sz (ver + 1) f' [])) μ (.ref id (ver + 1)) (.slice none 0 0) := by
  have hcomp : Comp h μ (ins h id (.arr sz (ver + 1) f' [])) (fun j => if j = id then μ id else μ j) :=
    comp_set hb _ _ (fun _ _ h => by cases h) (fun _ _ _ _ h => by cases h; exact ⟨_, _, _, _, rfl, .inl (Nat.lt_succ_self _)⟩) (fun _ _ _ _ _ h => by cases h)
  have key := r.one (n := id) (blk := .arr sz (ver + 1) f' []) (m := μ id) (Evo.refl G w) hcomp (fun _ _ _ => ⟨rfl, rfl⟩) (fun b c _ e => by rw [hm] at e; cases e) (.inl ⟨by simp [hm], rfl⟩) r.new
  rw [ite_self_loc] at key
  refine ⟨key.1, key.2, .ref id _ _ _ _ ⟨_, if_pos rfl⟩ (fun sz' v' f2 rows' hh => ?_)⟩
  have hh' : (some (Blk.arr sz (ver + 1) f' [])) = some (.arr sz' v' f2 rows') := by simpa [ins] using hh
  cases hh'
  exact ⟨Nat.le_refl _, fun _ => by simp [hm, slv]⟩

theorem o_app (c : Ctx P glob G w h μ t a) {cl : Call} {x y : Operand} {st ut e : TypeId} {i : TypeInfo} {x' y' : RO} {d sz b ety : Nat} {str : Bool} (hety : e = ety) (hop : o.op = .call cl) (hc : cl.callee = .builtin .append) (ha : cl.args.toList = [x, y]) (hat : cl.argTypes.toList = [st, ut])
    (e1 : ckRO x x' = true) (e2 : ckRO y y' = true) (ht : telem P st = some e) (hi : P.info? e = some i) (hsz : i.size = sz) (hz0 : 0 < sz) (hb : i.bytes = b) (hb0 : 0 < b) {z : Value} (hz : i.zero = some z) (hzz : z.cells.size = sz)
    (hu : P.underlying ut = some .string ∨ ∃ e', P.underlying ut = some (.slice e')) (hn : hl.length < res.heap.length → h hl.length = none)
    (hA1 : ∀ id ∈ rowIds (sv (prims glob) t x').1, h id = hl[id]?) (hA2 : ∀ id ∈ rowIds (sv (prims glob) t y').1, h id = hl[id]?)
    (hr : opRun (prims glob) S (.app d sz b ety str x' y') t hl = some (.ok res)) (hk : res.oks.all id = true) :
    ∃ n blk, Chg hl res.heap (rowIds (sv (prims glob) t x').1) n blk ∧ Turn P G w h μ a o (ins h n blk) res.v := by
  have ha' : cl.args = #[x, y] := by rw [← Array.toArray_toList (xs := cl.args), ha]
  have hat' : cl.argTypes = #[st, ut] := by rw [← Array.toArray_toList (xs := cl.argTypes), hat]
  have hrun : ∀ u v w', ev a x = u → (Builtin.append_ #[st, ut] o.type #[u, ev a y]).run P w = .ok v w' → (execOp (ev a) o).run P w = .ok (.value v) w' := by
    intro u v w' hu hv
    simp only [execOp, hop, resolve, hc, invoke, builtin, ha', hat', Sem.run_bind, Sem.run_pure, Result.andThen_ok, List.map_toArray, List.map_cons, List.map_nil, hu, hv]
  have hbb : 0 < i.bytes := by omega
  have gc : ∀ need old : Nat, need ≤ grownCap w need old e := fun need old => grownCap_ge w need old e
  simp only [opRun] at hr
  split at hr
  · -- nothing yet
    cases hr
    rename_i rows2 k2 k1 hro hs
    have hn0 := hn (by simp)
    clear hn
    have hn := hn0
    simp only [List.all_append, Bool.and_eq_true, List.all_cons, List.all_nil, id, and_true] at hk
    obtain ⟨⟨⟨hky, hk2⟩, hk1⟩, hk3⟩ := hk
    have ex := (sv_rv' c.tr c.gr e1 hs hk1).nils_inv
    obtain ⟨news, f1, f2, f3, f4, f5, f6⟩ := cells_of c.hr (sv_rv c.tr c.gr e2 hky) hA2 hro hk2 hz0
    have hfs : ∀ w' : World, w'.heap = w.heap → (Builtin.firstCells sz 0 (.slice none 0 0)).run P w' = .ok #[] w' := fun w' _ => by simp [Builtin.firstCells]
    obtain ⟨g1, g2⟩ := r_append (ty := o.type) ht hi hz hsz hbb hu f2 f1 hfs (w := w)
    have hlim := lim_inv hk3
    rcases Nat.eq_zero_or_pos rows2.length with h0 | h0
    · have : rows2 = [] := List.eq_nil_of_length_eq_zero h0
      subst this
      obtain ⟨μ', k1, k2, k3⟩ := nil_new (sz := sz) (ety := ety) c.hr hn
      exact ⟨_, _, .inl ⟨rfl, rfl⟩, _, _, w, G, μ', hrun _ _ _ ex (g1 (by simp)), .inl rfl, k1, k2, by simpa using k3⟩
    · have g2 := g2 (by omega) (by rw [Nat.zero_add, hb]; omega)
      obtain ⟨q1, q2⟩ := two_get (olds := #[]) (news := news) (rest := Builtin.zeroCells z.cells (grownCap w (0 + rows2.length) 0 e - (0 + rows2.length))) (rows1 := []) (rows2 := rows2) (sz := sz) (G := G) (w := w) (by simp) f3 (by simp) f4 (by simp) f5
      obtain ⟨μ', k1, k2, k3⟩ := grow_arr (rows := rows2) (fr := (0, 0)) c.hr (grown_drew w _) (fun j _ => by simp) hn (ety := ety) (fun _ => hety) hz0
        (size_two (olds := #[]) (n1 := 0) (by simp) f3 hzz (gc (0 + rows2.length) 0)) (by have := gc (0 + rows2.length) 0; omega) (by simpa using q1) (by simpa using q2)
      exact ⟨_, _, .inl ⟨rfl, rfl⟩, _, _, _, G, μ', hrun _ _ _ ex g2, .inl rfl, k1, k2, by simpa using k3⟩
  · -- a full list
    cases hr
    rename_i rows2 k2 rows1 k1 hro hs
    have hn0 := hn (by simp)
    clear hn
    have hn := hn0
    simp only [List.all_append, Bool.and_eq_true, List.all_cons, List.all_nil, id, and_true] at hk
    obtain ⟨⟨⟨hky, hk2⟩, hk1⟩, hk3, hk4, hk5⟩ := hk
    have hx := sv_rv' c.tr c.gr e1 hs hk1
    obtain ⟨ad, ex, -⟩ := hx.full_inv
    obtain ⟨news, f1, f2, f3, f4, f5, f6⟩ := cells_of c.hr (sv_rv c.tr c.gr e2 hky) hA2 hro hk2 hz0
    obtain ⟨olds, d1, d2, d3, d4, d5, d6⟩ := cells_of (glob := glob) (rows := rows1) (str := false) (sz := sz) (k := [(prims glob).rowsOk false (.list rows1) sz]) c.hr hx (by simp [rowIds]) (hl := hl) (by simp [rowsOf]) (by simpa using hk4) hz0
    rw [ex] at d1
    obtain ⟨g1, g2⟩ := r_append (ty := o.type) ht hi hz hsz hbb hu f2 f1 d1 (w := w)
    obtain ⟨_, _, he, -, hpos, -⟩ := natOk_inv hk3
    have hlim := lim_inv hk5
    cases he
    have hrl : ((prims glob).rapp rows1 rows2) = rows1 ++ rows2 := rfl
    rw [hrl] at hlim ⊢
    rw [List.length_append] at hlim
    have g2 := g2 (by omega) (by rw [hb]; exact hlim)
    obtain ⟨q1, q2⟩ := two_get (rest := Builtin.zeroCells z.cells (grownCap w (rows1.length + rows2.length) rows1.length e - (rows1.length + rows2.length))) (G := G) (w := w) d3 f3 d4 f4 d5 f5
    obtain ⟨μ', k1, k2, k3⟩ := grow_arr (rows := rows1 ++ rows2) (fr := (0, 0)) c.hr (grown_drew w _) (fun j _ => by simp) hn (ety := ety) (fun _ => hety) hz0
      (size_two d3 f3 hzz (gc (rows1.length + rows2.length) rows1.length)) (by rw [List.length_append]; exact gc _ _) q1 q2
    rw [List.length_append] at k3
    exact ⟨_, _, .inl ⟨rfl, rfl⟩, _, _, _, G, μ', hrun _ _ _ ex g2, .inl rfl, k1, k2, k3⟩
  · -- one of ours
    rename_i rows2 k2 id0 ver k1 hro hs
    split at hr <;> try cases hr
    rename_i s v f rows1 hcc
    split at hr <;> cases hr
    rename_i hcond
    simp only [Bool.and_eq_true, decide_eq_true_eq, Bool.or_eq_true, beq_iff_eq] at hcond
    obtain ⟨rfl, hss⟩ := hcond
    simp only [List.all_append, Bool.and_eq_true, List.all_cons, List.all_nil, id, and_true] at hk
    obtain ⟨⟨⟨hky, hk2⟩, hk1⟩, hk3⟩ := hk
    have hx := sv_rv' c.tr c.gr e1 hs hk1
    obtain ⟨ad, n, cc, ex, hd, hv⟩ := hx.ref_inv
    rw [hs] at hA1 ⊢
    have hlt : id0 < hl.length := (List.getElem?_eq_some_iff.1 hcc).1
    have hbk : h id0 = some (.arr s v f rows1) := (hA1 id0 (by simp [rowIds])).trans hcc
    have hsl := (hv _ _ _ _ hbk).2 rfl
    have hlim := lim_inv hk3
    have hrl : ((prims glob).rapp rows1 rows2) = rows1 ++ rows2 := rfl
    rw [hrl] at hlim ⊢
    rw [List.length_append] at hlim
    obtain ⟨news, f1, f2, f3, f4, f5, f6⟩ := cells_of c.hr (sv_rv c.tr c.gr e2 hky) hA2 hro hk2 hz0
    have chg : ∀ blk, Chg hl (hl.set id0 blk) (rowIds (.ref id0 v)) id0 blk := fun blk => .inr ⟨hlt, by simp [rowIds], rfl⟩
    rcases c.hr.own _ _ hbk with ⟨m1, rfl⟩ | ⟨b1, c1, vs, tt, fr, m1, m2, m3, m4, m5, m7, m8, m9, m10, m11⟩
    · rw [m1, slv] at hsl
      rw [hsl] at ex
      have hfs : ∀ w' : World, w'.heap = w.heap → (Builtin.firstCells sz 0 (.slice none 0 0)).run P w' = .ok #[] w' := fun w' _ => by simp [Builtin.firstCells]
      obtain ⟨g1, g2⟩ := r_append (ty := o.type) ht hi hz hsz hbb hu f2 f1 hfs (w := w)
      rcases Nat.eq_zero_or_pos rows2.length with h0 | h0
      · have : rows2 = [] := List.eq_nil_of_length_eq_zero h0
        subst this
        obtain ⟨k1, k2, k3⟩ := nil_set (sz := sz) (f' := fxApp f s ety) c.hr hbk m1
        exact ⟨_, _, chg _, _, _, w, G, μ, hrun _ _ _ ex (g1 (by simp)), .inl rfl, k1, k2, by simpa using k3⟩
      · have g2 := g2 (by omega) (by rw [Nat.zero_add, hb]; simp at hlim; omega)
        obtain ⟨q1, q2⟩ := two_get (olds := #[]) (news := news) (rest := Builtin.zeroCells z.cells (grownCap w (0 + rows2.length) 0 e - (0 + rows2.length))) (rows1 := []) (rows2 := rows2) (sz := sz) (G := G) (w := w) (by simp) f3 (by simp) f4 (by simp) f5
        obtain ⟨μ', k1, k2, k3⟩ := grow_set (rows := rows2) (sz := sz) c.hr hbk (f' := fxApp f s ety) (grown_drew w _) (fun h => (hety.trans (fxApp_ety h).symm)) hz0
          (size_two (olds := #[]) (n1 := 0) (by simp) f3 hzz (gc (0 + rows2.length) 0)) (by have := gc (0 + rows2.length) 0; omega) (by simpa using q1) (by simpa using q2)
        exact ⟨_, _, chg _, _, _, _, G, μ', hrun _ _ _ ex g2, .inl rfl, by simpa using k1, by simpa using k2, by simpa using k3⟩
    · rw [m1, slv] at hsl
      rw [hsl] at ex
      have hs' : s = sz := by omega
      subst hs'
      obtain ⟨olds, d1, d2, d3, d4, d5, d6⟩ := cells_of (glob := glob) (str := false) (sz := s) (rows := rows1) (k := []) c.hr hx (by simpa using hA1) (hl := hl) (by simp [rowsOf, hcc]) (by simp) hz0
      rw [ex] at d1
      obtain ⟨g1, g2⟩ := r_append (ty := o.type) ht hi hz hsz hbb hu f2 f1 d1 (w := w)
      rcases Nat.lt_or_ge c1 (rows1.length + rows2.length) with hgr | hfit
      · have g2 := g2 hgr (by rw [hb]; exact hlim)
        obtain ⟨q1, q2⟩ := two_get (rest := Builtin.zeroCells z.cells (grownCap w (rows1.length + rows2.length) c1 e - (rows1.length + rows2.length))) (G := G) (w := w) d3 f3 d4 f4 d5 f5
        obtain ⟨μ', k1, k2, k3⟩ := grow_set (rows := rows1 ++ rows2) (sz := s) c.hr hbk (f' := fxApp f s ety) (grown_drew w _) (fun h => (hety.trans (fxApp_ety h).symm)) hz0
          (size_two d3 f3 hzz (gc (rows1.length + rows2.length) c1)) (by rw [List.length_append]; exact gc _ _) q1 q2
        rw [List.length_append] at k3
        exact ⟨_, _, chg _, _, _, _, G, μ', hrun _ _ _ ex g2, .inl rfl, k1, k2, k3⟩
      · have g1 := g1 hfit
        obtain ⟨k1, k2⟩ := app_set (rows2 := rows2) (f' := fxApp f s ety) c.hr hbk m1 m2 m3 m4 m5 hfit m8 f4 m9 m10 m11 rfl (fxApp_keep (by omega)) f3 f5
        have hst := run_store_splice (P := P) b1 (rows1.length * s) tt fr news.toList 0 vs w m2 (by
          have := Nat.mul_le_mul_right s hfit
          rw [Nat.add_mul] at this
          simp [f3]; omega) m3 f6
        simp only [add_plain, Nat.zero_add] at g1
        rw [hst] at g1
        refine ⟨_, _, chg _, _, _, _, G, μ, hrun _ _ _ ex g1, .inl rfl, k1, k2, .ref id0 _ _ _ _ ⟨_, if_pos rfl⟩ (fun sz' v' f' rows' hh => ?_)⟩
        have hh' : (some (Blk.arr s (v + 1) (fxApp f s ety) (rows1 ++ rows2))) = some (.arr sz' v' f' rows') := by simpa [ins] using hh
        cases hh'
        exact ⟨Nat.le_refl _, fun _ => by simp [m1, slv]⟩
  · cases hr
end
end AI
end

section
namespace AI
open Go

section
variable {P : Program} {glob : Nat → Row} {G : Ghost} {w : World} {h : HF} {μ : Loc}
variable {t : List LV} {a : Array Value} {o : Oper} {S : SFn} {hl : List Blk} {res : OpR}

theorem Ctx.mv {G' : Ghost} {w' : World} {h' : HF} {μ' : Loc} (c : Ctx P glob G w h μ t a) (m : Mv G w h μ G' w' h' μ') (r : HRel P G' w' h' μ') : Ctx P glob G' w' h' μ' t a :=
  ⟨c.tr.evo m.evo m.comp, c.gr.evo m.evo, r⟩

theorem freezeRow_rv {n : Nat} {x : LV} {v : Value} {r : Row} {hl' : List Blk} {k : List Bool} (hh : HRel P G w (lift hl) μ) (hx : RV G w (lift hl) μ x v) (e : freezeRow (prims glob) hl n x = some (r, hl', k)) (hk : k.all id = true) (hw : (widOk (prims glob) n x).all id = true ∨ True) :
    ∃ G', Mv G w (lift hl) μ G' w (lift hl') μ ∧ HRel P G' w (lift hl') μ ∧ hl'.length = hl.length ∧ v.cells.size = n ∧ r.length = n ∧ ∀ (j : Nat) (p : PV) (c : Value), r[j]? = some p → v.cells[j]? = some c → RP G' w p c := by
  unfold freezeRow at e
  split at e
  · cases e
    obtain ⟨cs, rfl, hl1, hr⟩ := hx.prow_inv
    simp [prims] at hk
    exact ⟨G, Mv.refl .., hh, rfl, by simp only [Value.cells]; omega, hk, hr⟩
  · rename_i hnp
    split at e <;> try cases e
    rename_i l hl0
    split at e <;> cases e
    rename_i hf
    have hwid : (widOk (prims glob) n x).all id = true := by
      unfold widOk
      split
      · exact absurd rfl (hnp _)
      · rfl
    obtain ⟨s1, s2, s3⟩ := cellsOf_rv hx hl0 hwid
    obtain ⟨G', f1, f2, f3, -, f4, f5⟩ := freezeAll_rv depth (vs := v.cells.toList) hh (by simp [s1, s2]) (fun j y u hy hu => (s3 j y u hy (by simpa using hu)).1) hf
    exact ⟨G', f1, f2, f3, s1, by simpa [s1] using f4, fun j p c hp hc => f5 j p c hp (by simpa using hc)⟩

/-- The rows of a list that is built. -/
theorem rowParts_rv : ∀ {ps : List (Nat × Operand)} {qs : List RO} {hl hl' : List Blk} {G : Ghost} {k0 sz : Nat} {rs : Rows} {ks : List Bool}, Ctx P glob G w (lift hl) μ t a → ckElems k0 ps qs = true →
    rowParts (prims glob) t sz hl qs = some (rs, hl', ks) → ks.all id = true →
    ∃ G', Mv G w (lift hl) μ G' w (lift hl') μ ∧ HRel P G' w (lift hl') μ ∧ hl'.length = hl.length ∧ rs.length = ps.length ∧ qs.length = ps.length ∧
      ∀ (i : Nat) (r : Row) (q : Nat × Operand), rs[i]? = some r → ps[i]? = some q → q.1 = k0 + i ∧ r.length = sz ∧ (ev a q.2).cells.size = sz ∧ ∀ (j : Nat) (p : PV) (c : Value), r[j]? = some p → (ev a q.2).cells[j]? = some c → RP G' w p c
  | [], [], hl, hl', G, k0, sz, rs, ks, c, _, e, _ => by
    simp [rowParts] at e; obtain ⟨rfl, rfl, rfl⟩ := e
    exact ⟨G, Mv.refl .., c.hr, rfl, rfl, rfl, fun i r q h => by simp at h⟩
  | (i, x) :: ps, y :: qs, hl, hl', G, k0, sz, rs, ks, c, hc, e, hk => by
    simp only [ckElems, Bool.and_eq_true, beq_iff_eq] at hc
    obtain ⟨⟨rfl, e1⟩, e2⟩ := hc
    simp only [rowParts] at e
    split at e <;> try cases e
    rename_i r h1 k1 hf
    split at e <;> cases e
    rename_i rs' k2 hrec
    simp only [List.all_append, Bool.and_eq_true] at hk
    obtain ⟨⟨hk0, hk1⟩, hk2⟩ := hk
    obtain ⟨G1, f1, f2, f3, f4, f5, f6⟩ := freezeRow_rv c.hr (sv_rv c.tr c.gr e1 hk0) hf hk1 (.inr trivial)
    obtain ⟨G2, g1, g2, g3, g4, g5, g6⟩ := rowParts_rv (c.mv f1 f2) e2 hrec hk2
    refine ⟨G2, f1.trans g1, g2, g3.trans f3, by simp [g4], by simp [g5], fun j r' q hr hq => ?_⟩
    cases j with
    | zero => simp at hr hq; subst hr; subst hq; exact ⟨rfl, f5, f4, fun j p c hp hc => (f6 j p c hp hc).evo g1.evo⟩
    | succ j =>
      simp at hr hq
      obtain ⟨q1, q2⟩ := g6 j r' q hr hq
      exact ⟨by omega, q2⟩
  | [], _ :: _, _, _, _, _, _, _, _, _, hc, _, _ => by simp [ckElems] at hc
  | _ :: _, [], _, _, _, _, _, _, _, _, hc, _, _ => by simp [ckElems] at hc

/-- The cells of a list that is built. -/
theorem fill_elems {sz : Nat} : ∀ {ps : List (Nat × Value)} {k : Nat} {cells : Array Value}, (∀ (i : Nat) (q : Nat × Value), ps[i]? = some q → q.1 = k + i ∧ q.2.cells.size = sz) → (k + ps.length) * sz ≤ cells.size →
    ∃ cells', Instr.fill (fun i => some (i * sz, sz)) cells ps = some cells' ∧ cells'.size = cells.size ∧ (∀ j, j < k * sz → cells'[j]? = cells[j]?) ∧
      ∀ (i : Nat) (q : Nat × Value) (j : Nat), ps[i]? = some q → j < sz → cells'[(k + i) * sz + j]? = q.2.cells[j]?
  | [], k, cells, _, _ => ⟨cells, rfl, rfl, fun _ _ => rfl, fun i q j h => by simp at h⟩
  | (i, v) :: ps, k, cells, hp, hs => by
    obtain ⟨rfl, hv⟩ : i = k ∧ v.cells.size = sz := hp 0 (i, v) rfl
    simp only [List.length_cons] at hs
    have hks : (i + 1) * sz ≤ cells.size := Nat.le_trans (Nat.mul_le_mul_right sz (by omega)) hs
    have hfit : ¬ (i * sz + sz > cells.size) := by rw [Nat.add_mul] at hks; omega
    have hz : v.cells.zipIdx.foldl (fun cs (c, j) => cs.setIfInBounds (i * sz + j) c) cells = spliceA cells (i * sz) v.cells.toList := by
      have := spliceA_fill (i * sz) v.cells.toList 0 cells
      rw [Nat.add_zero] at this
      rw [← this, ← Array.foldl_toList]
      simp
    obtain ⟨cells', f1, f2, f3, f4⟩ := fill_elems (sz := sz) (ps := ps) (k := i + 1) (cells := spliceA cells (i * sz) v.cells.toList) (fun i' q hq => by
      have := hp (i' + 1) q (by simpa using hq)
      exact ⟨by omega, this.2⟩) (by rw [spliceA_size]; rw [show i + 1 + ps.length = i + (ps.length + 1) by omega]; exact hs)
    have hlen : i * sz + v.cells.toList.length ≤ cells.size := by simp [hv]; omega
    refine ⟨cells', ?_, by rw [f2, spliceA_size], fun j hj => ?_, fun i' q j hq hj => ?_⟩
    · simp only [Instr.fill, hv, ne_eq, not_true_eq_false, decide_false, Bool.false_or, hfit, Bool.false_eq_true, if_false, hz, f1]
    · rw [f3 j (by rw [Nat.add_mul]; omega), spliceA_get _ _ _ _ hlen, if_neg (by omega)]
    · cases i' with
      | zero =>
        simp at hq; subst hq
        rw [Nat.add_zero, f3 _ (by rw [Nat.add_mul]; omega), spliceA_get _ _ _ _ hlen, if_pos (by simp [hv]; omega), Nat.add_sub_cancel_left]
        simp
      | succ i' =>
        simp at hq
        have := f4 i' q j hq hj
        rwa [show i + 1 + i' = i + (i' + 1) by omega] at this

theorem o_mksl (c : Ctx P glob G w (lift hl) μ t a) {ty e sz n d : Nat} {ps : Array (Nat × Operand)} {qs : List RO} (hop : o.op = .buildSlice ty n ps) (h1 : telem P ty = some e) (h2 : tsize P e = some sz) (h3 : (P.info? e).any (·.zero.isSome) = true)
    (h4 : n = qs.length) (h5 : 0 < sz) (h6 : n * sz ≤ 2 ^ 24) (h7 : ckElems 0 ps.toList qs = true)
    (hr : opRun (prims glob) S (.mksl d sz qs) t hl = some (.ok res)) (hk : res.oks.all id = true) : Turn P G w (lift hl) μ a o (lift res.heap) res.v := by
  simp only [opRun] at hr
  split at hr <;> cases hr
  rename_i rs h1' ks hrp
  obtain ⟨G1, g1, g2, g3, g4, g5, g6⟩ := rowParts_rv c h7 hrp hk
  unfold telem at h1
  split at h1 <;> cases h1
  rename_i hu
  cases hi : P.info? e with
  | none => simp [hi] at h3
  | some i =>
    obtain ⟨z, hz⟩ : ∃ z, i.zero = some z := by simpa [hi, Option.isSome_iff_exists] using h3
    have hsz : i.size = sz := sizeOf_info h2 hi
    have hn : ps.toList.length = n := by rw [h4, g5]
    obtain ⟨cells', f1, f2, -, f4⟩ := fill_elems (sz := sz) (ps := ps.toList.map fun (i, x) => (i, ev a x)) (k := 0) (cells := (Array.range (n * sz)).map (z.cells[· % z.cells.size]!)) (fun i' q hq => by
      simp only [List.getElem?_map, Option.map_eq_some_iff] at hq
      obtain ⟨q0, hq0, rfl⟩ := hq
      have hlt : i' < rs.length := by rw [g4]; exact (List.getElem?_eq_some_iff.1 hq0).1
      obtain ⟨k1, k2, k3, -⟩ := g6 i' _ q0 (List.getElem?_eq_getElem hlt) hq0
      exact ⟨k1, k3⟩) (by simp only [List.length_map, hn]; simp)
    have hcs : cells'.size = n * sz := by rw [f2]; simp
    have hnone : lift h1' h1'.length = none := List.getElem?_eq_none (Nat.le_refl _)
    obtain ⟨μ', k1, k2, k3⟩ := grow_arr (rows := rs) (fr := (0, 0)) (c := n) g2 (grown_alloc w (.cells cells' e)) (fun j _ => by simp) hnone (ety := 0) (fun h => absurd rfl h) h5 hcs (by rw [g4, hn]; exact Nat.le_refl _)
      (fun i' row hrow => by
        have hlt : i' < ps.toList.length := by rw [← g4]; exact (List.getElem?_eq_some_iff.1 hrow).1
        exact (g6 i' row _ hrow (List.getElem?_eq_getElem hlt)).2.1)
      (fun i' row j p hrow hp => by
        have hlt : i' < ps.toList.length := by rw [← g4]; exact (List.getElem?_eq_some_iff.1 hrow).1
        obtain ⟨q1, q2, q3, q4⟩ := g6 i' row _ hrow (List.getElem?_eq_getElem hlt)
        have hj : j < sz := by rw [← q2]; exact (List.getElem?_eq_some_iff.1 hp).1
        have hjv : j < (ev a ps.toList[i'].2).cells.size := by rw [q3]; exact hj
        have := f4 i' (ps.toList[i'].1, ev a ps.toList[i'].2) j (by simp [List.getElem?_eq_getElem hlt]) hj
        rw [Nat.zero_add] at this
        exact ⟨_, by rw [this]; exact Array.getElem?_eq_getElem hjv, q4 j p _ hp (Array.getElem?_eq_getElem hjv)⟩)
    rw [show rs.length = n by rw [g4, hn]] at k3
    have hrun : (Instr.buildSlice ty n (ps.map fun (i, x) => (i, ev a x))).run P w = .ok (.slice (some ⟨w.heap.size, 0, none⟩) n n) (w.alloc (.cells cells' e)) := by
      have hbig : ¬ (n * sz > 2 ^ 24) := by omega
      have f1' : Instr.fill (fun i => some (i * sz, sz)) ((Array.range (n * sz)).map (z.cells[· % z.cells.size]!)) (ps.map fun (i, x) => (i, ev a x)).toList = some cells' := by
        rw [Array.toList_map]; exact f1
      simp only [Instr.buildSlice, Sem.run_bind, r_underlying w hu, Result.andThen_ok, r_sizeOf w h2, hbig, if_false]
      by_cases h0 : n * sz = 0
      · have hn0 : n = 0 := by rcases Nat.mul_eq_zero.1 h0 with h | h <;> omega
        have hps : ps.toList = [] := List.eq_nil_of_length_eq_zero (by omega)
        have hps' : ps = #[] := by rw [← Array.toArray_toList (xs := ps), hps]
        subst hn0
        have : cells' = #[] := by
          apply Array.eq_empty_of_size_eq_zero; rw [hcs]; simp
        subst this
        subst hps'
        have hr0 : Array.range 0 = #[] := rfl
        simp [Instr.fill, newRow, hr0]
      · simp only [h0, if_false, Sem.run_bind, zeroValue, typeInfo, run_program, Result.andThen_ok, hi, hz, Sem.run_pure, f1', newRow, run_newObj]
        rfl
    have hh' : lift (h1' ++ [.arr sz 0 (false, 0) rs]) = ins (lift h1') h1'.length (.arr sz 0 (false, 0) rs) := lift_append _ _
    show Turn P G w (lift hl) μ a o (lift (h1' ++ [.arr sz 0 (false, 0) rs])) (.ref h1'.length 0)
    rw [hh']
    exact ⟨_, _, _, G1, μ', by simp only [execOp, hop, Sem.run_bind, hrun, Result.andThen_ok, Sem.run_pure]; try rfl, .inl rfl, g1.trans k1, k2, k3⟩

theorem freeze_refD {id ver : Nat} {p : PV} {hl' : List Blk} (e : freeze depth hl (.ref id ver) = some (p, hl')) :
    ∃ sz f rows, hl[id]? = some (.arr sz ver f rows) ∧ p = .list rows ∧ hl' = hl.set id (.arr sz ver (true, f.2) rows) := by
  unfold depth at e
  simp only [freeze] at e
  split at e <;> try cases e
  rename_i sz v f rows hb
  split at e <;> cases e
  rename_i hv; subst hv
  exact ⟨sz, f, rows, hb, rfl, rfl⟩

theorem o_subR (c : Ctx P glob G w (lift hl) μ t a) {ty : TypeId} {x : Operand} {lo hi : Option Operand} {y : RO} {lo' hi' : Option RO} {d sz id0 ver : Nat} {k0 : List Bool} {str : Bool} (hop : o.op = .slice ty x lo hi none) (e1 : ckRO x y = true) (e2 : ckRO? lo lo' = true) (e3 : ckRO? hi hi' = true)
    (ht : (if str then isStr P ty else (match telem P ty with | some e => tsize P e == some sz | none => false)) = true) (hs : sv (prims glob) t y = (.ref id0 ver, k0)) (hne : ¬ (lo' = none ∧ hi' = none))
    (hr : opRun (prims glob) S (.sub d str sz y lo' hi') t hl = some (.ok res)) (hk : res.oks.all id = true) : Turn P G w (lift hl) μ a o (lift res.heap) res.v := by
  simp only [opRun, hs] at hr
  split at hr
  · rename_i e1' _ _; cases e1'
  · rename_i id1 ver1 k pl k1 ph k2 hs' hp1 hp2
    cases hs'
    split at hr <;> try cases hr
    rename_i hst
    split at hr
    · exfalso
      refine hne ⟨?_, ?_⟩
      · rcases pvOf?_some hp1 with ⟨h1, -⟩ | ⟨_, _, _, h1, -⟩
        · exact h1
        · cases h1
      · rcases pvOf?_some hp2 with ⟨h1, -⟩ | ⟨_, _, _, h1, -⟩
        · exact h1
        · cases h1
    · split at hr <;> try cases hr
      rename_i s v f rows hb
      split at hr <;> try cases hr
      rename_i hss
      simp only [Bool.or_eq_true, beq_iff_eq] at hss
      split at hr <;> cases hr
      rename_i p h' hf
      obtain ⟨sz', f', rows', hb', rfl, rfl⟩ := freeze_refD hf
      rw [hb] at hb'; cases hb'
      simp only [List.all_append, Bool.and_eq_true, List.all_cons, List.all_nil, id, and_true] at hk
      obtain ⟨⟨⟨hk0, hk1⟩, hk2⟩, hk3⟩ := hk
      have hx := sv_rv' c.tr c.gr e1 hs hk0
      obtain ⟨G1, g1, g2, g3, g4, g5, -⟩ := seal_ref c.hr hb hx
      have hk3' : pCutOk false (.list rows) pl ph = true := hk3
      simp only [pCutOk, Bool.and_eq_true] at hk3'
      obtain ⟨⟨-, hb2⟩, hb1⟩ := hk3'
      rw [if_neg hst] at ht
      cases hte : telem P ty with
      | none => simp [hte] at ht
      | some e =>
        simp only [hte, beq_iff_eq] at ht
        obtain ⟨ad, cc, ex, hc, -⟩ := g3.list_inv
        obtain ⟨hbd, hle1, hle2⟩ := r_sliceBounds (b := true) c e2 e3 hp1 hp2 hk1 hk2 hc hb2 hb1
        refine ⟨_, _, w, G1, μ, by simp only [execOp, hop, ex, Option.map_none, Sem.run_bind, r_sliceAt_list hte ht hbd, Result.andThen_ok, Sem.run_pure]; try rfl, .inl rfl, g1, g2, .pv _ _ ?_⟩
        rw [ex] at g3
        refine cut_rv g3 (fun i row hrow => ?_) hle1 hle2 (by omega)
        rcases hss with rfl | rfl
        · exact g4 i row hrow
        · rcases g5 with h0 | rfl
          · omega
          · simp at hrow
  · cases hr

theorem flatten_get : ∀ {rows : Rows} {j : Nat} {p : PV}, (∀ (i : Nat) (row : Row), rows[i]? = some row → row.length = 1) → rows.flatten[j]? = some p → ∃ row, rows[j]? = some row ∧ row[0]? = some p
  | [], j, p, _, h => by simp at h
  | row :: rows, j, p, hw, h => by
    have h1 := hw 0 row rfl
    match row, h1 with
    | [x], _ =>
      cases j with
      | zero => simp at h; exact ⟨[x], rfl, by simp [h]⟩
      | succ j =>
        simp at h
        obtain ⟨r, k1, k2⟩ := flatten_get (rows := rows) (fun i row hr => hw (i + 1) row (by simpa using hr)) h
        exact ⟨r, by simpa using k1, k2⟩

theorem o_s2ap (c : Ctx P glob G w (lift hl) μ t a) {ty e : TypeId} {x : Operand} {y : RO} {d n : Nat} (hop : o.op = .sliceToArrayPointer ty x) (e1 : ckRO x y = true) (h1 : tarr P ty = some (n, e)) (h2 : 0 < n)
    (hr : opRun (prims glob) S (.s2ap d n y) t hl = some (.ok res)) (hk : res.oks.all id = true) : Turn P G w (lift hl) μ a o (lift res.heap) res.v := by
  simp only [opRun] at hr
  split at hr <;> try cases hr
  rename_i id0 ver k hs
  split at hr <;> try cases hr
  rename_i sz v f rows hb
  split at hr <;> cases hr
  rename_i hcond
  simp only [Bool.and_eq_true, decide_eq_true_eq, beq_iff_eq] at hcond
  obtain ⟨rfl, rfl⟩ := hcond
  simp only [List.all_append, Bool.and_eq_true, List.all_cons, List.all_nil, id, and_true] at hk
  have hn : n ≤ rows.length := by simpa [prims] using hk.2
  have hx := sv_rv' c.tr c.gr e1 hs hk.1
  obtain ⟨G1, g1, g2, g3, g4, g5, g6, g7⟩ := seal_ref c.hr hb hx
  unfold tarr at h1
  split at h1 <;> cases h1
  rename_i hu
  cases hm : μ id0 with
  | none => have := g6 hm; subst this; simp at hn; omega
  | some bc =>
    obtain ⟨b, cc⟩ := bc
    obtain ⟨ex, hG⟩ := g7 b cc hm
    have hlt : ¬ (rows.length < n) := by omega
    have hb2 : lift (hl.set id0 (.arr 1 v (true, f.2) rows)) id0 = some (.arr 1 v (true, f.2) rows) := by
      have : id0 < hl.length := (List.getElem?_eq_some_iff.1 hb).1
      simp [lift, this]
    rcases g2.own _ _ hb2 with ⟨m1, -⟩ | ⟨b1, c1, vs, tt, fr, m1, m2, m3, m4, m5, m7, m8, m9, m10, m11⟩
    · rw [hm] at m1; cases m1
    obtain ⟨rfl, rfl⟩ : b1 = b ∧ c1 = cc := by rw [hm] at m1; cases m1; exact ⟨rfl, rfl⟩
    have cell : ∀ (j : Nat) (p : PV), rows.flatten[j]? = some p → ∃ u, vs[j]? = some u ∧ RP G1 w p u ∧ j < rows.length := by
      intro j p hp
      obtain ⟨row, r1, r2⟩ := flatten_get g4 hp
      obtain ⟨u, hu, hq⟩ := m9 j row 0 p r1 r2
      exact ⟨u, by simpa using hu, hq, (List.getElem?_eq_some_iff.1 r1).1⟩
    refine ⟨_, _, w, G1, μ, by simp only [execOp, hop, ex, Instr.arrayAt, Sem.run_bind, r_underlying w hu, Result.andThen_ok, hlt, if_false, Sem.run_pure]; try rfl, .inl rfl, g1, g2, ?_⟩
    refine .fp _ 0 b1 0 (fun j => vs.getD j undef) (fun j p hp => ?_) (fun j p hp => ?_)
    · obtain ⟨u, hu, hq, hj⟩ := cell j p hp
      rw [Nat.zero_add, blk_cell m2, hu]
      exact ⟨by simp [Array.getD_eq_getD_getElem?, hu], by omega⟩
    · obtain ⟨u, hu, hq, hj⟩ := cell j p hp
      simpa [Array.getD_eq_getD_getElem?, hu] using hq

theorem o_storeE (c : Ctx P glob G w (lift hl) μ t a) {ty : TypeId} {x y : Operand} {x' y' : RO} {n i0 ver j0 off : Nat} {k : List Bool} (hop : o.op = .store ty x y) (e1 : ckRO x x' = true) (e2 : ckRO y y' = true) (e3 : tsize P ty = some n)
    (hs : sv (prims glob) t x' = (.elt i0 ver j0 off, k))
    (hr : opRun (prims glob) S (.store n x' y') t hl = some (.ok res)) (hk : res.oks.all id = true) : Turn P G w (lift hl) μ a o (lift res.heap) res.v := by
  simp only [opRun, hs] at hr
  split at hr <;> try cases hr
  rename_i sz v f rows hb
  split at hr <;> try cases hr
  rename_i hcond
  simp only [Bool.and_eq_true, decide_eq_true_eq, Bool.not_eq_true'] at hcond
  obtain ⟨⟨rfl, hoff⟩, hff⟩ := hcond
  split at hr <;> try cases hr
  rename_i r h' k3 hf
  split at hr <;> try cases hr
  rename_i sz' v' ty' rows' hb'
  split at hr <;> cases hr
  rename_i hcond2
  simp only [Bool.and_eq_true, decide_eq_true_eq, beq_iff_eq] at hcond2
  obtain ⟨rfl, rfl⟩ := hcond2
  simp only [List.all_append, Bool.and_eq_true] at hk
  obtain ⟨⟨hk1, hk2⟩, hk3⟩ := hk
  obtain ⟨G1, g1, g2, g3, s1, s2, s3⟩ := freezeRow_rv c.hr (sv_rv c.tr c.gr e2 hk2) hf hk3 (.inr trivial)
  have c1 := c.mv g1 g2
  obtain ⟨b, o', ex, hd, hv⟩ := (sv_rv' c1.tr c1.gr e1 hs hk1).elt_inv
  obtain ⟨hj0, rfl, cc, hm⟩ := (hv _ _ _ _ hb').2 rfl
  have hlt : i0 < h'.length := (List.getElem?_eq_some_iff.1 hb').1
  rcases g2.own _ _ hb' with ⟨m1, -⟩ | ⟨b1, c1', vs, tt, fr, m1, m2, m3, m4, m5, m7, m8, m9, m10, m11⟩
  · rw [hm] at m1; cases m1
  obtain rfl : b1 = b := by rw [hm] at m1; cases m1; rfl
  have hbnd : (j0 + 1) * sz' ≤ vs.size := by rw [m5]; exact Nat.mul_le_mul_right _ (by omega)
  rw [Nat.add_mul] at hbnd
  have hlen : j0 * sz' + off + (ev a y).cells.toList.length ≤ vs.size := by simp [s1]; omega
  have hone : ∀ u ∈ (ev a y).cells.toList, one u = true := fun u hu => by
    obtain ⟨j, hj⟩ := List.mem_iff_getElem?.1 hu
    have hj' : j < (ev a y).cells.size := by have := (List.getElem?_eq_some_iff.1 hj).1; simpa using this
    exact (s3 j (r[j]'(by omega)) u (List.getElem?_eq_getElem _) (by simpa using hj)).one
  have hrun := r_storeAt (P := P) (w := w) (off := j0 * sz' + off) e3 s1 m2 (by omega) m3 hone
  have get : ∀ j, (spliceA vs (j0 * sz' + off) (ev a y).cells.toList)[j]? = if j0 * sz' + off ≤ j ∧ j < j0 * sz' + off + (ev a y).cells.toList.length then (ev a y).cells.toList[j - (j0 * sz' + off)]? else vs[j]? := fun j => spliceA_get _ _ _ j hlen
  have evo : Evo G1 w G1 (w.setRow b1 (spliceA vs (j0 * sz' + off) (ev a y).cells.toList)) := setRow_evo m2 (fun o' ho => by rw [m11.1 rfl] at ho; omega)
  have hrw : rows'[j0]? = some rows'[j0] := List.getElem?_eq_getElem hj0
  have hgd : rows'.getD j0 [] = rows'[j0] := by simp [List.getD, hrw]
  have hrl : rows'[j0].length = sz' := m8 j0 _ hrw
  have hput : (prims glob).rput rows' j0 off r = rows'.set j0 (rows'[j0].take off ++ r ++ rows'[j0].drop (off + r.length)) := by
    show rows'.set j0 ((rows'.getD j0 []).take off ++ r ++ (rows'.getD j0 []).drop (off + r.length)) = _
    rw [hgd]
  have hw : ∀ (i : Nat) (row : Row), (rows'.set j0 (rows'[j0].take off ++ r ++ rows'[j0].drop (off + r.length)))[i]? = some row → row.length = sz' := by
    intro i row hr
    rw [List.getElem?_set] at hr
    split at hr
    · cases hr
      simp; omega
    · exact m8 i row hr
  have hcomp : Comp (lift h') μ (ins (lift h') i0 (.arr sz' v' (false, ty') (rows'.set j0 (rows'[j0].take off ++ r ++ rows'[j0].drop (off + r.length))))) (fun j => if j = i0 then μ i0 else μ j) :=
    comp_set hb' _ _ (fun _ _ h => by cases h) (fun _ _ _ _ h => by cases h; exact ⟨_, _, _, _, rfl, .inr ⟨rfl, by simp, rfl, rfl⟩⟩) (fun _ _ _ _ _ h => by cases h)
  have key := g2.one (n := i0) (blk := .arr sz' v' (false, ty') (rows'.set j0 (rows'[j0].take off ++ r ++ rows'[j0].drop (off + r.length)))) (m := μ i0) evo hcomp
    (fun k hk hn => by
      have hkb : k ≠ b1 := fun e => hn _ c1' hb' (by simp) (e ▸ m1)
      exact ⟨setRow_other w b1 k _ hkb, rfl⟩)
    (fun b c _ hm => .inr ⟨_, c, hb', by simp, hm⟩)
    (.inr ⟨b1, c1', _, tt, fr, by simp [m1], setRow_heap w b1 vs _ tt _ m2, fun j hj => m3 j (by simpa [spliceA_size] using hj), m4, by rw [spliceA_size]; exact m5, by simpa using m7, hw,
      fun i row j p hr hp => by
        have hj : j < sz' := by rw [← hw i row hr]; exact (List.getElem?_eq_some_iff.1 hp).1
        rw [List.getElem?_set] at hr
        by_cases hij : j0 = i
        · subst hij
          simp only [if_true, hj0] at hr
          cases hr
          by_cases h1 : off ≤ j ∧ j < off + n
          · have hp' : r[j - off]? = some p := by
              rw [List.append_assoc, List.getElem?_append_right (by simp; omega), List.getElem?_append_left (by simp; omega)] at hp
              rw [← hp]; congr 1; simp; omega
            have hjc : j - off < (ev a y).cells.size := by omega
            refine ⟨(ev a y).cells[j - off], ?_, (s3 _ p _ hp' (Array.getElem?_eq_getElem hjc)).evo evo⟩
            rw [get, if_pos (by simp [s1]; omega), show j0 * sz' + j - (j0 * sz' + off) = j - off by omega]
            simp [hjc]
          · have hp' : rows'[j0][j]? = some p := by
              rw [← hp]
              by_cases h2 : j < off
              · rw [List.append_assoc, List.getElem?_append_left (by simp; omega), List.getElem?_take, if_pos h2]
              · rw [List.getElem?_append_right (by simp; omega), List.getElem?_drop]
                congr 1; simp; omega
            obtain ⟨u, hu, hq⟩ := m9 j0 _ j p hrw hp'
            refine ⟨u, ?_, hq.evo evo⟩
            rw [get, if_neg (by simp [s1]; omega)]; exact hu
        · simp only [hij, if_false] at hr
          obtain ⟨u, hu, hq⟩ := m9 i row j p hr hp
          refine ⟨u, ?_, hq.evo evo⟩
          rw [get, if_neg ?_]
          · exact hu
          · simp [s1]
            intro h1
            rcases Nat.lt_or_gt_of_ne hij with h2 | h2
            · have := Nat.mul_le_mul_right sz' (show j0 + 1 ≤ i from h2)
              rw [Nat.add_mul] at this; omega
            · have := Nat.mul_le_mul_right sz' (show i + 1 ≤ j0 from h2)
              rw [Nat.add_mul] at this; omega,
      by rw [m11.1 rfl]; exact Nat.zero_le _, m11⟩)
    (fun k hk => g2.new k (by simpa using hk))
  rw [ite_self_loc] at key
  have hh' : lift (h'.set i0 (.arr sz' v' (false, ty') ((prims glob).rput rows' j0 off r))) = ins (lift h') i0 (.arr sz' v' (false, ty') (rows'.set j0 (rows'[j0].take off ++ r ++ rows'[j0].drop (off + r.length)))) := by
    rw [hput]; exact lift_set hlt _
  show Turn P G w (lift hl) μ a o (lift (h'.set i0 (.arr sz' v' (false, ty') ((prims glob).rput rows' j0 off r)))) .bad
  rw [hh']
  refine ⟨.skip, undef, _, G1, μ, ?_, .inr ⟨rfl, rfl⟩, g1.trans key.1, key.2, .bad _⟩
  simp only [execOp, hop, ex, Sem.run_bind, hrun, Result.andThen_ok, Sem.run_pure]
end
end AI
end
