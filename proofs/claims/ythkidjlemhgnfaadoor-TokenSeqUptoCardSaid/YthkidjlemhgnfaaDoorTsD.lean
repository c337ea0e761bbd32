/-
  NEW NAMES: what is handed over to a call, what comes back, what a loop's head and a function's end keep.
  WHAT COMES BACK FROM A CALL is laid into the caller's heap.
  CALLS: what is handed over, what a callee promises, what stands behind it.
  CALLS, 2: a call that is told by what its callee promises.
  ONE OPERATION, whichever it is.
  ANY OPERATION.
-/
import Derived.Test.YthkidjlemhgnfaaDoorTsC
import Derived.Calls
set_option linter.unusedVariables false
set_option linter.unusedSimpArgs false
set_option linter.unusedSectionVars false
section
namespace AI
open Go

/-- How one heap's blocks stand in another. -/
structure Ren (h : HF) (μ : Loc) (h' : HF) (μ' : Loc) (ri : Nat → Option Nat) (rv : Nat → Nat → Option Nat) : Prop where
  dom : ∀ i j, ri i = some j → ∀ b, h i = some b → ∃ b', h' j = some b'
  data : ∀ i j cells ty, ri i = some j → (∃ b, h i = some b) → h' j = some (.data cells ty) → (∃ cells0, h i = some (.data cells0 ty)) ∧ μ' j = μ i
  arr : ∀ i j sz v f rows, ri i = some j → (∃ b, h i = some b) → h' j = some (.arr sz v f rows) → ∃ v0 f0 rows0, h i = some (.arr sz v0 f0 rows0) ∧ rows0.length = rows.length ∧ μ' j = μ i ∧
    ∀ ver nv, rv i ver = some nv → (ver ≤ v0 → nv ≤ v) ∧ (v = nv → v0 = ver)
  loop : ∀ i j t ps a bo p, ri i = some j → (∃ b, h i = some b) → h' j = some (.loop t ps a bo p) → (∃ t0 ps0 a0 bo0 p0, h i = some (.loop t0 ps0 a0 bo0 p0)) ∧ μ' j = μ i

theorem rens_get (ri : Nat → Option Nat) (rv : Nat → Nat → Option Nat) : ∀ (l : List LV) (j : Nat), (rens ri rv l)[j]? = (l[j]?).map (ren ri rv)
  | [], j => by simp [rens]
  | x :: l, 0 => by simp [rens]
  | x :: l, j + 1 => by simp [rens, rens_get ri rv l j]
theorem rens_length (ri : Nat → Option Nat) (rv : Nat → Nat → Option Nat) : ∀ (l : List LV), (rens ri rv l).length = l.length
  | [] => rfl
  | x :: l => by simp [rens, rens_length ri rv l]

section
variable {P : Program} {G : Ghost} {w : World} {h h' : HF} {μ μ' : Loc} {ri : Nat → Option Nat} {rv : Nat → Nat → Option Nat}

theorem ren_rv (c : Ren h μ h' μ' ri rv) {x : LV} {v : Value} (r : RV G w h μ x v) : RV G w h' μ' (ren ri rv x) v := by
  induction r with
  | pv p v hp => exact .pv p v hp
  | prow r cs hl hr => exact .prow r cs hl hr
  | row l cs hl hr ho ih =>
    refine .row _ cs (by rw [rens_length]; exact hl) (fun j x u hx hu => ?_) ho
    rw [rens_get, Option.map_eq_some_iff] at hx
    obtain ⟨y, hy, rfl⟩ := hx
    exact ih j y u hy hu
  | tup l cs hl hr ih =>
    refine .tup _ cs (by rw [rens_length]; exact hl) (fun j x u hx hu => ?_)
    rw [rens_get, Option.map_eq_some_iff] at hx
    obtain ⟨y, hy, rfl⟩ := hx
    exact ih j y u hy hu
  | nils => exact .nils
  | nilf => exact .nilf
  | ref id ver a n c' hd hv =>
    simp only [ren]
    split
    · rename_i i nv h1 h2
      obtain ⟨b, hb⟩ := hd
      refine .ref i nv a n c' (c.dom id i h1 b hb) (fun sz v' f rows hh => ?_)
      obtain ⟨v0, f0, rows0, k1, k2, k3, k4⟩ := c.arr id i sz v' f rows h1 ⟨b, hb⟩ hh
      obtain ⟨q1, q2⟩ := hv sz v0 f0 rows0 k1
      obtain ⟨r1, r2⟩ := k4 ver nv h2
      exact ⟨r1 q1, fun e => by rw [q2 (r2 e), k3, k2]⟩
    · exact .bad _
  | full rows a hp => exact .full rows a hp
  | fp r off b base vs hs hr => exact .fp r off b base vs hs hr
  | ptr id off b hd hv =>
    simp only [ren]
    split
    · rename_i i h1
      obtain ⟨b0, hb⟩ := hd
      refine .ptr i off b (c.dom id i h1 b0 hb) (fun cells ty hh => ?_)
      obtain ⟨⟨c0, k1⟩, k2⟩ := c.data id i cells ty h1 ⟨b0, hb⟩ hh
      rw [k2]; exact hv c0 ty k1
    · exact .bad _
  | elt id ver i off b o hd hv =>
    simp only [ren]
    split
    · rename_i j nv h1 h2
      obtain ⟨b0, hb⟩ := hd
      refine .elt j nv i off b o (c.dom id j h1 b0 hb) (fun sz v' f rows hh => ?_)
      obtain ⟨v0, f0, rows0, k1, k2, k3, k4⟩ := c.arr id j sz v' f rows h1 ⟨b0, hb⟩ hh
      obtain ⟨q1, q2⟩ := hv sz v0 f0 rows0 k1
      obtain ⟨r1, r2⟩ := k4 ver nv h2
      refine ⟨r1 q1, fun e => ?_⟩
      obtain ⟨u1, u2, u3⟩ := q2 (r2 e)
      exact ⟨by omega, u2, by rw [k3]; exact u3⟩
    · exact .bad _
  | clo f first caps fs cs hl1 hl2 h1 h2 ih1 ih2 =>
    refine .clo f _ _ fs cs (by rw [rens_length]; exact hl1) (by rw [rens_length]; exact hl2) (fun j x u hx hu => ?_) (fun j x u hx hu => ?_)
    · rw [rens_get, Option.map_eq_some_iff] at hx
      obtain ⟨y, hy, rfl⟩ := hx
      exact ih1 j y u hy hu
    · rw [rens_get, Option.map_eq_some_iff] at hx
      obtain ⟨y, hy, rfl⟩ := hx
      exact ih2 j y u hy hu
  | yld id b hd hv =>
    simp only [ren]
    split
    · rename_i i h1
      obtain ⟨b0, hb⟩ := hd
      refine .yld i b (c.dom id i h1 b0 hb) (fun t ps a bo p hh => ?_)
      obtain ⟨⟨t0, ps0, a0, bo0, p0, k1⟩, k2⟩ := c.loop id i t ps a bo p h1 ⟨b0, hb⟩ hh
      rw [k2]; exact hv _ _ _ _ _ k1
    · exact .bad _
  | ifc t x v _ ih => exact .ifc t _ v ih
  | opt g gt want x v _ _ _ => exact .bad v
  | bad v => exact .bad v

theorem own_ren (c : Ren h μ h' μ' ri rv) {i j : Nat} {blk : Blk} (r : Own P G w h μ i blk) (hm : μ' j = μ i) : Own P G w h' μ' j (renBlk ri rv i blk) := by
  cases blk with
  | dead => trivial
  | data cells =>
    obtain ⟨b, c0, vs, ty, h1, h2, h3, h4, h5⟩ := r
    refine ⟨b, c0, vs, ty, hm.trans h1, h2, by rw [rens_length]; exact h3, h4, fun k x v hx hv => ?_⟩
    rw [rens_get, Option.map_eq_some_iff] at hx
    obtain ⟨y, hy, rfl⟩ := hx
    exact ⟨ren_rv c (h5 k y v hy hv).1, (h5 k y v hy hv).2⟩
  | arr sz ver f rows =>
    rcases r with ⟨h1, h2⟩ | ⟨b, c0, vs, ty, fr, h1, h2⟩
    · exact .inl ⟨hm.trans h1, h2⟩
    · exact .inr ⟨b, c0, vs, ty, fr, hm.trans h1, h2⟩
  | loop t ps as bo p =>
    obtain ⟨b, c0, L, h1, h2, h3, h4, h5, h6, h7, h8, h9⟩ := r
    refine ⟨b, c0, L, hm.trans h1, h2, h3, h4, h5, h6, h7, by rw [rens_length]; exact h8, fun k x v hx hv => ?_⟩
    rw [rens_get, Option.map_eq_some_iff] at hx
    obtain ⟨y, hy, rfl⟩ := hx
    exact ren_rv c (h9 k y v hy hv)
end

/-! ### Places in a list -/
theorem posIn_spec : ∀ {l : List Nat} {i k j : Nat}, posIn i l k = some j → k ≤ j ∧ l[j - k]? = some i
  | [], _, _, _, h => by simp [posIn] at h
  | x :: l, i, k, j, h => by
    simp only [posIn] at h
    split at h
    · cases h; rename_i e; subst e; exact ⟨Nat.le_refl _, by simp⟩
    · obtain ⟨h1, h2⟩ := posIn_spec h
      refine ⟨by omega, ?_⟩
      rw [show j - k = (j - (k + 1)) + 1 by omega, List.getElem?_cons_succ]; exact h2
theorem posIn_get {l : List Nat} {i j : Nat} (h : posIn i l 0 = some j) : l[j]? = some i := by simpa using (posIn_spec h).2
theorem posIn_none : ∀ {l : List Nat} {i k : Nat}, posIn i l k = none → i ∉ l
  | [], _, _, _ => by simp
  | x :: l, i, k, h => by
    simp only [posIn] at h
    split at h
    · cases h
    · rename_i hne
      simp only [List.mem_cons, not_or]
      exact ⟨fun e => hne e.symm, posIn_none h⟩
theorem posIn_of_get : ∀ {l : List Nat} {i k j : Nat}, l.Nodup → l[j]? = some i → posIn i l k = some (k + j)
  | [], _, _, _, _, h => by simp at h
  | x :: l, i, k, j, hn, h => by
    rw [List.nodup_cons] at hn
    simp only [posIn]
    cases j with
    | zero => simp at h; simp [h]
    | succ j =>
      simp at h
      have hm := List.mem_of_getElem? h
      have hne : ¬ x = i := fun e => hn.1 (e ▸ hm)
      rw [if_neg hne, posIn_of_get hn.2 h]
      congr 1; omega

theorem addNew_nodup : ∀ {l seen : List Nat}, seen.Nodup → (addNew seen l).Nodup
  | [], _, h => h
  | i :: l, seen, h => by
    simp only [addNew]
    split
    · exact addNew_nodup h
    · rename_i hc
      refine addNew_nodup ?_
      rw [List.nodup_append]
      refine ⟨h, by simp, fun a ha b hb => ?_⟩
      simp at hb; subst hb
      intro e; subst e
      exact hc (by simpa using ha)
theorem addNew_prefix : ∀ {l seen : List Nat}, seen <+: addNew seen l
  | [], _ => List.prefix_refl _
  | i :: l, seen => by
    simp only [addNew]
    split
    · exact addNew_prefix
    · exact (List.prefix_append seen [i]).trans addNew_prefix
theorem reach_nodup (h : List Blk) : ∀ {n k : Nat} {seen : List Nat}, seen.Nodup → (reach h n k seen).Nodup
  | 0, _, _, hs => hs
  | n + 1, k, seen, hs => by
    simp only [reach]
    split
    · exact hs
    · exact reach_nodup h (addNew_nodup hs)
theorem reach_prefix (h : List Blk) : ∀ {n k : Nat} {seen : List Nat}, seen <+: reach h n k seen
  | 0, _, _ => List.prefix_refl _
  | n + 1, k, seen => by
    simp only [reach]
    split
    · exact List.prefix_refl _
    · exact addNew_prefix.trans (reach_prefix h)
theorem reachable_nodup (h : List Blk) (l : List Nat) : (reachable h l).Nodup := reach_nodup h (addNew_nodup (by simp))

theorem addNew_range (l : List Nat) (m : Nat) : List.range m <+: addNew [] (List.range m ++ l) := by
  have key : ∀ (n k : Nat) (seen : List Nat), seen = List.range k → addNew seen ((List.range' k n) ++ l) = addNew (List.range (k + n)) l := by
    intro n
    induction n with
    | zero => intro k seen e; subst e; simp
    | succ n ih =>
      intro k seen e
      subst e
      rw [List.range'_succ, List.cons_append]
      simp only [addNew]
      have : (List.range k).contains k = false := by simp
      simp only [this, Bool.false_eq_true, if_false]
      rw [ih (k + 1) _ (by rw [List.range_succ])]
      congr 2; omega
  have := key m 0 [] (by simp)
  rw [← List.range_eq_range'] at this
  rw [this, Nat.zero_add]
  exact addNew_prefix

theorem reachable_range (h : List Blk) (l : List Nat) (m : Nat) : List.range m <+: reachable h (List.range m ++ l) := (addNew_range l m).trans (reach_prefix h)

theorem renBlks_get (h : List Blk) (ri : Nat → Option Nat) (rv : Nat → Nat → Option Nat) : ∀ (R : List Nat) (j : Nat), (renBlks h ri rv R)[j]? = (R[j]?).map fun i => renBlk ri rv i (h.getD i .dead)
  | [], j => by simp [renBlks]
  | i :: R, 0 => by simp [renBlks]
  | i :: R, j + 1 => by simp [renBlks, renBlks_get h ri rv R j]
theorem renBlks_length (h : List Blk) (ri : Nat → Option Nat) (rv : Nat → Nat → Option Nat) : ∀ (R : List Nat), (renBlks h ri rv R).length = R.length
  | [] => rfl
  | i :: R => by simp [renBlks, renBlks_length h ri rv R]

/-! ### A part of a heap -/
def locOf (μ : Loc) (R : List Nat) : Loc := fun j => match R[j]? with | some i => μ i | none => none

/-- Only today's versions have a new name. -/
def Today (h : List Blk) (rv : Nat → Nat → Option Nat) : Prop := ∀ i ver nv, rv i ver = some nv → verOf h i = some ver

theorem part_ren {h : List Blk} {μ : Loc} {R : List Nat} (rv : Nat → Nat → Option Nat) (ht : Today h rv) :
    Ren (lift h) μ (lift (renBlks h (fun i => posIn i R 0) rv R)) (locOf μ R) (fun i => posIn i R 0) rv where
  dom i j hij b hb := by
    have := posIn_get hij
    exact ⟨_, by simp only [lift]; rw [renBlks_get, this]; rfl⟩
  data i j cells ty hij hd hb := by
    have hR := posIn_get hij
    obtain ⟨b, hb0⟩ := hd
    have hg : h.getD i .dead = b := by simp [List.getD, show h[i]? = some b from hb0]
    simp only [lift, renBlks_get, hR, Option.map_some, hg, Option.some.injEq] at hb
    refine ⟨?_, by simp [locOf, hR]⟩
    cases b <;> simp [renBlk] at hb
    obtain ⟨-, rfl⟩ := hb
    exact ⟨_, hb0⟩
  arr i j sz v f rows hij hd hb := by
    have hR := posIn_get hij
    obtain ⟨b, hb0⟩ := hd
    have hg : h.getD i .dead = b := by simp [List.getD, show h[i]? = some b from hb0]
    simp only [lift, renBlks_get, hR, Option.map_some, hg, Option.some.injEq] at hb
    cases b <;> simp [renBlk] at hb
    rename_i sz0 v0 f0 rows0
    obtain ⟨rfl, hv, rfl, rfl⟩ := hb
    refine ⟨v0, f0, rows0, hb0, rfl, by simp [locOf, hR], fun ver nv hr => ?_⟩
    have h1 := ht i ver nv hr
    have hvo : verOf h i = some v0 := by simp [verOf, show h[i]? = some _ from hb0]
    rw [hvo] at h1; cases h1
    rw [hr] at hv; simp at hv
    exact ⟨fun _ => by omega, fun _ => rfl⟩
  loop i j t ps a bo p hij hd hb := by
    have hR := posIn_get hij
    obtain ⟨b, hb0⟩ := hd
    have hg : h.getD i .dead = b := by simp [List.getD, show h[i]? = some b from hb0]
    simp only [lift, renBlks_get, hR, Option.map_some, hg, Option.some.injEq] at hb
    refine ⟨?_, by simp [locOf, hR]⟩
    cases b <;> simp [renBlk] at hb
    exact ⟨_, _, _, _, _, hb0⟩

theorem part_hrel {P : Program} {G : Ghost} {w : World} {h : List Blk} {μ : Loc} {R : List Nat} (rv : Nat → Nat → Option Nat) (ht : Today h rv) (hn : R.Nodup)
    (r : HRel P G w (lift h) μ) : HRel P G w (lift (renBlks h (fun i => posIn i R 0) rv R)) (locOf μ R) where
  own j blk hb := by
    simp only [lift, renBlks_get, Option.map_eq_some_iff] at hb
    obtain ⟨i, hi, rfl⟩ := hb
    have hm : locOf μ R j = μ i := by simp [locOf, hi]
    cases hg : h[i]? with
    | none =>
      have : h.getD i .dead = .dead := by simp [List.getD, hg]
      rw [this]; trivial
    | some b =>
      have : h.getD i .dead = b := by simp [List.getD, hg]
      rw [this]
      exact own_ren (part_ren rv ht) (r.own i b hg) hm
  inj j k x y b c c' hj hk hx hy hm hm' := by
    simp only [lift, renBlks_get, Option.map_eq_some_iff] at hj hk
    obtain ⟨i, hi, rfl⟩ := hj
    obtain ⟨i', hi', rfl⟩ := hk
    simp only [locOf, hi] at hm
    simp only [locOf, hi'] at hm'
    have nd : ∀ i, renBlk (fun i => posIn i R 0) rv i (h.getD i .dead) ≠ .dead → ∃ z, h[i]? = some z ∧ z ≠ .dead := by
      intro i hne
      cases hg : h[i]? with
      | none => simp [List.getD, hg, renBlk] at hne
      | some z => refine ⟨z, rfl, fun e => ?_⟩; subst e; simp [List.getD, hg, renBlk] at hne
    obtain ⟨z, hz, hzd⟩ := nd i hx
    obtain ⟨z', hz', hzd'⟩ := nd i' hy
    have : i = i' := r.inj i i' z z' b c c' hz hz' hzd hzd' hm hm'
    subst this
    exact (List.getElem?_inj (List.getElem?_eq_some_iff.1 hi).1 hn).1 (hi.trans hi'.symm)
  new := r.new
end AI
end

section
namespace AI
open Go

theorem layOld_get (h : List Blk) (R : List Nat) (h2 : List Blk) : ∀ (l : List Blk) (k i : Nat), (layOld h R h2 k l)[i]? = (l[i]?).map fun b => match posIn (k + i) R 0 with
    | some j => renBlk (backR R h.length) (backV h R) j (h2.getD j .dead)
    | none => b
  | [], k, i => by simp [layOld]
  | b :: l, k, 0 => by simp [layOld]; cases posIn k R 0 <;> rfl
  | b :: l, k, i + 1 => by
    simp only [layOld, List.getElem?_cons_succ, layOld_get h R h2 l (k + 1) i]
    rw [show k + 1 + i = k + (i + 1) by omega]
theorem layOld_length (h : List Blk) (R : List Nat) (h2 : List Blk) : ∀ (l : List Blk) (k : Nat), (layOld h R h2 k l).length = l.length
  | [], _ => rfl
  | b :: l, k => by simp [layOld, layOld_length h R h2 l (k + 1)]
theorem layNew_get (h : List Blk) (R : List Nat) : ∀ (l : List Blk) (k i : Nat), (layNew h R k l)[i]? = (l[i]?).map (renBlk (backR R h.length) (backV h R) (k + i))
  | [], k, i => by simp [layNew]
  | b :: l, k, 0 => by simp [layNew]
  | b :: l, k, i + 1 => by
    simp only [layNew, List.getElem?_cons_succ, layNew_get h R l (k + 1) i]
    rw [show k + 1 + i = k + (i + 1) by omega]

/-- The caller's heap behind the call. -/
abbrev backHeap (h : List Blk) (R : List Nat) (h2 : List Blk) : List Blk := layOld h R h2 0 h ++ layNew h R R.length (h2.drop R.length)

/-- Where a block of the caller's comes from behind the call. -/
def src (n : Nat) (R : List Nat) (m : Nat) (id : Nat) : Option Nat :=
  match posIn id R 0 with
  | some j => some j
  | none => if n ≤ id ∧ id < n + (m - R.length) then some (R.length + (id - n)) else none

def backLoc (n : Nat) (R : List Nat) (m : Nat) (μ μ2 : Loc) : Loc := fun id => match src n R m id with | some k => μ2 k | none => μ id
def backHF (hl : List Blk) (R : List Nat) (h2 : List Blk) (h : HF) : HF := fun id => match src hl.length R h2.length id with
  | some k => (h2[k]?).map (renBlk (backR R hl.length) (backV hl R) k)
  | none => h id

section
variable {P : Program} {G G' : Ghost} {w w' : World} {hl h2 : List Blk} {μ μ2 : Loc} {R : List Nat} {h : HF}

theorem backId_old {k : Nat} {i : Nat} (h : R[k]? = some i) (base : Nat) : backId R base k = i := by simp [backId, h]
theorem backId_new {k : Nat} (h : R.length ≤ k) (base : Nat) : backId R base k = base + (k - R.length) := by simp [backId, List.getElem?_eq_none h]

theorem src_back {n m id k : Nat} (h : src n R m id = some k) : backId R n k = id := by
  unfold src at h
  split at h
  · cases h; rename_i j hp; exact backId_old (posIn_get hp) n
  · split at h <;> cases h
    rename_i hc
    rw [backId_new (by omega)]; omega
theorem src_of (hn : R.Nodup) {n m k : Nat} (hR : ∀ i ∈ R, i < n) (hk : k < m) : src n R m (backId R n k) = some k := by
  by_cases h : k < R.length
  · have hi : R[k]? = some R[k] := List.getElem?_eq_getElem h
    have hp : posIn R[k] R 0 = some k := by simpa using posIn_of_get hn hi (k := 0)
    rw [backId_old hi]
    simp [src, hp]
  · have h' : R.length ≤ k := by omega
    rw [backId_new h']
    have hp : posIn (n + (k - R.length)) R 0 = none := by
      cases hp : posIn (n + (k - R.length)) R 0 with
      | none => rfl
      | some j => have := hR _ (List.mem_of_getElem? (posIn_get hp)); omega
    simp only [src, hp]
    rw [if_pos (by omega)]; congr 1; omega

theorem back_lift (hR : ∀ i ∈ R, i < hl.length) (hm : R.length ≤ h2.length) : lift (backHeap hl R h2) = backHF hl R h2 (lift hl) := by
  funext id
  by_cases hid : id < hl.length
  · simp only [lift, backHF, src]
    rw [List.getElem?_append_left (by rw [layOld_length]; exact hid), layOld_get, Nat.zero_add]
    cases hp : posIn id R 0 with
    | none => simp [show ¬ (hl.length ≤ id) by omega, List.getElem?_eq_getElem hid]
    | some j =>
      have hj : j < h2.length := by have := (List.getElem?_eq_some_iff.1 (posIn_get hp)).1; omega
      simp [List.getElem?_eq_getElem hid, List.getD, List.getElem?_eq_getElem hj]
  · have hid' : hl.length ≤ id := by omega
    have hp : posIn id R 0 = none := by
      cases hp : posIn id R 0 with
      | none => rfl
      | some j => have := hR _ (List.mem_of_getElem? (posIn_get hp)); omega
    simp only [lift, backHF, src, hp]
    rw [List.getElem?_append_right (by rw [layOld_length]; exact hid'), layNew_get, List.getElem?_drop, layOld_length]
    by_cases hlt : id < hl.length + (h2.length - R.length)
    · rw [if_pos ⟨hid', hlt⟩]
    · rw [if_neg (by omega), List.getElem?_eq_none (by omega), List.getElem?_eq_none (by omega)]; rfl

/-- The source of a block behind a call. -/
theorem back_src {id : Nat} {blk : Blk} (hb : backHF hl R h2 h id = some blk) :
    (src hl.length R h2.length id = none ∧ h id = some blk ∧ backLoc hl.length R h2.length μ μ2 id = μ id) ∨
    ∃ k b, src hl.length R h2.length id = some k ∧ h2[k]? = some b ∧ blk = renBlk (backR R hl.length) (backV hl R) k b ∧ backLoc hl.length R h2.length μ μ2 id = μ2 k ∧ backId R hl.length k = id := by
  cases hs : src hl.length R h2.length id with
  | none => exact .inl ⟨rfl, by simpa [backHF, hs] using hb, by simp [backLoc, hs]⟩
  | some k =>
    simp only [backHF, hs, Option.map_eq_some_iff] at hb
    obtain ⟨b, hb1, hb2⟩ := hb
    exact .inr ⟨k, b, rfl, hb1, hb2.symm, by simp [backLoc, hs], src_back hs⟩

theorem back_at (hn : R.Nodup) (hR : ∀ i ∈ R, i < hl.length) {k : Nat} {b : Blk} (hb : h2[k]? = some b) :
    backHF hl R h2 h (backId R hl.length k) = some (renBlk (backR R hl.length) (backV hl R) k b) ∧ backLoc hl.length R h2.length μ μ2 (backId R hl.length k) = μ2 k := by
  have hk : k < h2.length := (List.getElem?_eq_some_iff.1 hb).1
  simp [backHF, backLoc, src_of hn hR hk, hb]

theorem back_ren (hn : R.Nodup) (hR : ∀ i ∈ R, i < hl.length) : Ren (lift h2) μ2 (backHF hl R h2 h) (backLoc hl.length R h2.length μ μ2) (backR R hl.length) (backV hl R) where
  dom k j hk b hb := by
    cases hk
    exact ⟨_, (back_at (μ := μ) (μ2 := μ2) hn hR hb).1⟩
  data k j cells ty hk hd hb := by
    cases hk
    obtain ⟨b, hb0⟩ := hd
    obtain ⟨h1, h2'⟩ := back_at (h := h) (μ := μ) (μ2 := μ2) hn hR hb0
    have hb' := h1.symm.trans hb
    refine ⟨?_, h2'⟩
    cases b <;> simp [renBlk] at hb'
    obtain ⟨-, rfl⟩ := hb'
    exact ⟨_, hb0⟩
  arr k j sz v f rows hk hd hb := by
    cases hk
    obtain ⟨b, hb0⟩ := hd
    obtain ⟨h1, h2'⟩ := back_at (h := h) (μ := μ) (μ2 := μ2) hn hR hb0
    have hb' := h1.symm.trans hb
    cases b <;> simp [renBlk] at hb'
    rename_i sz0 v0 f0 rows0
    obtain ⟨rfl, hv, rfl, rfl⟩ := hb'
    refine ⟨v0, f0, rows0, hb0, rfl, h2', fun ver nv hnv => ?_⟩
    have hnv' : backVer hl R k ver = nv := Option.some.inj hnv
    subst hnv'; subst hv
    unfold backVer
    split
    · exact ⟨fun h => by omega, fun h => by omega⟩
    · exact ⟨id, id⟩
  loop k j t ps a bo p hk hd hb := by
    cases hk
    obtain ⟨b, hb0⟩ := hd
    obtain ⟨h1, h2'⟩ := back_at (h := h) (μ := μ) (μ2 := μ2) hn hR hb0
    have hb' := h1.symm.trans hb
    refine ⟨?_, h2'⟩
    cases b <;> simp [renBlk] at hb'
    exact ⟨_, _, _, _, _, hb0⟩

theorem toZero_today (h : List Blk) : Today h (toZero h) := by
  intro i ver nv hr
  unfold toZero at hr
  split at hr
  · split at hr <;> cases hr
    rename_i v hv he; subst he; exact hv
  · cases hr

theorem hand_get (j : Nat) : (renBlks hl (fun i => posIn i R 0) (toZero hl) R)[j]? = (R[j]?).map fun i => renBlk (fun i => posIn i R 0) (toZero hl) i (hl.getD i .dead) := renBlks_get _ _ _ _ _

/-- Whom a handed-over block belongs to. -/
theorem hand_own (hA : ∀ i ∈ R, h i = hl[i]?) {j : Nat} {x : Blk} (hx : lift (renBlks hl (fun i => posIn i R 0) (toZero hl) R) j = some x) (hxd : x ≠ .dead) : ∃ i z, R[j]? = some i ∧ h i = some z ∧ z ≠ .dead ∧ locOf μ R j = μ i := by
  simp only [lift, hand_get, Option.map_eq_some_iff] at hx
  obtain ⟨i, hi, rfl⟩ := hx
  cases hg : hl[i]? with
  | none => simp [List.getD, hg, renBlk] at hxd
  | some z =>
    refine ⟨i, z, hi, (hA i (List.mem_of_getElem? hi)).trans hg, fun e => ?_, by simp [locOf, hi]⟩
    subst e; simp [List.getD, hg, renBlk] at hxd

/-- What is handed over stands as it did. -/
theorem hand_ren (hA : ∀ i ∈ R, h i = hl[i]?) : Ren h μ (lift (renBlks hl (fun i => posIn i R 0) (toZero hl) R)) (locOf μ R) (fun i => posIn i R 0) (toZero hl) where
  dom i j hij b hb := by
    have := posIn_get hij
    exact ⟨_, by simp only [lift]; rw [renBlks_get, this]; rfl⟩
  data i j cells ty hij hd hb := by
    have hR := posIn_get hij
    have hh := hA i (List.mem_of_getElem? hR)
    obtain ⟨c, k⟩ := (part_ren (μ := μ) (R := R) (toZero hl) (toZero_today hl)).data i j cells ty hij (by rw [← show h i = lift hl i from hh]; exact hd) hb
    exact ⟨by rw [hh]; exact c, k⟩
  arr i j sz v f rows hij hd hb := by
    have hR := posIn_get hij
    have hh := hA i (List.mem_of_getElem? hR)
    obtain ⟨v0, f0, rows0, c, k⟩ := (part_ren (μ := μ) (R := R) (toZero hl) (toZero_today hl)).arr i j sz v f rows hij (by rw [← show h i = lift hl i from hh]; exact hd) hb
    exact ⟨v0, f0, rows0, by rw [hh]; exact c, k⟩
  loop i j t ps a bo p hij hd hb := by
    have hR := posIn_get hij
    have hh := hA i (List.mem_of_getElem? hR)
    obtain ⟨c, k⟩ := (part_ren (μ := μ) (R := R) (toZero hl) (toZero_today hl)).loop i j t ps a bo p hij (by rw [← show h i = lift hl i from hh]; exact hd) hb
    exact ⟨by rw [hh]; exact c, k⟩

theorem hand_hrel (hA : ∀ i ∈ R, h i = hl[i]?) (hn : R.Nodup) (r : HRel P G w h μ) : HRel P G w (lift (renBlks hl (fun i => posIn i R 0) (toZero hl) R)) (locOf μ R) where
  own j blk hb := by
    have hb0 := hb
    simp only [lift, renBlks_get, Option.map_eq_some_iff] at hb
    obtain ⟨i, hi, rfl⟩ := hb
    have hm : locOf μ R j = μ i := by simp [locOf, hi]
    cases hg : hl[i]? with
    | none =>
      have : hl.getD i .dead = .dead := by simp [List.getD, hg]
      rw [this]; trivial
    | some b =>
      have : hl.getD i .dead = b := by simp [List.getD, hg]
      rw [this]
      exact own_ren (hand_ren hA) (r.own i b ((hA i (List.mem_of_getElem? hi)).trans hg)) hm
  inj j k x y b c c' hj hk hx hy hm hm' := by
    obtain ⟨i, z, hi, hz, hzd, e1⟩ := hand_own (μ := μ) hA hj hx
    obtain ⟨i', z', hi', hz', hzd', e2⟩ := hand_own (μ := μ) hA hk hy
    have : i = i' := r.inj i i' z z' b c c' hz hz' hzd hzd' (e1 ▸ hm) (e2 ▸ hm')
    subst this
    exact (List.getElem?_inj (List.getElem?_eq_some_iff.1 hi).1 hn).1 (hi.trans hi'.symm)
  new := r.new

theorem call_back (hn : R.Nodup) (hR : ∀ i ∈ R, i < hl.length) (hA : ∀ i ∈ R, h i = hl[i]?) (hF : ∀ id, hl.length ≤ id → id < hl.length + (h2.length - R.length) → h id = none) (r : HRel P G w h μ)
    (m : Mv G w (lift (renBlks hl (fun i => posIn i R 0) (toZero hl) R)) (locOf μ R) G' w' (lift h2) μ2) (r2 : HRel P G' w' (lift h2) μ2) :
    Mv G w h μ G' w' (backHF hl R h2 h) (backLoc hl.length R h2.length μ μ2) ∧ HRel P G' w' (backHF hl R h2 h) (backLoc hl.length R h2.length μ μ2) ∧ R.length ≤ h2.length := by
  have hd : ∀ j, j < R.length → ∃ b, h2[j]? = some b := by
    intro j hj
    have : lift (renBlks hl (fun i => posIn i R 0) (toZero hl) R) j = some (renBlk (fun i => posIn i R 0) (toZero hl) R[j] (hl.getD R[j] .dead)) := by
      simp only [lift, hand_get, List.getElem?_eq_getElem hj, Option.map_some]
    exact m.comp.dom j _ this
  have hlen : R.length ≤ h2.length := by
    rcases Nat.eq_zero_or_pos R.length with h0 | h0
    · omega
    · obtain ⟨b, hb⟩ := hd (R.length - 1) (by omega)
      have := (List.getElem?_eq_some_iff.1 hb).1; omega
  have srcn : ∀ {id : Nat}, src hl.length R h2.length id = none → id ∉ R := by
    intro id hs
    unfold src at hs
    split at hs
    · cases hs
    · rename_i hp; exact posIn_none hp
  have untouched : ∀ {id : Nat} {z : Blk} {b c : Nat}, src hl.length R h2.length id = none → h id = some z → z ≠ .dead → μ id = some (b, c) →
      ∀ j x c', lift (renBlks hl (fun i => posIn i R 0) (toZero hl) R) j = some x → x ≠ .dead → locOf μ R j ≠ some (b, c') := by
    intro id z b c hp hz hzd hm j x c' hx hxd hm'
    obtain ⟨i, y, hi, hy, hyd, hloc⟩ := hand_own (μ := μ) hA hx hxd
    rw [hloc] at hm'
    have : i = id := r.inj i id y z b c' c hy hz hyd hzd hm' hm
    subst this
    exact srcn hp (List.mem_of_getElem? hi)
  have comp : Comp h μ (backHF hl R h2 h) (backLoc hl.length R h2.length μ μ2) := by
    have srcs : ∀ id b, h id = some b → (backHF hl R h2 h id = some b ∧ backLoc hl.length R h2.length μ μ2 id = μ id) ∨
        ∃ j b2, R[j]? = some id ∧ h2[j]? = some b2 ∧ backHF hl R h2 h id = some (renBlk (backR R hl.length) (backV hl R) j b2) ∧ backLoc hl.length R h2.length μ μ2 id = μ2 j ∧
          lift (renBlks hl (fun i => posIn i R 0) (toZero hl) R) j = some (renBlk (fun i => posIn i R 0) (toZero hl) id b) ∧ locOf μ R j = μ id ∧ hl[id]? = some b := by
      intro id b hb
      cases hs : src hl.length R h2.length id with
      | none => exact .inl ⟨by simp [backHF, hs, hb], by simp [backLoc, hs]⟩
      | some k =>
        have hs' := hs
        unfold src at hs
        split at hs
        · rename_i j hp
          cases hs
          have hj := posIn_get hp
          have hb' : hl[id]? = some b := (hA id (List.mem_of_getElem? hj)).symm.trans hb
          obtain ⟨b2, hb2⟩ := hd k (List.getElem?_eq_some_iff.1 hj).1
          refine .inr ⟨k, b2, hj, hb2, by simp [backHF, hs', hb2], by simp [backLoc, hs'], ?_, by simp [locOf, hj], hb'⟩
          simp only [lift, hand_get, hj, Option.map_some, List.getD, hb', Option.getD_some]
        · split at hs <;> cases hs
          rename_i hc
          rw [hF id hc.1 hc.2] at hb; cases hb
    constructor
    · intro id b hb
      rcases srcs id b hb with ⟨h1, _⟩ | ⟨j, b2, _, _, h1, _⟩
      · exact ⟨_, h1⟩
      · exact ⟨_, h1⟩
    · intro id b cells ty hb hc
      rcases srcs id b hb with ⟨h1, h3⟩ | ⟨j, b2, h1, h3, h4, h5, h6, h7, _⟩
      · exact ⟨⟨cells, Option.some.inj (h1.symm.trans hc)⟩, h3⟩
      · have hc' := h4.symm.trans hc
        cases b2 <;> simp [renBlk] at hc'
        obtain ⟨-, rfl⟩ := hc'
        obtain ⟨⟨c0, e0⟩, e1⟩ := m.comp.data j _ _ _ h6 h3
        refine ⟨?_, h5.trans (e1.trans h7)⟩
        cases b <;> simp [renBlk] at e0
        obtain ⟨-, rfl⟩ := e0
        exact ⟨_, rfl⟩
    · intro id b sz v f rows hb hc
      rcases srcs id b hb with ⟨h1, h3⟩ | ⟨j, b2, h1, h3, h4, h5, h6, h7, h8⟩
      · exact ⟨sz, v, f, rows, Option.some.inj (h1.symm.trans hc), .inr ⟨rfl, rfl, rfl, h3⟩⟩
      · have hc' := h4.symm.trans hc
        cases b2 <;> simp [renBlk] at hc'
        rename_i sz2 v2 f2 rows2
        obtain ⟨rfl, hv, rfl, rfl⟩ := hc'
        obtain ⟨sz0, v0, f0, rows0, e0, e1⟩ := m.comp.arr j _ _ _ _ _ h6 h3
        cases b <;> simp [renBlk] at e0
        rename_i szb vb fb rowsb
        obtain ⟨rfl, e2, rfl, rfl⟩ := e0
        have hvo : verOf hl id = some vb := by simp [verOf, h8]
        have hz : v0 = 0 := by rw [← e2]; simp [toZero, hvo]
        have hbv : v = vb + v2 := by rw [← hv]; simp [backVer, h1, hvo]
        refine ⟨_, _, _, _, rfl, ?_⟩
        rcases e1 with e1 | ⟨e1, e3, e4, e5⟩
        · exact .inl (by omega)
        · exact .inr ⟨by omega, e3, e4, h5.trans (e5.trans h7)⟩
    · intro id b t ps a bo p hb hc
      rcases srcs id b hb with ⟨h1, h3⟩ | ⟨j, b2, h1, h3, h4, h5, h6, h7, _⟩
      · exact ⟨⟨t, ps, a, bo, p, Option.some.inj (h1.symm.trans hc)⟩, h3⟩
      · have hc' := h4.symm.trans hc
        cases b2 <;> simp [renBlk] at hc'
        obtain ⟨⟨t0, ps0, a0, bo0, p0, e0⟩, e1⟩ := m.comp.loop j _ _ _ _ _ _ h6 h3
        refine ⟨?_, h5.trans (e1.trans h7)⟩
        cases b <;> simp [renBlk] at e0
        exact ⟨_, _, _, _, _, rfl⟩
  have frame : ∀ b, b < w.heap.size → (∀ id x c, h id = some x → x ≠ .dead → μ id ≠ some (b, c)) → w'.heap[b]? = w.heap[b]? ∧ G' b = G b := by
    intro b hb hno
    refine m.frame b hb (fun j x c hx hxd hm => ?_)
    obtain ⟨i, z, hi, hz, hzd, hloc⟩ := hand_own (μ := μ) hA hx hxd
    exact hno i z c hz hzd (hloc ▸ hm)
  have loc : ∀ id x' b c, backHF hl R h2 h id = some x' → x' ≠ .dead → backLoc hl.length R h2.length μ μ2 id = some (b, c) → w.heap.size ≤ b ∨ ∃ i x c', h i = some x ∧ x ≠ .dead ∧ μ i = some (b, c') := by
    intro id x' b c hx hxd hm
    rcases back_src (μ := μ) (μ2 := μ2) hx with ⟨_, h3, h4⟩ | ⟨k, b2, _, h3, h4, h5, _⟩
    · exact .inr ⟨id, x', c, h3, hxd, h4 ▸ hm⟩
    · have hb2 : b2 ≠ .dead := fun e => by subst e; exact hxd h4
      rcases m.loc k b2 b c h3 hb2 (h5 ▸ hm) with h6 | ⟨j, y, c', h6, h7, h8⟩
      · exact .inl h6
      · obtain ⟨i, z, hi, hz, hzd, hloc⟩ := hand_own (μ := μ) hA h6 h7
        exact .inr ⟨i, z, c', hz, hzd, hloc ▸ h8⟩
  refine ⟨⟨m.evo, comp, frame, loc⟩, ⟨fun id blk hb => ?_, fun i j x y b c c' hi hj hx hy hm hm' => ?_, r2.new⟩, hlen⟩
  · rcases back_src (μ := μ) (μ2 := μ2) hb with ⟨h3, h4, h5⟩ | ⟨k, b2, _, h3, h4, h5, _⟩
    · exact (r.own id blk h4).keep m.evo comp h5 (fun b c hm hbd => m.frame b ((r.own id blk h4).lt hbd hm) (fun j x c' hx hxd => untouched h3 h4 hbd hm j x c' hx hxd))
    · rw [h4]
      exact own_ren (back_ren hn hR) (r2.own k b2 h3) h5
  · rcases back_src (μ := μ) (μ2 := μ2) hi with ⟨h3, h4, h5⟩ | ⟨k, b2, _, h3, h4, h5, h6⟩ <;>
      rcases back_src (μ := μ) (μ2 := μ2) hj with ⟨g3, g4, g5⟩ | ⟨k', b2', _, g3, g4, g5, g6⟩
    · exact r.inj i j x y b c c' h4 g4 hx hy (h5 ▸ hm) (g5 ▸ hm')
    · exfalso
      have hlt := (r.own i x h4).lt hx (h5 ▸ hm)
      have hbd : b2' ≠ .dead := fun e => by subst e; exact hy g4
      rcases m.loc k' b2' b c' g3 hbd (g5 ▸ hm') with q | ⟨jj, z, c2, q1, q2, q3⟩
      · omega
      · exact untouched h3 h4 hx (h5 ▸ hm) jj z c2 q1 q2 q3
    · exfalso
      have hlt := (r.own j y g4).lt hy (g5 ▸ hm')
      have hbd : b2 ≠ .dead := fun e => by subst e; exact hx h4
      rcases m.loc k b2 b c h3 hbd (h5 ▸ hm) with q | ⟨jj, z, c2, q1, q2, q3⟩
      · omega
      · exact untouched g3 g4 hy (g5 ▸ hm') jj z c2 q1 q2 q3
    · have hbd : b2 ≠ .dead := fun e => by subst e; exact hx h4
      have hbd' : b2' ≠ .dead := fun e => by subst e; exact hy g4
      have : k = k' := r2.inj k k' b2 b2' b c c' h3 g3 hbd hbd' (h5 ▸ hm) (g5 ▸ hm')
      rw [← h6, ← g6, this]
end
end AI
end

section
namespace AI
open Go

theorem Ren.evo {G G' : Ghost} {w : World} (h : ∀ b o, o < G b → o < G' b) : Evo G w G' w := ⟨rfl, rfl, rfl, Nat.le_refl _, fun b o ho => ⟨h b o ho, rfl⟩⟩

/-- What the function does when it is called: it answers. -/
def Acts (P : Program) (f : FuncId) (vs : Array Value) (w : World) (R : Value → World → Prop) : Prop :=
  ((callFunc f vs).run P w = .ok (.enter f vs) w ∧ Calls P f vs w (fun e w' => ∃ r, e = .returned r ∧ R r w')) ∨ ∃ r w', (callFunc f vs).run P w = .ok (.value r) w' ∧ R r w'

def Yields (P : Program) (b : Nat) (vs : Array Value) (w : World) (R : Value → World → Prop) : Prop :=
  ∃ f t as bo, (Instr.yield b vs).run P w = .ok (.round b f t as bo) w ∧ ∀ c cs, ∃ r w', R r w' ∧ Steps P (lone (Frame.round b f t as bo .normal) (c :: cs) w) (lone (c.finish r) cs w')

theorem Acts.mono {P : Program} {f : FuncId} {vs : Array Value} {w : World} {R R' : Value → World → Prop} (h : Acts P f vs w R) (hr : ∀ r w', R r w' → R' r w') : Acts P f vs w R' := by
  rcases h with ⟨h1, h2⟩ | ⟨r, w', h1, h2⟩
  · refine .inl ⟨h1, fun cs => ?_⟩
    obtain ⟨e, w', fr, ⟨r, rfl, hR⟩, h3, h4⟩ := h2 cs
    exact ⟨_, w', fr, ⟨r, rfl, hr r w' hR⟩, h3, h4⟩
  · exact .inr ⟨r, w', h1, hr r w' h2⟩
theorem Yields.mono {P : Program} {b : Nat} {vs : Array Value} {w : World} {R R' : Value → World → Prop} (h : Yields P b vs w R) (hr : ∀ r w', R r w' → R' r w') : Yields P b vs w R' := by
  obtain ⟨f, t, as, bo, h1, h2⟩ := h
  refine ⟨f, t, as, bo, h1, fun c cs => ?_⟩
  obtain ⟨r, w', h3, h4⟩ := h2 c cs
  exact ⟨r, w', hr r w' h3, h4⟩

def Zero (h : List Blk) : Prop := ∀ (id sz v : Nat) (f : Bool × Nat) (rows : Rows), h[id]? = some (.arr sz v f rows) → v = 0

def LRel (G : Ghost) (w : World) (h : HF) (μ : Loc) (xs : List LV) (vs : List Value) : Prop :=
  xs.length = vs.length ∧ ∀ (j : Nat) (x : LV) (c : Value), xs[j]? = some x → vs[j]? = some c → RV G w h μ x c

theorem LRel.append {G : Ghost} {w : World} {h : HF} {μ : Loc} {xs ys : List LV} {vs us : List Value} (a : LRel G w h μ xs vs) (b : LRel G w h μ ys us) : LRel G w h μ (xs ++ ys) (vs ++ us) := by
  refine ⟨by simp [a.1, b.1], fun j x c hx hc => ?_⟩
  rw [List.getElem?_append] at hx hc
  rw [a.1] at hx
  split at hx
  · rename_i hj; rw [if_pos hj] at hc; exact a.2 j x c hx hc
  · rename_i hj; rw [if_neg hj] at hc; exact b.2 _ x c hx hc
theorem LRel.cons {G : Ghost} {w : World} {h : HF} {μ : Loc} {xs : List LV} {vs : List Value} {x : LV} {v : Value} (hx : RV G w h μ x v) (a : LRel G w h μ xs vs) : LRel G w h μ (x :: xs) (v :: vs) := by
  refine ⟨by simp [a.1], fun j y c hy hc => ?_⟩
  cases j with
  | zero => simp at hy hc; subst hy; subst hc; exact hx
  | succ j => simp at hy hc; exact a.2 j y c hy hc
theorem LRel.evo {G G' : Ghost} {w w' : World} {h h' : HF} {μ μ' : Loc} {xs : List LV} {vs : List Value} (a : LRel G w h μ xs vs) (e : Evo G w G' w') (c : Comp h μ h' μ') : LRel G' w' h' μ' xs vs :=
  ⟨a.1, fun j x v hx hv => (a.2 j x v hx hv).evo e c⟩
theorem LRel.ren {G : Ghost} {w : World} {h h' : HF} {μ μ' : Loc} {ri : Nat → Option Nat} {rv : Nat → Nat → Option Nat} {xs : List LV} {vs : List Value} (a : LRel G w h μ xs vs) (c : Ren h μ h' μ' ri rv) : LRel G w h' μ' (rens ri rv xs) vs := by
  refine ⟨by rw [rens_length]; exact a.1, fun j x v hx hv => ?_⟩
  rw [rens_get, Option.map_eq_some_iff] at hx
  obtain ⟨y, hy, rfl⟩ := hx
  exact ren_rv c (a.2 j y v hy hv)

/-- What a function (a round of a loop) promises. -/
structure SoundFn (P : Program) (glob : Nat → Row) (S : SFn) : Prop where
  fn : ∀ f args h0 v h', S (.fn f) args h0 = some (.ret v, h') → ∀ G w μ vs, HRel P G w (lift h0) μ → GlobRel G w glob → LRel G w (lift h0) μ args vs.toList → Zero h0 →
    Acts P f vs w (fun r w' => ∃ G' μ', Mv G w (lift h0) μ G' w' (lift h') μ' ∧ HRel P G' w' (lift h') μ' ∧ RV G' w' (lift h') μ' v r)
  yld : ∀ id args h0 v h', S (.yld id) args h0 = some (.ret v, h') → ∀ G w μ (vs : Array Value), HRel P G w (lift h0) μ → GlobRel G w glob → LRel G w (lift h0) μ args vs.toList → Zero h0 →
    ∃ b c, μ id = some (b, c) ∧ (∃ t ps a bo p, h0[id]? = some (.loop t ps a bo p)) ∧ Yields P b vs w (fun r w' => ∃ G' μ', Mv G w (lift h0) μ G' w' (lift h') μ' ∧ HRel P G' w' (lift h') μ' ∧ RV G' w' (lift h') μ' v r)

/-- What an operation does, step by step. -/
def TurnS (P : Program) (G : Ghost) (w : World) (h : HF) (μ : Loc) (a : Array Value) (o : Oper) (h' : HF) (x : LV) : Prop :=
  ∀ (b : Base) (ops : Array Oper) (i : Nat) (rest : List Nat) (d : List Deferred) (k : List Item) (cs : List Frame), ops[i]? = some o → Region.wanted o (yielded ops a) = true →
    ∃ v w' G' μ', Steps P (lone (b.fr a d (.inRegion ops (i :: rest) :: k)) cs w) (lone (b.fr (putV a o.dst v) d (.inRegion ops rest :: k)) cs w') ∧ Mv G w h μ G' w' h' μ' ∧ HRel P G' w' h' μ' ∧ RV G' w' h' μ' x v

section
variable {P : Program} {glob : Nat → Row} {G : Ghost} {w : World} {h : HF} {μ : Loc}
variable {t : List LV} {a : Array Value} {o : Oper} {S : SFn} {hl : List Blk} {res : OpR}

theorem Turn.steps {h' : HF} {x : LV} (hd : ∀ c, o.op ≠ .defer c) (r : Turn P G w h μ a o h' x) : TurnS P G w h μ a o h' x := by
  intro b ops i rest d k cs ho hw
  obtain ⟨nx, v, w', G', μ', h1, h2, h3, h4, h5⟩ := r
  refine ⟨v, w', G', μ', .one ?_, h3, h4, h5⟩
  rcases h2 with rfl | ⟨rfl, rfl⟩
  · exact s_value ho hw hd h1
  · exact s_skipOp ho hw hd h1

theorem Acts.steps {f : FuncId} {vs : Array Value} {h' : HF} {x : LV} (hd : ∀ c, o.op ≠ .defer c) (he : (execOp (ev a) o).run P w = (callFunc f vs).run P w)
    (r : Acts P f vs w (fun r w' => ∃ G' μ', Mv G w h μ G' w' h' μ' ∧ HRel P G' w' h' μ' ∧ RV G' w' h' μ' x r)) : TurnS P G w h μ a o h' x := by
  intro b ops i rest d k cs ho hw
  rcases r with ⟨h1, h2⟩ | ⟨r, w', h1, G', μ', h3, h4, h5⟩
  · obtain ⟨e, w', fr, ⟨r, rfl, G', μ', h3, h4, h5⟩, h6, h7, h8⟩ := h2 (b.fr a d (.inRegion ops (i :: rest) :: k) :: cs)
    refine ⟨r, w', G', μ', ?_, h3, h4, h5⟩
    refine .head (s_enter ho hw hd (he.trans h1)) (Steps.trans h6 ?_)
    refine .one ?_
    rw [step_leave_returned h8, fin_op]
    simp [ho]
  · exact ⟨r, w', G', μ', .one (s_value ho hw hd (he.trans h1)), h3, h4, h5⟩

theorem Yields.steps {l : Nat} {vs : Array Value} {h' : HF} {x : LV} (hd : ∀ c, o.op ≠ .defer c) (he : (execOp (ev a) o).run P w = (Instr.yield l vs).run P w)
    (r : Yields P l vs w (fun r w' => ∃ G' μ', Mv G w h μ G' w' h' μ' ∧ HRel P G' w' h' μ' ∧ RV G' w' h' μ' x r)) : TurnS P G w h μ a o h' x := by
  intro b ops i rest d k cs ho hw
  obtain ⟨f, t, as, bo, h1, h2⟩ := r
  obtain ⟨r, w', ⟨G', μ', h3, h4, h5⟩, h6⟩ := h2 (b.fr a d (.inRegion ops (i :: rest) :: k)) cs
  refine ⟨r, w', G', μ', ?_, h3, h4, h5⟩
  refine .head (s_round ho hw hd (he.trans h1)) ?_
  rw [fin_op] at h6
  simpa [ho] using h6

/-! ### Handing over -/
theorem lendP_rv (r : HRel P G w h μ) {x : LV} {v : Value} {row : Row} (hx : RV G w h μ x v) (e : lendP hl x = some row) (hA : ∀ id ∈ idsOf x, h id = hl[id]?) :
    ∃ Gl, Evo G w Gl w ∧ (∀ b, w.heap.size ≤ b → Gl b = 0) ∧ RV Gl w h μ (.fp row 0) v := by
  unfold lendP at e
  split at e
  · rename_i id off
    split at e <;> try cases e
    rename_i cells _ hb
    split at e <;> try cases e
    rename_i h0; subst h0
    obtain ⟨q1, q2⟩ := allPV_get e
    have hh : h id = some (.data cells _) := (hA id (by simp [idsOf])).trans hb
    obtain ⟨b, ex, hd, hv⟩ := hx.ptr_inv
    obtain ⟨c, hm⟩ := hv cells _ hh
    obtain ⟨b1, c1, vs, tt, m1, m2, m3, m4, m5⟩ := r.own id _ hh
    obtain rfl : b1 = b := by rw [m1] at hm; cases hm; rfl
    refine ⟨sealed G b1 cells.length, sealed_evo G w b1 _, fun k hk => ?_, ?_⟩
    · have : k ≠ b1 := by have := blk_lt m2; omega
      unfold sealed; simp [this]; exact r.new k hk
    · rw [ex]
      refine .fp row 0 b1 0 (fun j => vs.getD j undef) (fun j p hp => ?_) (fun j p hp => ?_)
      · have hj : j < row.length := (List.getElem?_eq_some_iff.1 hp).1
        have hj' : j < vs.size := by omega
        rw [Nat.zero_add, blk_cell m2]
        exact ⟨by simp [hj'], by unfold sealed; simp; omega⟩
      · have hj : j < row.length := (List.getElem?_eq_some_iff.1 hp).1
        have hj' : j < vs.size := by omega
        have := (m5 j _ vs[j] (q2 j p hp) (by simp [hj'])).1.pv_inv.evo (sealed_evo G w b1 cells.length)
        simpa [hj'] using this
  · rename_i r0 off
    split at e <;> cases e
    rename_i h0; subst h0
    exact ⟨G, Evo.refl .., r.new, hx⟩
  · cases e
    cases hx with
    | pv p v hp => cases hp with
      | ptr row b off vs hs hr => exact ⟨G, Evo.refl .., r.new, .fp _ 0 b off vs hs hr⟩
  · cases e

theorem freeze_noids : ∀ (k : Nat) {x : LV} {p : PV} {hl' : List Blk}, freeze k hl x = some (p, hl') → idsOf x = [] → hl' = hl ∧ ∀ {G : Ghost} {w : World} {h : HF} {μ : Loc} {v : Value}, RV G w h μ x v → RP G w p v
  | 0, _, _, _, e, _ => by simp [freeze] at e
  | k + 1, x, p, hl', e, hi => by
    simp only [freeze] at e
    split at e
    · cases e; exact ⟨rfl, fun r => r.pv_inv⟩
    · cases e; exact ⟨rfl, fun r => by rw [r.nils_inv]; exact .list0 none 0 (by simp)⟩
    · cases e; exact ⟨rfl, fun r => by obtain ⟨_, _, hp⟩ := r.full_inv; exact hp⟩
    · split at e <;> cases e
      rename_i h0; subst h0
      exact ⟨rfl, fun r => by obtain ⟨b, base, vs, ex, m1, m2⟩ := r.fp_inv; rw [ex]; exact .ptr _ b base vs m1 m2⟩
    · simp [idsOf] at hi
    · simp [idsOf] at hi
    · split at e <;> cases e
      rename_i t y q he
      obtain ⟨h1, h2⟩ := freeze_noids k he (by simpa [idsOf] using hi)
      refine ⟨h1, fun r => ?_⟩
      cases r with
      | ifc _ _ u hu => exact .iface _ _ _ (h2 hu)
    · cases e

theorem freezeAll_noids : ∀ (k : Nat) {xs : List LV} {row : Row} {hl' : List Blk}, freezeAll k hl xs = some (row, hl') → idsOfs xs = [] → hl' = hl ∧ row.length = xs.length ∧
    ∀ {G : Ghost} {w : World} {h : HF} {μ : Loc} (j : Nat) (x : LV) (p : PV) (v : Value), xs[j]? = some x → row[j]? = some p → RV G w h μ x v → RP G w p v
  | k, [], row, hl', e, _ => by
    have : row = [] ∧ hl' = hl := by cases k <;> simp [freezeAll] at e <;> first | exact ⟨e.1.symm, e.2.symm⟩ | exact ⟨e.1, e.2.symm⟩ | exact ⟨e.1.symm, e.2⟩ | exact e
    obtain ⟨rfl, rfl⟩ := this
    exact ⟨rfl, rfl, fun j x p v h => by simp at h⟩
  | 0, _ :: _, _, _, e, _ => by simp [freezeAll] at e
  | k + 1, x :: xs, row, hl', e, hi => by
    simp only [idsOfs, List.append_eq_nil_iff] at hi
    simp only [freezeAll] at e
    split at e <;> try cases e
    rename_i p h1 he1
    split at e <;> cases e
    rename_i row' he2
    obtain ⟨e1, f2⟩ := freeze_noids (hl := hl) k he1 hi.1
    rw [e1] at he2
    obtain ⟨e2, g2, g3⟩ := freezeAll_noids k he2 hi.2
    refine ⟨e2, by simp [g2], fun j y q v hy hq r => ?_⟩
    cases j with
    | zero => simp at hy hq; subst hy; subst hq; exact f2 r
    | succ j => simp at hy hq; exact g3 j y q v hy hq r

theorem freezeRow_noids {n : Nat} {x : LV} {v : Value} {r : Row} {hl' : List Blk} {k : List Bool} (e : freezeRow (prims glob) hl n x = some (r, hl', k)) (hk : k.all id = true) (hi : idsOf x = []) (hr : isRow x = true) (hx : RV G w h μ x v) :
    hl' = hl ∧ RV G w h μ (.prow r) v := by
  unfold freezeRow at e
  split at e
  · cases e; exact ⟨rfl, hx⟩
  · rename_i hnp
    split at e <;> try cases e
    rename_i l hl0
    split at e <;> cases e
    rename_i hf
    cases x <;> simp [isRow] at hr
    · exact absurd rfl (hnp _)
    rename_i l'
    obtain ⟨cs, rfl, h1, h2, h3⟩ := hx.row_inv
    simp only [cellsOf] at hl0
    split at hl0 <;> cases hl0
    obtain ⟨rfl, q2, q3⟩ := freezeAll_noids depth hf (by simpa [idsOf] using hi)
    refine ⟨rfl, .prow r cs (by omega) (fun j p c hp hc => ?_)⟩
    have hj : j < l.length := by rw [← q2]; exact (List.getElem?_eq_some_iff.1 hp).1
    exact q3 j _ p c (List.getElem?_eq_getElem hj) hp (h2 j _ c (List.getElem?_eq_getElem hj) hc)

/-- The arguments: as the callee will see them, under what is lent. -/
structure Prepped (P : Program) (G : Ghost) (w : World) (h : HF) (μ : Loc) (xs : List LV) (vs : List Value) (lent : Bool) (h1 : HF) (G1 GL : Ghost) : Prop where
  mv : Mv G w h μ G1 w h1 μ
  hr : HRel P G1 w h1 μ
  evo : Evo G1 w GL w
  new : ∀ b, w.heap.size ≤ b → GL b = 0
  same : lent = false → GL = G1
  rel : LRel GL w h1 μ xs vs

def gmax (a b : Ghost) : Ghost := fun k => max (a k) (b k)

theorem prep_cons {h1 h2 : HF} {G1 G2 GL Gx : Ghost} {xs : List LV} {vs : List Value} {x : LV} {v : Value} {l1 l2 : Bool} (m1 : Mv G w h μ G1 w h1 μ) (p : Prepped P G1 w h1 μ xs vs l2 h2 G2 GL) (ex : Evo G1 w Gx w) (hx : RV Gx w h1 μ x v) (hnew : ∀ b, w.heap.size ≤ b → Gx b = 0)
    (hl1 : l1 = false → Gx = G1) : ∃ GL', Prepped P G w h μ (x :: xs) (v :: vs) (l2 || l1) h2 G2 GL' := by
  cases l1 with
  | false =>
    obtain rfl := hl1 rfl
    exact ⟨GL, m1.trans p.mv, p.hr, p.evo, p.new, fun hh => p.same (by simpa using hh), .cons ((hx.evo p.mv.evo p.mv.comp).evo p.evo (Comp.refl ..)) p.rel⟩
  | true =>
    have e1 : Evo GL w (gmax GL Gx) w := Ren.evo (fun b o ho => by unfold gmax; omega)
    have e2 : Evo Gx w (gmax GL Gx) w := Ren.evo (fun b o ho => by unfold gmax; omega)
    refine ⟨gmax GL Gx, m1.trans p.mv, p.hr, p.evo.trans e1, fun b hb => by unfold gmax; rw [p.new b hb, hnew b hb]; rfl, fun hh => by simp at hh, .cons (hx.evo e2 p.mv.comp) (p.rel.evo e1 (Comp.refl ..))⟩

theorem prep_rvS : ∀ {xs : List Operand} {as : List (AM × RO)} {hl : List Blk} {G : Ghost} {r : ArgR}, Ctx P glob G w (lift hl) μ t a → ckArgs xs as = true → prep (prims glob) t hl as = some r → r.oks.all id = true →
    ∃ G1 GL, Prepped P G w (lift hl) μ r.args (xs.map (ev a)) r.lent (lift r.heap) G1 GL
  | [], [], hl, G, r, c, _, e, _ => by
    simp [prep] at e; subst e
    exact ⟨G, G, Mv.refl .., c.hr, Evo.refl .., c.hr.new, fun _ => rfl, rfl, fun j x v h => by simp at h⟩
  | o0 :: xs, (m, y) :: as, hl, G, r, c, hc, e, hk => by
    simp only [ckArgs, Bool.and_eq_true] at hc
    simp only [prep] at e
    split at e <;> try cases e
    rename_i x h1 k1 ha
    split at e <;> cases e
    rename_i r' hrec
    simp only [List.all_append, Bool.and_eq_true] at hk
    obtain ⟨⟨hk0, hk1⟩, hk2⟩ := hk
    have hx := sv_rv c.tr c.gr hc.1 hk0
    cases m with
    | own =>
      simp only [argOf] at ha; cases ha
      obtain ⟨G2, GL, p⟩ := prep_rvS c hc.2 hrec hk2
      obtain ⟨GL', p'⟩ := prep_cons (l1 := false) (Mv.refl ..) p (Evo.refl ..) hx c.hr.new (fun _ => rfl)
      exact ⟨G2, GL', p'⟩
    | frz =>
      simp only [argOf] at ha
      split at ha <;> cases ha
      rename_i p0 hf
      obtain ⟨G1, f1, f2, f3, -⟩ := freeze_rv depth c.hr hx hf
      obtain ⟨G2, GL, p⟩ := prep_rvS (c.mv f1 f2) hc.2 hrec hk2
      obtain ⟨GL', p'⟩ := prep_cons (l1 := false) f1 p (Evo.refl ..) (.pv _ _ f3) f2.new (fun _ => rfl)
      exact ⟨G2, GL', p'⟩
    | frzR n =>
      simp only [argOf] at ha
      split at ha <;> try cases ha
      rename_i hrow
      split at ha <;> cases ha
      rename_i row hf
      obtain ⟨G1, f1, f2, f3, f4, f5, f6⟩ := freezeRow_rv c.hr hx hf hk1 (.inr trivial)
      have hagg : ∃ cs, ev a o0 = .agg cs := by
        cases hxx : (sv (prims glob) t y).1 <;> rw [hxx] at hrow hx <;> simp [isRow] at hrow
        · obtain ⟨cs, e, -⟩ := hx.prow_inv; exact ⟨cs, e⟩
        · obtain ⟨cs, e, -⟩ := hx.row_inv; exact ⟨cs, e⟩
      obtain ⟨cs, ecs⟩ := hagg
      have hv : RV G1 w (lift h1) μ (.prow row) (ev a o0) := by
        rw [ecs] at f4 f6 ⊢
        exact .prow row cs (by simp only [Value.cells] at f4; omega) f6
      obtain ⟨G2, GL, p⟩ := prep_rvS (c.mv f1 f2) hc.2 hrec hk2
      obtain ⟨GL', p'⟩ := prep_cons (l1 := false) f1 p (Evo.refl ..) hv f2.new (fun _ => rfl)
      exact ⟨G2, GL', p'⟩
    | lendP =>
      simp only [argOf] at ha
      split at ha <;> cases ha
      rename_i row hf
      obtain ⟨Gl, g1, g2, g3⟩ := lendP_rv c.hr hx hf (fun _ _ => rfl)
      obtain ⟨G2, GL, p⟩ := prep_rvS c hc.2 hrec hk2
      obtain ⟨GL', p'⟩ := prep_cons (l1 := true) (Mv.refl ..) p g1 g3 g2 (by simp)
      exact ⟨G2, GL', p'⟩
    | lend => simp [argOf] at ha
    | lendR n => simp [argOf] at ha
  | [], _ :: _, _, _, _, _, hc, _, _ => by simp [ckArgs] at hc
  | _ :: _, [], _, _, _, _, hc, _, _ => by simp [ckArgs] at hc

theorem prep_rvD : ∀ {xs : List Operand} {as : List (AM × RO)} {r : ArgR} {rd wr : List Nat}, Ctx P glob G w h μ t a → ckArgs xs as = true → argIds (prims glob) t as = some (rd, wr) → (∀ i ∈ rd, h i = hl[i]?) → prep (prims glob) t hl as = some r → r.oks.all id = true →
    r.heap = hl ∧ idsOfs r.args = wr ∧ ∃ G1 GL, Prepped P G w h μ r.args (xs.map (ev a)) r.lent h G1 GL
  | [], [], r, rd, wr, c, _, hw, _, e, _ => by
    simp [prep] at e; subst e
    simp [argIds] at hw
    exact ⟨rfl, by simp [idsOfs, hw.2], G, G, Mv.refl .., c.hr, Evo.refl .., c.hr.new, fun _ => rfl, rfl, fun j x v h => by simp at h⟩
  | o0 :: xs, (m, y) :: as, r, rd, wr, c, hc, hw, hA, e, hk => by
    simp only [ckArgs, Bool.and_eq_true] at hc
    simp only [argIds] at hw
    split at hw <;> try cases hw
    rename_i rd' wr' hw'
    simp only [prep] at e
    split at e <;> try cases e
    rename_i x h1 k1 ha
    split at e <;> cases e
    rename_i r' hrec
    simp only [List.all_append, Bool.and_eq_true] at hk
    obtain ⟨⟨hk0, hk1⟩, hk2⟩ := hk
    have hx := sv_rv c.tr c.gr hc.1 hk0
    cases m with
    | own =>
      simp only [argOf] at ha; cases ha
      simp at hw; obtain ⟨rfl, rfl⟩ := hw
      obtain ⟨q1, q2, G2, GL, p⟩ := prep_rvD c hc.2 hw' hA hrec hk2
      obtain ⟨GL', p'⟩ := prep_cons (l1 := false) (Mv.refl ..) p (Evo.refl ..) hx c.hr.new (fun _ => rfl)
      exact ⟨q1, by simp [idsOfs, q2], G2, GL', p'⟩
    | frz =>
      simp only [argOf] at ha
      split at ha <;> cases ha
      rename_i p0 hf
      simp only at hw
      split at hw <;> cases hw
      rename_i hids
      obtain ⟨e1, f2⟩ := freeze_noids (hl := hl) depth hf hids
      rw [e1] at hrec
      obtain ⟨q1, q2, G2, GL, p⟩ := prep_rvD c hc.2 hw' hA hrec hk2
      obtain ⟨GL', p'⟩ := prep_cons (l1 := false) (Mv.refl ..) p (Evo.refl ..) (.pv _ _ (f2 hx)) c.hr.new (fun _ => rfl)
      exact ⟨q1, by simp [idsOfs, idsOf, q2], G2, GL', p'⟩
    | frzR n =>
      simp only [argOf] at ha
      split at ha <;> try cases ha
      rename_i hrow
      split at ha <;> cases ha
      rename_i row hf
      simp only at hw
      split at hw <;> cases hw
      rename_i hids
      obtain ⟨e1, f2⟩ := freezeRow_noids (hl := hl) hf hk1 hids hrow hx
      rw [e1] at hrec
      obtain ⟨q1, q2, G2, GL, p⟩ := prep_rvD c hc.2 hw' hA hrec hk2
      obtain ⟨GL', p'⟩ := prep_cons (l1 := false) (Mv.refl ..) p (Evo.refl ..) f2 c.hr.new (fun _ => rfl)
      exact ⟨q1, by simp [idsOfs, idsOf, q2], G2, GL', p'⟩
    | lendP =>
      simp only [argOf] at ha
      split at ha <;> cases ha
      rename_i row hf
      simp at hw; obtain ⟨rfl, rfl⟩ := hw
      obtain ⟨Gl, g1, g2, g3⟩ := lendP_rv c.hr hx hf (fun i hi => hA i (by simp [hi]))
      obtain ⟨q1, q2, G2, GL, p⟩ := prep_rvD c hc.2 hw' (fun i hi => hA i (by simp [hi])) hrec hk2
      obtain ⟨GL', p'⟩ := prep_cons (l1 := true) (Mv.refl ..) p g1 g3 g2 (by simp)
      exact ⟨q1, by simp [idsOfs, idsOf, q2], G2, GL', p'⟩
    | lend => simp [argOf] at ha
    | lendR n => simp [argOf] at ha
  | [], _ :: _, _, _, _, _, hc, _, _, _, _ => by simp [ckArgs] at hc
  | _ :: _, [], _, _, _, _, hc, _, _, _, _ => by simp [ckArgs] at hc
end
end AI
end

section
namespace AI
open Go

section
variable {P : Program} {glob : Nat → Row} {G : Ghost} {w : World} {h : HF} {μ : Loc}
variable {t : List LV} {a : Array Value} {o : Oper} {S : SFn} {hl : List Blk} {res : OpR}

theorem flatP_rv {G' : Ghost} {w' : World} {p : PV} {v : Value} (hf : (prims glob).flat p = true) (r : RP G w p v) : RP G' w' p v := by
  simp only [prims] at hf
  split at hf <;> first | (cases hf; done) | (cases r; constructor)

theorem flatLs_get {M : Prims} : ∀ {l : List LV} {k : List Bool}, flatLs M l = some k → k.all id = true → ∀ (j : Nat) (x : LV), l[j]? = some x → ∃ k', flatL M x = some k' ∧ k'.all id = true
  | [], _, _, _, j, x, h => by simp at h
  | y :: l, k, e, hk, j, x, h => by
    simp only [flatLs] at e
    split at e <;> cases e
    rename_i k1 k2 e1 e2
    simp only [List.all_append, Bool.and_eq_true] at hk
    cases j with
    | zero => simp at h; subst h; exact ⟨k1, e1, hk.1⟩
    | succ j => simp at h; exact flatLs_get e2 hk.2 j x h

/-- What leads to no list is what it was in any world. -/
theorem flat_rv {G' : Ghost} {w' : World} {h' : HF} {μ' : Loc} {x : LV} {v : Value} (r : RV G w h μ x v) : ∀ {k : List Bool}, flatL (prims glob) x = some k → k.all id = true → RV G' w' h' μ' x v := by
  induction r with
  | pv p v hp => intro k e hk; simp only [flatL] at e; cases e; exact .pv _ _ (flatP_rv (glob := glob) (by simpa using hk) hp)
  | prow r cs hl hr =>
    intro k e hk
    simp only [flatL] at e; cases e
    have hk : (prims glob).flatR r = true := by simpa using hk
    simp only [prims] at hk
    refine .prow r cs hl (fun j p c hp hc => flatP_rv (glob := glob) ?_ (hr j p c hp hc))
    exact List.all_eq_true.1 hk p (List.mem_of_getElem? hp)
  | row l cs hl hr ho ih =>
    intro k e hk
    simp only [flatL] at e
    refine .row l cs hl (fun j x c hx hc => ?_) ho
    obtain ⟨k', e', hk'⟩ := flatLs_get e hk j x hx
    exact ih j x c hx hc e' hk'
  | tup l cs hl hr ih =>
    intro k e hk
    simp only [flatL] at e
    refine .tup l cs hl (fun j x c hx hc => ?_)
    obtain ⟨k', e', hk'⟩ := flatLs_get e hk j x hx
    exact ih j x c hx hc e' hk'
  | _ => intro k e; simp [flatL] at e

theorem zero_hand {R : List Nat} : Zero (renBlks hl (fun i => posIn i R 0) (toZero hl) R) := by
  intro id sz v f rows hb
  rw [renBlks_get, Option.map_eq_some_iff] at hb
  obtain ⟨i, hi, hb⟩ := hb
  cases hg : hl[i]? with
  | none => simp [List.getD, hg, renBlk] at hb
  | some b =>
    simp only [List.getD, hg, Option.getD_some] at hb
    cases b <;> simp [renBlk] at hb
    rename_i sz0 v0 f0 rows0
    have hvo : verOf hl i = some v0 := by simp [verOf, hg]
    rw [← hb.2.1]; simp [toZero, hvo]

/-- Behind a call, whatever was called. -/
theorem after_call {R : List Nat} {h2 : List Blk} {v : LV} {xs : List LV} {vs : List Value} {lent : Bool} {h1 : HF} {G1 GL : Ghost} (p : Prepped P G w h μ xs vs lent h1 G1 GL) (hn : R.Nodup) (hR : ∀ i ∈ R, i < hl.length)
    (hA : ∀ i ∈ R, h1 i = hl[i]?) (hF : ∀ id, hl.length ≤ id → id < hl.length + (h2.length - R.length) → h1 id = none)
    (hlent : lent = true → R = [] ∧ h2 = [] ∧ ∃ k, flatL (prims glob) (ren (backR R hl.length) (backV hl R) v) = some k ∧ k.all id = true) {r : Value} {w' : World}
    (hc : ∃ G' μ', Mv GL w (lift (renBlks hl (fun i => posIn i R 0) (toZero hl) R)) (locOf μ R) G' w' (lift h2) μ' ∧ HRel P G' w' (lift h2) μ' ∧ RV G' w' (lift h2) μ' v r) :
    ∃ G' μ', Mv G w h μ G' w' (if lent then h1 else backHF hl R h2 h1) μ' ∧ HRel P G' w' (if lent then h1 else backHF hl R h2 h1) μ' ∧ RV G' w' (if lent then h1 else backHF hl R h2 h1) μ' (ren (backR R hl.length) (backV hl R) v) r := by
  obtain ⟨G', μ2, m, r2, hv⟩ := hc
  cases hl0 : lent with
  | false =>
    obtain rfl := p.same hl0
    obtain ⟨k1, k2, k3⟩ := call_back hn hR hA hF p.hr m r2
    exact ⟨G', _, by simpa using p.mv.trans k1, by simpa using k2, by simpa using ren_rv (back_ren hn hR) hv⟩
  | true =>
    obtain ⟨rfl, rfl, k, hk1, hk2⟩ := hlent hl0
    have hfr : ∀ b, b < w.heap.size → w'.heap[b]? = w.heap[b]? ∧ G' b = GL b := fun b hb => m.frame b hb (fun id x c hx => by simp [lift, renBlks] at hx)
    let G2 : Ghost := fun b => if b < w.heap.size then G1 b else 0
    have hlt : ∀ b o, o < G1 b → b < w.heap.size := fun b o ho => by
      rcases Nat.lt_or_ge b w.heap.size with h | h
      · exact h
      · rw [p.hr.new b h] at ho; omega
    have evo : Evo G1 w G2 w' := ⟨m.evo.os, m.evo.tape, m.evo.output, m.evo.size, fun b o ho => by
      have hb := hlt b o ho
      refine ⟨by simp [G2, hb]; exact ho, ?_⟩
      simp [World.cell?, (hfr b hb).1]⟩
    have mv : Mv G1 w h1 μ G2 w' h1 μ := ⟨evo, Comp.refl .., fun b hb _ => ⟨(hfr b hb).1, by simp [G2, hb]⟩, fun id x' b c hx hd hm => .inr ⟨id, x', c, hx, hd, hm⟩⟩
    have hr : HRel P G2 w' h1 μ := ⟨fun id blk hb => (p.hr.own id blk hb).keep evo (Comp.refl ..) rfl (fun b c hm hd => by
        have hb' := (p.hr.own id blk hb).lt hd hm
        exact ⟨(hfr b hb').1, by simp [G2, hb']⟩), p.hr.inj, fun b hb => by
        have : ¬ b < w.heap.size := by have := m.evo.size; omega
        simp [G2, this]⟩
    have hv' := ren_rv (back_ren (h2 := []) (h := h1) (μ := μ) (μ2 := μ2) hn hR) hv
    exact ⟨G2, μ, by simpa using p.mv.trans mv, by simpa using hr, by simpa using flat_rv hv' hk1 hk2⟩

/-- What the callee is given. -/
theorem give {R : List Nat} {xs : List LV} {vs : List Value} {lent : Bool} {h1 : HF} {G1 GL : Ghost} (p : Prepped P G w h μ xs vs lent h1 G1 GL) (hg : GlobRel G w glob) (hn : R.Nodup)
    (hA : ∀ i ∈ R, h1 i = hl[i]?) (hlent : lent = true → R = []) :
    HRel P GL w (lift (renBlks hl (fun i => posIn i R 0) (toZero hl) R)) (locOf μ R) ∧ GlobRel GL w glob ∧ LRel GL w (lift (renBlks hl (fun i => posIn i R 0) (toZero hl) R)) (locOf μ R) (rens (fun i => posIn i R 0) (toZero hl) xs) vs := by
  refine ⟨?_, (hg.evo p.mv.evo).evo p.evo, p.rel.ren (hand_ren hA)⟩
  cases hl0 : lent with
  | false => obtain rfl := p.same hl0; exact hand_hrel hA hn p.hr
  | true =>
    obtain rfl := hlent hl0
    exact ⟨fun id blk hb => by simp [lift, renBlks] at hb, fun i j x y b c c' hi => by simp [lift, renBlks] at hi, p.new⟩

theorem callee_fn {x : Operand} (c : Call) (f : FuncId) (hop : o.op = .call c) (hc : c.callee = .value x) {fs cs : Array Value} (hx : ev a x = .func (.func f) fs cs) :
    (execOp (ev a) o).run P w = (callFunc f (fs ++ c.args.map (ev a) ++ cs)).run P w := by
  simp only [execOp, hop, resolve, hc, hx, Deferred.ofValue, Sem.run_bind, Sem.run_pure, Result.andThen_ok, invoke]
theorem callee_yield {x : Operand} (c : Call) (l : Nat) (hop : o.op = .call c) (hc : c.callee = .value x) (hx : ev a x = .func (.yield l) #[] #[]) :
    (execOp (ev a) o).run P w = (Instr.yield l (c.args.map (ev a))).run P w := by
  simp only [execOp, hop, resolve, hc, hx, Deferred.ofValue, Sem.run_bind, Sem.run_pure, Result.andThen_ok, invoke, Array.empty_append]

theorem layNew_length (h : List Blk) (R : List Nat) : ∀ (l : List Blk) (k : Nat), (layNew h R k l).length = l.length
  | [], _ => rfl
  | b :: l, k => by simp [layNew, layNew_length h R l (k + 1)]

theorem behind_inv {ar : ArgR} {R : List Nat} {x : Option (Out × List Blk)} (hr : behind (prims glob) ar R x = some (.ok res)) : ∃ v h2, x = some (.ret v, h2) ∧
    ((ar.lent = true ∧ R = [] ∧ h2 = [] ∧ ∃ k, flatL (prims glob) (ren (backR R ar.heap.length) (backV ar.heap R) v) = some k ∧ res = ⟨ren (backR R ar.heap.length) (backV ar.heap R) v, ar.heap, ar.oks ++ k⟩) ∨
     (ar.lent = false ∧ R.length ≤ h2.length ∧ res = ⟨ren (backR R ar.heap.length) (backV ar.heap R) v, backHeap ar.heap R h2, ar.oks⟩)) := by
  unfold behind at hr
  split at hr
  · cases hr
  · rename_i v h2
    refine ⟨v, h2, rfl, ?_⟩
    simp only [takeBack] at hr
    split at hr
    · rename_i hl0
      split at hr <;> cases hr
      rename_i k hf
      exact .inl ⟨hl0, rfl, rfl, k, hf, rfl⟩
    · rename_i hl0
      split at hr <;> cases hr
      rename_i hle
      exact .inr ⟨by simpa using hl0, by simpa using hle, rfl⟩
  · simp only at hr
    split at hr <;> cases hr

theorem behind_oks {ar : ArgR} {R : List Nat} {x : Option (Out × List Blk)} (hr : behind (prims glob) ar R x = some (.ok res)) (hk : res.oks.all id = true) : ar.oks.all id = true := by
  obtain ⟨v, h2, -, h | h⟩ := behind_inv hr
  · obtain ⟨-, -, -, k, -, rfl⟩ := h
    simp only [List.all_append, Bool.and_eq_true] at hk
    exact hk.1
  · obtain ⟨-, -, rfl⟩ := h; exact hk

/-- The heap behind a call, and how the list of blocks tells it. -/
structure Behind (ar : ArgR) (R : List Nat) (h2 : List Blk) (h1 : HF) (hl' : List Blk) (h' : HF) : Prop where
  lent : ar.lent = true → hl' = ar.heap ∧ h' = h1
  own : ar.lent = false → hl' = backHeap ar.heap R h2 ∧ h' = backHF ar.heap R h2 h1 ∧ R.length ≤ h2.length

theorem Prepped.ext {xs : List LV} {vs : List Value} {lent : Bool} {h1 : HF} {G1 GL : Ghost} {first caps : List LV} {fs cs : List Value} (p : Prepped P G w h μ xs vs lent h1 G1 GL) (hf : LRel G w h μ first fs) (hc : LRel G w h μ caps cs) :
    Prepped P G w h μ (first ++ xs ++ caps) (fs ++ vs ++ cs) lent h1 G1 GL :=
  ⟨p.mv, p.hr, p.evo, p.new, p.same, (((hf.evo p.mv.evo p.mv.comp).evo p.evo (Comp.refl ..)).append p.rel).append ((hc.evo p.mv.evo p.mv.comp).evo p.evo (Comp.refl ..))⟩

theorem back_length {R : List Nat} {h2 : List Blk} : (backHeap hl R h2).length = hl.length + (h2.length - R.length) := by
  simp [backHeap, layOld_length, layNew_length]

/-- What stands behind a call, whatever was called. -/
theorem behind_step {ar : ArgR} {R : List Nat} {x : Option (Out × List Blk)} {xs : List LV} {vs : List Value} {h1 : HF} {G1 GL : Ghost} (hr : behind (prims glob) ar R x = some (.ok res)) (hk : res.oks.all id = true)
    (p : Prepped P G w h μ xs vs ar.lent h1 G1 GL) (hn : R.Nodup) (hR : ∀ i ∈ R, i < ar.heap.length) (hA : ∀ i ∈ R, h1 i = ar.heap[i]?) (hF : ∀ id, ar.heap.length ≤ id → id < res.heap.length → h1 id = none) :
    ∃ v h2 h', x = some (.ret v, h2) ∧ Behind ar R h2 h1 res.heap h' ∧ (ar.lent = true → R = []) ∧
      ∀ r w', (∃ G' μ', Mv GL w (lift (renBlks ar.heap (fun i => posIn i R 0) (toZero ar.heap) R)) (locOf μ R) G' w' (lift h2) μ' ∧ HRel P G' w' (lift h2) μ' ∧ RV G' w' (lift h2) μ' v r) →
        ∃ G' μ', Mv G w h μ G' w' h' μ' ∧ HRel P G' w' h' μ' ∧ RV G' w' h' μ' res.v r := by
  obtain ⟨v, h2, rfl, hh⟩ := behind_inv hr
  refine ⟨v, h2, if ar.lent then h1 else backHF ar.heap R h2 h1, rfl, ?_⟩
  rcases hh with ⟨hl0, rfl, rfl, k, hfl, rfl⟩ | ⟨hl0, hle, rfl⟩
  · simp only [List.all_append, Bool.and_eq_true] at hk
    refine ⟨⟨fun _ => ⟨rfl, by simp [hl0]⟩, fun e => by rw [hl0] at e; cases e⟩, fun _ => rfl, fun r w' hc => ?_⟩
    exact after_call (hl := ar.heap) p hn hR hA (h2 := []) (fun id h1 h2 => by simp at h2; omega) (fun _ => ⟨rfl, rfl, k, hfl, hk.2⟩) hc
  · refine ⟨⟨fun e => (by rw [hl0] at e; cases e), fun _ => ⟨rfl, by simp [hl0], hle⟩⟩, fun e => (by rw [hl0] at e; cases e), fun r w' hc => ?_⟩
    exact after_call (glob := glob) (hl := ar.heap) p hn hR hA (h2 := h2) (fun id e1 e2 => hF id e1 (by rw [back_length]; exact e2)) (fun e => by rw [hl0] at e; cases e) hc

/-- A call of a function, its operands already handed over. -/
theorem call_fn (hS : SoundFn P glob S) (hg : GlobRel G w glob) {c : Call} {x : Operand} (hop : o.op = .call c) (hc : c.callee = .value x) {f : FuncId} {fs cs : Array Value} (hx : ev a x = .func (.func f) fs cs)
    {first caps : List LV} {ar : ArgR} {args : List (AM × RO)} (hp : prep (prims glob) t hl args = some ar) {h1 : HF} {G1 GL : Ghost} (p : Prepped P G w h μ ar.args (c.args.toList.map (ev a)) ar.lent h1 G1 GL)
    (hfs : LRel G w h μ first fs.toList) (hcs : LRel G w h μ caps cs.toList)
    (hA : ∀ i ∈ reachable ar.heap (idsOfs (first ++ ar.args ++ caps)), h1 i = ar.heap[i]?) (hF : ∀ id, ar.heap.length ≤ id → id < res.heap.length → h1 id = none)
    (hr : callFn (prims glob) S f first caps t hl args = some (.ok res)) (hk : res.oks.all id = true) :
    ∃ h2 h', TurnS P G w h μ a o h' res.v ∧ Behind ar (reachable ar.heap (idsOfs (first ++ ar.args ++ caps))) h2 h1 res.heap h' := by
  have hn := reachable_nodup ar.heap (idsOfs (first ++ ar.args ++ caps))
  have hdef : ∀ cc, o.op ≠ .defer cc := by rw [hop]; simp
  have pe := p.ext hfs hcs
  have hvs : (fs ++ c.args.map (ev a) ++ cs).toList = fs.toList ++ c.args.toList.map (ev a) ++ cs.toList := by simp
  unfold callFn at hr
  rw [hp] at hr
  simp only [handOver] at hr
  by_cases hall : ((reachable ar.heap (idsOfs (first ++ ar.args ++ caps))).all fun i => i.blt ar.heap.length) = true
  case neg => simp only [hall, if_false, Bool.false_eq_true, reduceCtorEq] at hr
  simp only [hall, if_true] at hr
  have hR : ∀ i ∈ reachable ar.heap (idsOfs (first ++ ar.args ++ caps)), i < ar.heap.length := by
    intro i hi
    have := List.all_eq_true.1 hall i hi
    simpa using this
  obtain ⟨v, h2, h', hs, hb, hl, hst⟩ := behind_step hr hk pe hn hR hA hF
  obtain ⟨q1, q2, q3⟩ := give (hl := ar.heap) pe hg hn hA hl
  have hact := hS.fn _ _ _ _ _ hs GL w _ (fs ++ c.args.map (ev a) ++ cs) q1 q2 (by rw [hvs]; exact q3) zero_hand
  exact ⟨h2, h', Acts.steps hdef (callee_fn c f hop hc hx) (hact.mono fun r w' hh => hst r w' hh), hb⟩

/-- A round of a loop, its operands already handed over. -/
theorem call_yld (hS : SoundFn P glob S) (hg : GlobRel G w glob) {c : Call} {x : Operand} (hop : o.op = .call c) (hc : c.callee = .value x) {i0 : Nat} (hx : RV G w h μ (.yld i0) (ev a x))
    {ar : ArgR} {args : List (AM × RO)} (hp : prep (prims glob) t hl args = some ar) {h1 : HF} {G1 GL : Ghost} (p : Prepped P G w h μ ar.args (c.args.toList.map (ev a)) ar.lent h1 G1 GL)
    (hA : ∀ i ∈ reachable ar.heap (idsOfs (.yld i0 :: ar.args)), h1 i = ar.heap[i]?) (hF : ∀ j, ar.heap.length ≤ j → j < res.heap.length → h1 j = none)
    (hr : callYld (prims glob) S i0 t hl args = some (.ok res)) (hk : res.oks.all id = true) :
    ∃ h2 h', TurnS P G w h μ a o h' res.v ∧ Behind ar (reachable ar.heap (idsOfs (.yld i0 :: ar.args))) h2 h1 res.heap h' := by
  have hn := reachable_nodup ar.heap (idsOfs (.yld i0 :: ar.args))
  have hdef : ∀ cc, o.op ≠ .defer cc := by rw [hop]; simp
  unfold callYld at hr
  rw [hp] at hr
  simp only [handOver] at hr
  by_cases hall : ((reachable ar.heap (idsOfs (.yld i0 :: ar.args))).all fun i => i.blt ar.heap.length) = true
  case neg => simp only [hall, if_false, Bool.false_eq_true, reduceCtorEq] at hr
  simp only [hall, if_true] at hr
  have hR : ∀ i ∈ reachable ar.heap (idsOfs (.yld i0 :: ar.args)), i < ar.heap.length := by
    intro i hi
    have := List.all_eq_true.1 hall i hi
    simpa using this
  split at hr <;> try cases hr
  rename_i j l hjl
  simp only [rens, ren] at hjl
  obtain ⟨v, h2, h', hs, hb, hl, hst⟩ := behind_step hr hk p hn hR hA hF
  obtain ⟨q1, q2, q3⟩ := give (hl := ar.heap) p hg hn hA hl
  have hj : posIn i0 (reachable ar.heap (idsOfs (.yld i0 :: ar.args))) 0 = some j ∧ l = rens (fun i => posIn i (reachable ar.heap (idsOfs (.yld i0 :: ar.args))) 0) (toZero ar.heap) ar.args := by
    injection hjl with e1 e2
    refine ⟨?_, e2.symm⟩
    split at e1 <;> cases e1
    assumption
  obtain ⟨hj, rfl⟩ := hj
  obtain ⟨b, cc, hm, ⟨t0, ps0, a0, bo0, p0, hlp⟩, hact⟩ := hS.yld _ _ _ _ _ hs GL w _ (c.args.map (ev a)) q1 q2 (by simpa using q3) zero_hand
  have hRj := posIn_get hj
  have hm' : μ i0 = some (b, cc) := by simpa [locOf, hRj] using hm
  have hloop : ∃ t ps a bo p, h i0 = some (.loop t ps a bo p) := by
    have h0 := hA i0 (List.mem_of_getElem? hRj)
    rw [renBlks_get, hRj, Option.map_some] at hlp
    have hid := hR i0 (List.mem_of_getElem? hRj)
    rw [List.getElem?_eq_getElem hid] at h0
    simp only [List.getD, List.getElem?_eq_getElem hid, Option.getD_some] at hlp
    cases hbk : ar.heap[i0] <;> rw [hbk] at hlp <;> simp [renBlk] at hlp
    obtain ⟨b0, -, hd, -⟩ := hx.yld_inv
    obtain ⟨bb, hbb⟩ := hd
    obtain ⟨⟨t', ps', a', bo', p', e⟩, -⟩ := p.mv.comp.loop i0 bb _ _ _ _ _ hbb (h0.trans (by rw [hbk]))
    exact ⟨t', ps', a', bo', p', hbb.trans (by rw [e])⟩
  obtain ⟨t', ps', a', bo', p', hlo⟩ := hloop
  obtain ⟨b2, ex, hd, hv⟩ := hx.yld_inv
  obtain ⟨c2, hm2⟩ := hv _ _ _ _ _ hlo
  obtain rfl : b2 = b := by rw [hm'] at hm2; cases hm2; rfl
  exact ⟨h2, h', Yields.steps hdef (callee_yield c b2 hop hc ex) (hact.mono fun r w' hh => hst r w' hh), hb⟩
end
end AI
end

section
namespace AI
open Go

/-- How the heap's list and the heap itself change together: at what is written, and at what is new. -/
structure Eff (hl hl' : List Blk) (wr : List Nat) (h h' : HF) : Prop where
  len : hl.length ≤ hl'.length
  same : ∀ id, id ∉ wr → id < hl.length → hl'[id]? = hl[id]?
  eq : h' = fun id => if id ∈ wr ∨ (hl.length ≤ id ∧ id < hl'.length) then hl'[id]? else h id

theorem Eff.lift {hl hl' : List Blk} {wr : List Nat} {h' : HF} (e : Eff hl hl' wr (lift hl) h') : h' = AI.lift hl' := by
  rw [e.eq]
  funext id
  split
  · rfl
  · rename_i hn
    simp only [not_or, not_and, Nat.not_lt] at hn
    by_cases hid : id < hl.length
    · exact (e.same id hn.1 hid).symm
    · simp only [AI.lift]
      rw [List.getElem?_eq_none (by omega), List.getElem?_eq_none (hn.2 (by omega))]

theorem eff_same {hl : List Blk} {wr : List Nat} {h : HF} (hA : ∀ i ∈ wr, h i = hl[i]?) : Eff hl hl wr h h where
  len := Nat.le_refl _
  same _ _ _ := rfl
  eq := by
    funext id
    split
    · rename_i hc
      rcases hc with hc | hc
      · exact hA id hc
      · omega
    · rfl

theorem eff_chg {hl hl' : List Blk} {wr : List Nat} {h : HF} {n : Nat} {b : Blk} (hA : ∀ i ∈ wr, h i = hl[i]?) (c : Chg hl hl' wr n b) : Eff hl hl' wr h (ins h n b) := by
  rcases c with ⟨rfl, rfl⟩ | ⟨h1, h2, rfl⟩
  · refine ⟨by simp, fun id _ hid => List.getElem?_append_left hid, ?_⟩
    funext id
    simp only [ins]
    by_cases hid : id = hl.length
    · subst hid; simp
    · rw [if_neg hid]
      split
      · rename_i hc
        rcases hc with hc | hc
        · by_cases hlt : id < hl.length
          · rw [List.getElem?_append_left hlt]; exact hA id hc
          · rw [hA id hc, List.getElem?_eq_none (by omega), List.getElem?_eq_none (by simp; omega)]
        · simp at hc; omega
      · rfl
  · refine ⟨by simp, fun id hni hid => ?_, ?_⟩
    · have : n ≠ id := fun e => hni (e ▸ h2)
      simp [List.getElem?_set, this]
    · funext id
      simp only [ins]
      by_cases hid : id = n
      · subst hid; rw [if_pos rfl, if_pos (.inl h2)]; simp [h1]
      · rw [if_neg hid]
        split
        · rename_i hc
          rcases hc with hc | hc
          · rw [List.getElem?_set, if_neg (Ne.symm hid)]; exact hA id hc
          · simp at hc; omega
        · rfl

theorem eff_back {hl h2 : List Blk} {R : List Nat} {h : HF} (hR : ∀ i ∈ R, i < hl.length) (hm : R.length ≤ h2.length) : Eff hl (backHeap hl R h2) R h (backHF hl R h2 h) := by
  have key : ∀ id, (backHeap hl R h2)[id]? = backHF hl R h2 (AI.lift hl) id := fun id => congrFun (back_lift hR hm) id
  have len : (backHeap hl R h2).length = hl.length + (h2.length - R.length) := back_length
  refine ⟨by rw [len]; omega, fun id hni hid => ?_, ?_⟩
  · rw [key]
    have : src hl.length R h2.length id = none := by
      unfold src
      cases hp : posIn id R 0 with
      | some j => exact absurd (List.mem_of_getElem? (posIn_get hp)) hni
      | none => simp; omega
    simp [backHF, this]
  · funext id
    rw [key, len]
    cases hs : src hl.length R h2.length id with
    | some k =>
      rw [if_pos]
      · simp [backHF, hs]
      · unfold src at hs
        split at hs
        · rename_i j hp; exact .inl (List.mem_of_getElem? (posIn_get hp))
        · split at hs <;> cases hs
          rename_i hc; exact .inr hc
    | none =>
      rw [if_neg]
      · simp [backHF, hs]
      · unfold src at hs
        split at hs
        · cases hs
        · rename_i hp
          split at hs <;> try cases hs
          rename_i hc
          exact fun h => h.elim (posIn_none hp) hc

theorem eff_behind {ar : ArgR} {R : List Nat} {h2 hl' : List Blk} {h h' : HF} (hR : ∀ i ∈ R, i < ar.heap.length) (hA : ∀ i ∈ R, h i = ar.heap[i]?) (b : Behind ar R h2 h hl' h') : Eff ar.heap hl' R h h' := by
  cases hl0 : ar.lent with
  | true => obtain ⟨rfl, rfl⟩ := b.lent hl0; exact eff_same hA
  | false => obtain ⟨rfl, rfl, hm⟩ := b.own hl0; exact eff_back hR hm

section
variable {P : Program} {glob : Nat → Row} {G : Ghost} {w : World} {h : HF} {μ : Loc}
variable {t : List LV} {a : Array Value} {o : Oper} {S : SFn} {hl : List Blk} {res : OpR}

theorem reach_lt {ar : ArgR} {f : Nat} {first caps : List LV} {args : List (AM × RO)} (hp : prep (prims glob) t hl args = some ar) (hr : callFn (prims glob) S f first caps t hl args = some (.ok res)) :
    ∀ i ∈ reachable ar.heap (idsOfs (first ++ ar.args ++ caps)), i < ar.heap.length := by
  unfold callFn at hr
  rw [hp] at hr
  simp only [handOver] at hr
  by_cases hall : ((reachable ar.heap (idsOfs (first ++ ar.args ++ caps))).all fun i => i.blt ar.heap.length) = true
  case neg => simp only [hall, if_false, Bool.false_eq_true, reduceCtorEq] at hr
  intro i hi
  have := List.all_eq_true.1 hall i hi
  simpa using this
theorem reach_ltY {ar : ArgR} {i0 : Nat} {args : List (AM × RO)} (hp : prep (prims glob) t hl args = some ar) (hr : callYld (prims glob) S i0 t hl args = some (.ok res)) :
    ∀ i ∈ reachable ar.heap (idsOfs (.yld i0 :: ar.args)), i < ar.heap.length := by
  unfold callYld at hr
  rw [hp] at hr
  simp only [handOver] at hr
  by_cases hall : ((reachable ar.heap (idsOfs (.yld i0 :: ar.args))).all fun i => i.blt ar.heap.length) = true
  case neg => simp only [hall, if_false, Bool.false_eq_true, reduceCtorEq] at hr
  intro i hi
  have := List.all_eq_true.1 hall i hi
  simpa using this

theorem callFn_prep {f : Nat} {first caps : List LV} {args : List (AM × RO)} (hr : callFn (prims glob) S f first caps t hl args = some (.ok res)) (hk : res.oks.all id = true) :
    ∃ ar, prep (prims glob) t hl args = some ar ∧ ar.oks.all id = true := by
  unfold callFn at hr
  split at hr
  · cases hr
  rename_i ar hp
  refine ⟨ar, hp, ?_⟩
  simp only [handOver] at hr
  by_cases hall : ((reachable ar.heap (idsOfs (first ++ ar.args ++ caps))).all fun i => i.blt ar.heap.length) = true
  case neg => simp only [hall, if_false, Bool.false_eq_true, reduceCtorEq] at hr
  simp only [hall, if_true] at hr
  exact behind_oks hr hk
theorem callYld_prep {i0 : Nat} {args : List (AM × RO)} (hr : callYld (prims glob) S i0 t hl args = some (.ok res)) (hk : res.oks.all id = true) :
    ∃ ar, prep (prims glob) t hl args = some ar ∧ ar.oks.all id = true := by
  unfold callYld at hr
  split at hr
  · cases hr
  rename_i ar hp
  refine ⟨ar, hp, ?_⟩
  simp only [handOver] at hr
  by_cases hall : ((reachable ar.heap (idsOfs (.yld i0 :: ar.args))).all fun i => i.blt ar.heap.length) = true
  case neg => simp only [hall, if_false, Bool.false_eq_true, reduceCtorEq] at hr
  simp only [hall, if_true] at hr
  split at hr <;> try cases hr
  exact behind_oks hr hk

theorem idsOfs_append : ∀ (x y : List LV), idsOfs (x ++ y) = idsOfs x ++ idsOfs y
  | [], y => rfl
  | a :: x, y => by simp [idsOfs, idsOfs_append x y]

/-- A call in general: 'seq' where the heap is the list's. -/
theorem o_callFn (c : Ctx P glob G w h μ t a) (hS : SoundFn P glob S) {cl : Call} {x : Operand} (hop : o.op = .call cl) (hc : cl.callee = .value x) {f : FuncId} {first caps : List LV} (hx : RV G w h μ (.clo f first caps) (ev a x)) {args : List (AM × RO)}
    (hck : ckArgs cl.args.toList args = true) (hr : callFn (prims glob) S f first caps t hl args = some (.ok res)) (hk : res.oks.all id = true) {rd wr : List Nat} (ht : argIds (prims glob) t args = some (rd, wr))
    (hA : ∀ i, i ∈ rd ∨ i ∈ reachable hl (idsOfs first ++ wr ++ idsOfs caps) → h i = hl[i]?) (hF : ∀ id, hl.length ≤ id → id < res.heap.length → h id = none) :
    ∃ h', TurnS P G w h μ a o h' res.v ∧ Eff hl res.heap (reachable hl (idsOfs first ++ wr ++ idsOfs caps)) h h' := by
  obtain ⟨ar, hp, hka⟩ := callFn_prep hr hk
  obtain ⟨fs, cs, ex, l1, l2, r1, r2⟩ := hx.clo_inv
  obtain ⟨q1, q2, G1, GL, p⟩ := prep_rvD c hck ht (fun i hi => hA i (.inl hi)) hp hka
  have hlt := reach_lt hp hr
  have hids : idsOfs (first ++ ar.args ++ caps) = idsOfs first ++ wr ++ idsOfs caps := by rw [idsOfs_append, idsOfs_append, q2]
  have key := call_fn (hl := hl) hS c.gr hop hc ex hp p ⟨by simpa using l1, fun j x v h1 h2 => r1 j x v h1 (by simpa using h2)⟩ ⟨by simpa using l2, fun j x v h1 h2 => r2 j x v h1 (by simpa using h2)⟩
    (fun i hi => by rw [hids] at hi; rw [q1] at hi ⊢; exact hA i (.inr hi)) (fun j h1 h2 => hF j (by rw [q1] at h1; exact h1) h2) hr hk
  obtain ⟨h2, h', k1, k2⟩ := key
  refine ⟨h', k1, ?_⟩
  have := eff_behind hlt (fun i hi => by rw [hids] at hi; rw [q1] at hi ⊢; exact hA i (.inr hi)) k2
  rw [hids, q1] at this
  exact this

theorem o_callFnS (c : Ctx P glob G w (lift hl) μ t a) (hS : SoundFn P glob S) {cl : Call} {x : Operand} (hop : o.op = .call cl) (hc : cl.callee = .value x) {f : FuncId} {first caps : List LV} (hx : RV G w (lift hl) μ (.clo f first caps) (ev a x)) {args : List (AM × RO)}
    (hck : ckArgs cl.args.toList args = true) (hr : callFn (prims glob) S f first caps t hl args = some (.ok res)) (hk : res.oks.all id = true) : TurnS P G w (lift hl) μ a o (lift res.heap) res.v := by
  obtain ⟨ar, hp, hka⟩ := callFn_prep hr hk
  obtain ⟨fs, cs, ex, l1, l2, r1, r2⟩ := hx.clo_inv
  obtain ⟨G1, GL, p⟩ := prep_rvS c hck hp hka
  have hlt := reach_lt hp hr
  obtain ⟨h2, h', k1, k2⟩ := call_fn (hl := hl) hS c.gr hop hc ex hp p ⟨by simpa using l1, fun j x v h1 h2 => r1 j x v h1 (by simpa using h2)⟩ ⟨by simpa using l2, fun j x v h1 h2 => r2 j x v h1 (by simpa using h2)⟩
    (fun i _ => rfl) (fun j h1 _ => List.getElem?_eq_none h1) hr hk
  have := (eff_behind hlt (fun i _ => rfl) k2).lift
  rw [this] at k1
  exact k1

theorem o_callYld (c : Ctx P glob G w h μ t a) (hS : SoundFn P glob S) {cl : Call} {x : Operand} (hop : o.op = .call cl) (hc : cl.callee = .value x) {i0 : Nat} (hx : RV G w h μ (.yld i0) (ev a x)) {args : List (AM × RO)}
    (hck : ckArgs cl.args.toList args = true) (hr : callYld (prims glob) S i0 t hl args = some (.ok res)) (hk : res.oks.all id = true) {rd wr : List Nat} (ht : argIds (prims glob) t args = some (rd, wr))
    (hA : ∀ i, i ∈ rd ∨ i ∈ reachable hl (i0 :: wr) → h i = hl[i]?) (hF : ∀ j, hl.length ≤ j → j < res.heap.length → h j = none) :
    ∃ h', TurnS P G w h μ a o h' res.v ∧ Eff hl res.heap (reachable hl (i0 :: wr)) h h' := by
  obtain ⟨ar, hp, hka⟩ := callYld_prep hr hk
  obtain ⟨q1, q2, G1, GL, p⟩ := prep_rvD c hck ht (fun i hi => hA i (.inl hi)) hp hka
  have hlt := reach_ltY hp hr
  have hids : idsOfs (.yld i0 :: ar.args) = i0 :: wr := by simp [idsOfs, idsOf, q2]
  obtain ⟨h2, h', k1, k2⟩ := call_yld (hl := hl) hS c.gr hop hc hx hp p
    (fun i hi => by rw [hids] at hi; rw [q1] at hi ⊢; exact hA i (.inr hi)) (fun j h1 h2 => hF j (by rw [q1] at h1; exact h1) h2) hr hk
  refine ⟨h', k1, ?_⟩
  have := eff_behind hlt (fun i hi => by rw [hids] at hi; rw [q1] at hi ⊢; exact hA i (.inr hi)) k2
  rw [hids, q1] at this
  exact this

theorem o_callYldS (c : Ctx P glob G w (lift hl) μ t a) (hS : SoundFn P glob S) {cl : Call} {x : Operand} (hop : o.op = .call cl) (hc : cl.callee = .value x) {i0 : Nat} (hx : RV G w (lift hl) μ (.yld i0) (ev a x)) {args : List (AM × RO)}
    (hck : ckArgs cl.args.toList args = true) (hr : callYld (prims glob) S i0 t hl args = some (.ok res)) (hk : res.oks.all id = true) : TurnS P G w (lift hl) μ a o (lift res.heap) res.v := by
  obtain ⟨ar, hp, hka⟩ := callYld_prep hr hk
  obtain ⟨G1, GL, p⟩ := prep_rvS c hck hp hka
  have hlt := reach_ltY hp hr
  obtain ⟨h2, h', k1, k2⟩ := call_yld (hl := hl) hS c.gr hop hc hx hp p (fun i _ => rfl) (fun j h1 _ => List.getElem?_eq_none h1) hr hk
  have := (eff_behind hlt (fun i _ => rfl) k2).lift
  rw [this] at k1
  exact k1
end
end AI
end

section
namespace AI
open Go

section
variable {P : Program} {glob : Nat → Row} {G : Ghost} {w : World} {h : HF} {μ : Loc}
variable {t : List LV} {a : Array Value} {o : Oper} {S : SFn} {hl : List Blk} {res : OpR}

theorem gen_val {wr : List Nat} (hh : HRel P G w h μ) (hd : ∀ c, o.op ≠ .defer c) (hA : ∀ i ∈ wr, h i = hl[i]?) (v : res.heap = hl ∧ Val P G w h μ a o res.v) : ∃ h', TurnS P G w h μ a o h' res.v ∧ Eff hl res.heap wr h h' := by
  obtain ⟨e, v⟩ := v
  rw [e]
  exact ⟨h, (v.turn hh).steps hd, eff_same hA⟩
theorem gen_new {wr : List Nat} (hd : ∀ c, o.op ≠ .defer c) (hA : ∀ i ∈ wr, h i = hl[i]?) (v : ∃ b, res.heap = hl ++ [b] ∧ Turn P G w h μ a o (ins h hl.length b) res.v) : ∃ h', TurnS P G w h μ a o h' res.v ∧ Eff hl res.heap wr h h' := by
  obtain ⟨b, e, v⟩ := v
  exact ⟨_, v.steps hd, eff_chg hA (.inl ⟨rfl, e⟩)⟩

theorem bin_split {M : Prims} {d cls : Nat} {op : BinOp} {x y : RO} (hr : opRun M S (.bin d cls op x y) t hl = some (.ok res)) :
    (∃ p q k1 k2, sv M t x = (.pv p, k1) ∧ sv M t y = (.pv q, k2) ∧ res = ⟨.pv (M.bin op p q), hl, k1 ++ k2 ++ [M.binOk cls op p q]⟩) ∨
    ∃ p q k1 k2 b v, sv M t x = (p, k1) ∧ sv M t y = (q, k2) ∧ eqNil cls p q = some b ∧ nilOp op b = some v ∧ res = ⟨v, hl, k1 ++ k2⟩ := by
  simp only [opRun] at hr
  split at hr
  · rename_i h1 h2
    cases hr; exact .inl ⟨_, _, _, _, Prod.ext h1 rfl, Prod.ext h2 rfl, rfl⟩
  · split at hr <;> try cases hr
    rename_i b hb
    split at hr <;> cases hr
    rename_i v hv
    exact .inr ⟨_, _, _, _, b, v, Prod.ext rfl rfl, Prod.ext rfl rfl, hb, hv, rfl⟩

theorem op_gen (c : Ctx P glob G w h μ t a) (hS : SoundFn P glob S) {r : ROp} (hck : ckOp P o r = true) {rd wr : List Nat} (ht : touch (prims glob) r t hl = some (rd, wr)) (hA : ∀ i, i ∈ rd ∨ i ∈ wr → h i = hl[i]?)
    (hF : ∀ j, hl.length ≤ j → j < res.heap.length → h j = none) (hr : opRun (prims glob) S r t hl = some (.ok res)) (hk : res.oks.all id = true) : ∃ h', TurnS P G w h μ a o h' res.v ∧ Eff hl res.heap wr h h' := by
  have hAw : ∀ i ∈ wr, h i = hl[i]? := fun i hi => hA i (.inr hi)
  unfold ckOp at hck
  rw [Bool.and_eq_true] at hck
  obtain ⟨-, hck⟩ := hck
  split at hck
  · rename_i x _ y e1 -- move
    have hk' := hk; simp only [opRun] at hr; cases hr
    exact gen_val c.hr (by rw [e1]; simp) hAw ⟨rfl, o_move c.tr c.gr (.inl e1) hck hk⟩
  · rename_i x _ y e1 -- assign
    simp only [opRun] at hr; cases hr
    exact gen_val c.hr (by rw [e1]; simp) hAw ⟨rfl, o_move c.tr c.gr (.inr e1) hck hk⟩
  · rename_i e1 -- pick
    simp only [Bool.and_eq_true] at hck
    exact gen_val c.hr (by rw [e1]; simp) hAw (o_pick c e1 hck.1.1 hck.1.2 hck.2 hr hk)
  · rename_i e1 -- alloc
    have hn : h hl.length = none := hF _ (Nat.le_refl _) (by simp only [opRun] at hr; cases hr; simp)
    exact gen_new (by rw [e1]; simp) hAw (o_alloc c e1 (fun _ => (by simp only [Bool.and_eq_true, beq_iff_eq] at hck; exact hck.1.symm)) (by simp only [Bool.and_eq_true, beq_iff_eq] at hck; exact hck.2) hn hr)
  · rename_i e1 -- box
    simp only [Bool.and_eq_true] at hck
    have hn : h hl.length = none := hF _ (Nat.le_refl _) (by simp only [opRun] at hr; split at hr <;> cases hr; simp)
    exact gen_new (by rw [e1]; simp) hAw (o_box c e1 hck.2 hn hr hk)
  · rename_i e1 -- build
    simp only [Bool.and_eq_true] at hck
    exact gen_val c.hr (by rw [e1]; simp) hAw (o_build c e1 hck.1.1.1 hck.1.1.2 hck.1.2 hck.2 hr hk)
  · simp [touch] at ht -- buildSlice
  · rename_i e1 -- load
    simp only [Bool.and_eq_true, beq_iff_eq] at hck
    simp only [touch, Option.some.injEq, Prod.mk.injEq] at ht
    obtain ⟨rfl, rfl⟩ := ht
    exact gen_val c.hr (by rw [e1]; simp) hAw (o_load c e1 hck.2 hck.1.1.1 hck.1.1.2 hck.1.2 (fun i hi => hA i (.inl hi)) hr hk)
  · rename_i e1 -- store
    simp only [Bool.and_eq_true, beq_iff_eq] at hck
    simp only [touch] at ht
    split at ht <;> cases ht
    rename_i i0 off hs
    obtain ⟨b, k1, k2, k3⟩ := o_storeP c (k := (sv (prims glob) t _).2) e1 hck.1.2 hck.2 hck.1.1 (by rw [← hs]) (hA i0 (.inr (by simp))) hr hk
    exact ⟨_, k3.steps (by rw [e1]; simp), eff_chg hAw (.inr ⟨k1, by simp, k2⟩)⟩
  · rename_i e1 -- nilCheck
    exact gen_val c.hr (by rw [e1]; simp) hAw (o_nilck c e1 hck hr hk)
  · rename_i e1 -- bin
    simp only [Bool.and_eq_true, beq_iff_eq] at hck
    obtain ⟨⟨⟨⟨rfl, q1⟩, q2⟩, q3⟩, q4⟩ := hck
    refine gen_val c.hr (by rw [e1]; simp) hAw ?_
    rcases bin_split hr with ⟨p, q, k1, k2, s1, s2, rfl⟩ | ⟨p, q, k1, k2, b, v, s1, s2, s3, s4, rfl⟩
    · simp only [List.all_append, Bool.and_eq_true, List.all_cons, List.all_nil, id, and_true] at hk
      exact ⟨rfl, o_bin c.tr c.gr e1 q2 q3 q4 q1 s1 s2 hk.1.1 hk.1.2 hk.2⟩
    · simp only [List.all_append, Bool.and_eq_true] at hk
      exact ⟨rfl, o_binNil c e1 q2 q3 q1 s1 s2 hk.1 hk.2 s3 s4⟩
  · rename_i e1 -- un
    simp only [Bool.and_eq_true, beq_iff_eq] at hck
    obtain ⟨rfl, q⟩ := hck
    simp only [opRun] at hr
    split at hr <;> cases hr
    rename_i p k hp
    simp only [List.all_append, Bool.and_eq_true, List.all_cons, List.all_nil, id, and_true] at hk
    exact gen_val c.hr (by rw [e1]; simp) hAw ⟨rfl, o_un c.tr c.gr e1 q (pvOf_some hp) hk.1 hk.2⟩
  · rename_i e1 -- conv
    simp only [Bool.and_eq_true] at hck
    simp only [opRun] at hr
    split at hr <;> cases hr
    rename_i p k hp
    simp only [List.all_append, Bool.and_eq_true, List.all_cons, List.all_nil, id, and_true] at hk
    exact gen_val c.hr (by rw [e1]; simp) hAw ⟨rfl, o_conv c.tr c.gr e1 hck.2 hck.1.1 hck.1.2 (pvOf_some hp) hk.1 hk.2⟩
  · rename_i e1 -- s2b
    simp only [Bool.and_eq_true] at hck
    have hn : h hl.length = none := hF _ (Nat.le_refl _) (by simp only [opRun] at hr; split at hr <;> cases hr; simp)
    exact gen_new (by rw [e1]; simp) hAw (o_s2b c e1 hck.2 hck.1.1 hck.1.2 hn hr hk)
  · rename_i e1 -- b2s
    simp only [Bool.and_eq_true] at hck
    simp only [touch, Option.some.injEq, Prod.mk.injEq] at ht
    obtain ⟨rfl, rfl⟩ := ht
    exact gen_val c.hr (by rw [e1]; simp) hAw (o_b2s c e1 hck.2 hck.1.1 hck.1.2 (fun i hi => hA i (.inl hi)) hr hk)
  · rename_i e1 -- fieldA
    simp only [Bool.and_eq_true] at hck
    obtain ⟨q1, q2⟩ := hck
    split at q2 <;> try cases q2
    rename_i off e hf
    simp only [Bool.and_eq_true, beq_iff_eq] at q2
    obtain ⟨rfl, q3⟩ := q2
    split at q3 <;> try cases q3
    rename_i n hn
    exact gen_val c.hr (by rw [e1]; simp) hAw (o_fieldA c e1 q1 hf hn q3 hr hk)
  · rename_i e1 -- part
    simp only [Bool.and_eq_true] at hck
    obtain ⟨q1, q2⟩ := hck
    split at q2 <;> try cases q2
    rename_i off e hf
    simp only [Bool.and_eq_true, beq_iff_eq] at q2
    obtain ⟨⟨⟨rfl, q3⟩, q4⟩, q5⟩ := q2
    exact gen_val c.hr (by rw [e1]; simp) hAw (o_part c e1 q1 hf q3 q4 q5 hr hk)
  · rename_i e1 -- idxA
    simp only [Bool.and_eq_true] at hck
    obtain ⟨⟨q1, q2⟩, q3⟩ := hck
    split at q3 <;> try cases q3
    rename_i e he
    simp only [beq_iff_eq] at q3
    simp only [touch, Option.some.injEq, Prod.mk.injEq] at ht
    obtain ⟨rfl, rfl⟩ := ht
    exact gen_val c.hr (by rw [e1]; simp) hAw (o_idxA c e1 q1 q2 he q3 (fun i hi => hA i (.inl hi)) hr hk)
  · rename_i e1 -- idxP
    simp only [Bool.and_eq_true] at hck
    obtain ⟨⟨q1, q2⟩, q3⟩ := hck
    split at q3 <;> try cases q3
    rename_i m e he
    simp only [Bool.and_eq_true, beq_iff_eq] at q3
    obtain ⟨rfl, q4⟩ := q3
    exact gen_val c.hr (by rw [e1]; simp) hAw (o_idxP c e1 q1 q2 he q4 hr hk)
  · rename_i e1 -- idx
    simp only [Bool.and_eq_true] at hck
    exact gen_val c.hr (by rw [e1]; simp) hAw (o_idx c e1 hck.1.1 hck.1.2 hck.2 hr hk)
  · rename_i e1 -- idxV
    simp only [Bool.and_eq_true] at hck
    obtain ⟨⟨q1, q2⟩, q3⟩ := hck
    split at q3 <;> try cases q3
    rename_i m e he
    simp only [Bool.and_eq_true, beq_iff_eq] at q3
    obtain ⟨⟨rfl, q4⟩, q5⟩ := q3
    exact gen_val c.hr (by rw [e1]; simp) hAw (o_idxV c e1 q1 q2 he q4 q5 hr hk)
  · simp [touch] at ht -- s2ap
  · rename_i e1 -- extract
    simp only [Bool.and_eq_true, beq_iff_eq] at hck
    obtain ⟨q1, rfl⟩ := hck
    exact gen_val c.hr (by rw [e1]; simp) hAw (o_extract c e1 q1 hr hk)
  · rename_i e1 -- sub
    simp only [Bool.and_eq_true] at hck
    refine gen_val c.hr (by rw [e1]; simp) hAw (o_sub c e1 hck.1.1.1 hck.1.1.2 hck.1.2 hck.2 hr hk (fun id ver k hs => ?_))
    simp only [touch, hs] at ht
    split at ht
    · exact ⟨rfl, rfl⟩
    · cases ht
    · rename_i h1 h2; first | exact absurd rfl (h2 _ _) | exact absurd rfl (h1 _ _)
  · rename_i e1 -- subF
    simp only [Bool.and_eq_true] at hck
    obtain ⟨⟨⟨⟨q1, q2⟩, q3⟩, q4⟩, q5⟩ := hck
    split at q5 <;> try cases q5
    rename_i e he
    simp only [beq_iff_eq] at q5
    exact gen_val c.hr (by rw [e1]; simp) hAw (o_subF c e1 q1 q2 q3 q4 he q5 hr hk)
  · rename_i e1 -- mk
    simp only [Bool.and_eq_true] at hck
    obtain ⟨⟨q1, q2⟩, q3⟩ := hck
    split at q3 <;> try cases q3
    rename_i e he
    simp only [Bool.and_eq_true, beq_iff_eq, decide_eq_true_eq] at q3
    have hn : h hl.length = none := hF _ (Nat.le_refl _) (by simp only [opRun] at hr; split at hr <;> cases hr; simp)
    exact gen_new (by rw [e1]; simp) hAw (o_mk c e1 q1 q2 he q3.1.1.1 q3.1.1.2 q3.1.2 q3.2 hn hr hk)
  · rename_i e1 -- makeFunc
    simp only [Bool.and_eq_true, beq_iff_eq] at hck
    obtain ⟨⟨rfl, q1⟩, q2⟩ := hck
    exact gen_val c.hr (by rw [e1]; simp) hAw (o_clo c e1 q1 q2 hr hk)
  · rename_i e1 -- makeInterface
    simp only [Bool.and_eq_true, beq_iff_eq] at hck
    obtain ⟨⟨rfl, q1⟩, q2⟩ := hck
    exact gen_val c.hr (by rw [e1]; simp) hAw (o_mkif c e1 q1 q2 hr hk)
  · simp [touch] at ht -- panic
  · rename_i cl r' e1 -- call
    have hd : ∀ cc, o.op ≠ .defer cc := by rw [e1]; simp
    split at hck
    · rename_i f _ g args hcal
      simp only [Bool.and_eq_true, beq_iff_eq] at hck
      obtain ⟨rfl, q1⟩ := hck
      simp only [touch] at ht
      split at ht <;> cases ht
      rename_i wr0 hai
      simp only [opRun, callRun] at hr
      have hx : RV G w h μ (.clo f [] []) (ev a (.func f)) := .clo f [] [] #[] #[] rfl rfl (fun j x c h => by simp at h) (fun j x c h => by simp at h)
      have := o_callFn c hS e1 hcal hx q1 hr hk hai (fun i hi => hA i (by simpa [idsOfs] using hi)) hF
      simpa [idsOfs] using this
    · rename_i f _ g args hcal
      simp only [Bool.and_eq_true] at hck
      have hx0 := evalO_rv (glob := glob) c.tr c.gr hck.1
      simp only [opRun] at hr
      split at hr
      · rename_i f' fa fb he
        rw [he] at hx0
        simp only [callRun] at hr
        have hsv : (sv (prims glob) t g).1 = .clo f' fa fb := by simp [sv, he, strip]
        simp only [touch, hsv] at ht
        cases hai : argIds (prims glob) t args with
        | none => simp [hai] at ht
        | some p =>
          obtain ⟨rd0, wr0⟩ := p
          simp only [hai, Option.some.injEq, Prod.mk.injEq] at ht
          obtain ⟨rfl, rfl⟩ := ht
          exact o_callFn c hS e1 hcal hx0 hck.2 hr hk hai (fun i hi => hA i hi) hF
      · rename_i i0 he
        rw [he] at hx0
        simp only [callRun] at hr
        have hsv : (sv (prims glob) t g).1 = .yld i0 := by simp [sv, he, strip]
        simp only [touch, hsv] at ht
        cases hai : argIds (prims glob) t args with
        | none => simp [hai] at ht
        | some p =>
          obtain ⟨rd0, wr0⟩ := p
          simp only [hai, Option.some.injEq, Prod.mk.injEq] at ht
          obtain ⟨rfl, rfl⟩ := ht
          exact o_callYld c hS e1 hcal hx0 hck.2 hr hk hai (fun i hi => hA i hi) hF
      · cases hr
    · rename_i b hcal -- builtin
      unfold ckBuiltin at hck
      split at hck
      · rename_i d0 str x -- len
        simp only [Bool.and_eq_true] at hck
        obtain ⟨q0, q1⟩ := hck
        split at q1 <;> try cases q1
        rename_i x0 ty0 hargs hat
        simp only [Bool.and_eq_true] at q1
        have hb : b = .len := by cases b <;> simp at q0 <;> rfl
        subst hb
        simp only [touch, Option.some.injEq, Prod.mk.injEq] at ht
        obtain ⟨rfl, rfl⟩ := ht
        exact gen_val c.hr hd hAw (o_len c e1 hcal hargs hat q1.1 q1.2 (fun i hi => hA i (.inl hi)) hr hk)
      · rename_i d0 sz bytes ety str s x -- append
        simp only [Bool.and_eq_true] at hck
        obtain ⟨q0, q1⟩ := hck
        split at q1 <;> try cases q1
        rename_i x0 y0 st ut hargs hat
        simp only [Bool.and_eq_true] at q1
        obtain ⟨⟨⟨k1, k2⟩, k3⟩, k4⟩ := q1
        have hb : b = .append := by cases b <;> simp at q0 <;> rfl
        subst hb
        split at k4 <;> try cases k4
        rename_i e he
        simp only [Bool.and_eq_true] at k4
        obtain ⟨k5, k6⟩ := k4
        split at k5 <;> try cases k5
        rename_i i hi
        simp only [Bool.and_eq_true, beq_iff_eq, decide_eq_true_eq] at k5
        obtain ⟨⟨⟨⟨⟨z0, z1⟩, z2⟩, z3⟩, z4⟩, z5⟩ := k5
        obtain ⟨z, hz, hzz⟩ : ∃ z, i.zero = some z ∧ z.cells.size = sz := by
          cases hz : i.zero with
          | none => simp [hz] at z5
          | some z => exact ⟨z, rfl, by simpa [hz] using z5⟩
        simp only [touch, Option.some.injEq, Prod.mk.injEq] at ht
        obtain ⟨rfl, rfl⟩ := ht
        have hu : P.underlying ut = some .string ∨ ∃ e', P.underlying ut = some (.slice e') := by
          cases str with
          | true =>
            simp only [if_true, Bool.and_eq_true] at k6
            have := k6.1.1
            unfold isStr at this
            split at this <;> try cases this
            rename_i hu; exact .inl hu
          | false =>
            simp only [Bool.false_eq_true, if_false, beq_iff_eq] at k6
            unfold telem at k6
            split at k6 <;> cases k6
            rename_i hu; exact .inr ⟨_, hu⟩
        obtain ⟨n, blk, q1, q2⟩ := o_app c z0 e1 hcal hargs hat k1 k2 he hi z1 z2 z3 z4 hz hzz hu (hF _ (Nat.le_refl _)) (fun i hi => hA i (.inr hi)) (fun i hi => hA i (.inl hi)) hr hk
        exact ⟨_, q2.steps hd, eff_chg hAw q1⟩
      · rename_i d0 big x y -- min, max
        simp only [Bool.and_eq_true] at hck
        obtain ⟨q0, q1⟩ := hck
        split at q1 <;> try cases q1
        rename_i x0 y0 ty0 tys hargs hat
        simp only [Bool.and_eq_true] at q1
        have hb : b = if big then .max else .min := by cases big <;> cases b <;> simp at q0 <;> rfl
        subst hb
        exact gen_val c.hr hd hAw (o_mm c e1 hcal hargs q1.1.1 q1.1.2 hr hk)
      · cases hck
    · cases hck
  · cases hck
end
end AI
end
