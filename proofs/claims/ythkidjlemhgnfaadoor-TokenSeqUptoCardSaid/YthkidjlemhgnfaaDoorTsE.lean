/-
  REGIONS whose order is given.
  REGIONS in their order; a loop's head; a function's end.
  RANGES OVER FUNCTIONS: the machine's steps.
  CODE: sequences, branches, blocks, loops, ranges over functions. (Regions whose order is open: by hypothesis.)
  FUNCTIONS.
  AN OPERATION looks at the temporaries that it names and at no other.
  WHAT AN OPERATION of a region whose order is open does to the heap's list, as its footprint says.
-/
import Derived.Test.YthkidjlemhgnfaaDoorTsD
set_option linter.unusedVariables false
set_option linter.unusedSimpArgs false
set_option linter.unusedSectionVars false
section
namespace AI
open Go

section
variable {P : Program} {glob : Nat → Row} {G : Ghost} {w : World} {μ : Loc}
variable {t : List LV} {a : Array Value} {o : Oper} {S : SFn} {hl : List Blk} {res : OpR}

theorem op_seq (c : Ctx P glob G w (lift hl) μ t a) (hS : SoundFn P glob S) {r : ROp} (hck : ckOp P o r = true)
    (hr : opRun (prims glob) S r t hl = some (.ok res)) (hk : res.oks.all id = true) : TurnS P G w (lift hl) μ a o (lift res.heap) res.v := by
  cases ht : touch (prims glob) r t hl with
  | some p =>
    obtain ⟨h', k1, k2⟩ := op_gen c hS hck (rd := p.1) (wr := p.2) ht (fun _ _ => rfl) (fun j hj _ => List.getElem?_eq_none hj) hr hk
    rw [k2.lift] at k1
    exact k1
  | none =>
    unfold ckOp at hck
    rw [Bool.and_eq_true] at hck
    obtain ⟨-, hck⟩ := hck
    split at hck <;> try (simp [touch] at ht; done)
    · rename_i e1 -- buildSlice
      simp only [Bool.and_eq_true, beq_iff_eq, decide_eq_true_eq] at hck
      obtain ⟨⟨⟨⟨q1, q2⟩, q3⟩, q4⟩, q5⟩ := hck
      split at q1 <;> try cases q1
      rename_i e he
      simp only [Bool.and_eq_true, beq_iff_eq] at q1
      exact (o_mksl c e1 he q1.1 q1.2 q2 q3 q4 q5 hr hk).steps (by rw [e1]; simp)
    · rename_i n b x e1 -- store
      simp only [Bool.and_eq_true, beq_iff_eq] at hck
      cases hs : sv (prims glob) t b with
      | mk v k =>
        cases v with
        | ptr id off => simp [touch, hs] at ht
        | elt id ver i off => exact (o_storeE c e1 hck.1.2 hck.2 hck.1.1 hs hr hk).steps (by rw [e1]; simp)
        | _ => simp [opRun, hs] at hr
    · rename_i e1 -- s2ap
      simp only [Bool.and_eq_true] at hck
      obtain ⟨q1, q2⟩ := hck
      split at q2 <;> try cases q2
      rename_i m e he
      simp only [Bool.and_eq_true, beq_iff_eq, decide_eq_true_eq] at q2
      obtain ⟨rfl, q3⟩ := q2
      exact (o_s2ap c e1 q1 he q3 hr hk).steps (by rw [e1]; simp)
    · rename_i ty x lo hi d0 str sz y lo' hi' e1 -- sub
      simp only [Bool.and_eq_true] at hck
      cases hs : sv (prims glob) t y with
      | mk v k =>
        cases v with
        | ref id ver =>
          by_cases hne : lo' = none ∧ hi' = none
          · obtain ⟨rfl, rfl⟩ := hne
            simp [touch, hs] at ht
          · exact (o_subR c e1 hck.1.1.1 hck.1.1.2 hck.1.2 hck.2 hs hne hr hk).steps (by rw [e1]; simp)
        | _ => simp [touch, hs] at ht
    · rename_i e1 -- panic
      simp [opRun] at hr
    · rename_i cl r' e1 -- call
      split at hck
      · rename_i f _ g args hcal
        simp only [Bool.and_eq_true, beq_iff_eq] at hck
        obtain ⟨rfl, q1⟩ := hck
        simp only [opRun, callRun] at hr
        have hx : RV G w (lift hl) μ (.clo f [] []) (ev a (.func f)) := .clo f [] [] #[] #[] rfl rfl (fun j x c h => by simp at h) (fun j x c h => by simp at h)
        exact o_callFnS c hS e1 hcal hx q1 hr hk
      · rename_i f _ g args hcal
        simp only [Bool.and_eq_true] at hck
        have hx0 := evalO_rv (glob := glob) c.tr c.gr hck.1
        simp only [opRun] at hr
        split at hr
        · rename_i f' fa fb he
          rw [he] at hx0
          simp only [callRun] at hr
          exact o_callFnS c hS e1 hcal hx0 hck.2 hr hk
        · rename_i i0 he
          rw [he] at hx0
          simp only [callRun] at hr
          exact o_callYldS c hS e1 hcal hx0 hck.2 hr hk
        · cases hr
      · unfold ckBuiltin at hck
        split at hck
        · simp [touch] at ht
        · simp [touch] at ht
        · simp [touch] at ht
        · cases hck
      · cases hck
    · cases hck

/-- The state of a run, in a frame that began with (h0, μ0) in the world w0. -/
structure Inv (P : Program) (glob : Nat → Row) (G0 : Ghost) (w0 : World) (h0 : List Blk) (μ0 : Loc) (G : Ghost) (w : World) (μ : Loc) (t : List LV) (hl : List Blk) (a : Array Value) : Prop where
  mv : Mv G0 w0 (lift h0) μ0 G w (lift hl) μ
  ctx : Ctx P glob G w (lift hl) μ t a

theorem put_tr {G : Ghost} {w : World} {h : HF} {t : List LV} {a : Array Value} (r : TR G w h μ t a) {d : Option Nat} {x : LV} {v : Value} (hx : RV G w h μ x v) : TR G w h μ (put t d x) (putV a d v) := by
  cases d with
  | none => exact r
  | some d =>
    refine ⟨by simp [put, putV, r.size], fun n y u hy hu => ?_⟩
    simp only [put, putV] at hy hu
    rw [List.getElem?_set] at hy
    rw [Array.getElem?_setIfInBounds] at hu
    by_cases hd : d = n
    · subst hd
      simp only [if_true] at hy hu
      split at hy <;> split at hu <;> simp_all
    · simp only [hd, if_false] at hy hu
      exact r.rel n y u hy hu

theorem guard_val {want : Bool} {x : LV} {v : Value} {b : Bool} {ks : List Bool} {h : HF} (hx : RV G w h μ x v) (e : guardOf (prims glob) want x = some (b, ks)) (hk : ks.all id = true) :
    b = true ↔ v = .bool want := by
  unfold guardOf at e
  split at e <;> cases e
  · rename_i q
    simp only [List.all_cons, List.all_nil, Bool.and_true, id] at hk
    have hq := hx.pv_inv
    cases q <;> simp [prims] at hk
    rw [hq.bool_inv]
    simp [prims]
  · rename_i gb gt w' q
    simp only [List.all_cons, List.all_nil, Bool.and_true, id] at hk
    cases hx with
    | opt _ _ _ _ _ hx hn =>
      cases gb with
      | false => rw [hn rfl]; simp [prims, undef]
      | true =>
        have hk' : (prims glob).isB q = true := by simpa [prims] using hk
        have hq := (hx rfl).pv_inv
        cases q <;> simp [prims] at hk'
        rw [hq.bool_inv]; simp [prims]
  · rename_i gb gt w'
    simp only [List.all_cons, List.all_nil, Bool.and_true, id] at hk
    cases hx with
    | opt _ _ _ _ _ hx hn =>
      cases gb with
      | false => rw [hn rfl]; simp [undef]
      | true => simp [prims] at hk

/-- A guarded operation's wish. -/
theorem wanted_iff {ops : Array Oper} {gt j : Nat} {want : Bool} (hg : o.guard = some (j, want)) (hj : ((ops[j]?).bind (·.dst)) = some gt) : Region.wanted o (yielded ops a) = true ↔ a.getD gt undef = .bool want := by
  have hy : yielded ops a j = match a[gt]? with | some (.bool b) => some b | _ => none := by
    simp only [yielded, hj, Option.bind_some]
    cases a[gt]? with
    | none => rfl
    | some v => cases v <;> rfl
  simp only [Region.wanted, hg, hy, beq_iff_eq]
  by_cases h : gt < a.size
  · rw [Array.getElem?_eq_getElem h]
    simp only [Array.getD, h, dif_pos]
    constructor
    · intro e
      split at e <;> cases e
      rename_i he
      simpa using he
    · intro e
      have : a[gt] = .bool want := by simpa using e
      rw [this]
  · rw [Array.getElem?_eq_none (by omega)]
    simp [Array.getD, h, undef]

theorem quiet_heap {r : ROp} (hq : r.quiet = true) (hr : opRun (prims glob) S r t hl = some (.ok res)) : res.heap = hl := by
  cases r <;> simp [ROp.quiet] at hq
  case bin => rcases bin_split hr with ⟨_, _, _, _, _, _, rfl⟩ | ⟨_, _, _, _, _, _, _, _, _, _, rfl⟩ <;> rfl
  all_goals (simp only [opRun] at hr; repeat' split at hr) <;> first | (cases hr; rfl) | cases hr

/-- One guarded operation; 'Q' tells the heap behind it. -/
theorem stepG_core {h : HF} {Q : List Blk → HF → Prop} {s s' : St} {g : GOp} {ops : Array Oper} {i : Nat} (c : Ctx P glob G w h μ s.tmps a) (hck : ckG P ops o g = true) (ho : ops[i]? = some o)
    (hop : ∀ res, opRun (prims glob) S g.op s.tmps s.heap = some (.ok res) → res.heap = s'.heap → res.oks.all id = true → ∃ h', TurnS P G w h μ a o h' res.v ∧ Q res.heap h') (hQ : Q s.heap h)
    (hr : stepG (prims glob) S g s = some (.ok s')) (hk : s'.oks.all id = true) :
    s.oks.all id = true ∧ ∃ h', Q s'.heap h' ∧ ∃ x, s'.tmps = put s.tmps o.dst x ∧ ∀ (b : Base) (rest : List Nat) (d : List Deferred) (k : List Item) (cs : List Frame), ∃ v w' G' μ',
      Steps P (lone (b.fr a d (.inRegion ops (i :: rest) :: k)) cs w) (lone (b.fr (putV a o.dst v) d (.inRegion ops rest :: k)) cs w') ∧ Mv G w h μ G' w' h' μ' ∧ HRel P G' w' h' μ' ∧ RV G' w' h' μ' x v := by
  simp only [ckG, Bool.and_eq_true] at hck
  obtain ⟨hco, hcg⟩ := hck
  have hdst : o.dst = g.op.dst := by
    unfold ckOp at hco
    rw [Bool.and_eq_true] at hco
    simpa using hco.1
  have skip : Region.wanted o (yielded ops a) = false → ∀ (b : Base) (rest : List Nat) (d : List Deferred) (k : List Item) (cs : List Frame),
      Steps P (lone (b.fr a d (.inRegion ops (i :: rest) :: k)) cs w) (lone (b.fr (putV a o.dst undef) d (.inRegion ops rest :: k)) cs w) := by
    intro hw b rest d k cs
    have := s_opSkip (P := P) (b := b) (t := a) (d := d) (k := k) (cs := cs) (w := w) (ops := ops) (i := i) (rest := rest) (by simp [ho, hw])
    simp only [ho, Option.bind_some] at this
    exact .one this
  unfold stepG at hr
  split at hr
  · rename_i hg
    have hw : Region.wanted o (yielded ops a) = true := by
      cases hog : o.guard with
      | none => simp [Region.wanted, hog]
      | some p => simp [hog, hg] at hcg
    split at hr <;> cases hr
    rename_i r hrun
    simp only [List.all_append, Bool.and_eq_true] at hk
    obtain ⟨h', k1, k2⟩ := hop r hrun rfl hk.1
    exact ⟨hk.2, h', k2, r.v, by rw [hdst], fun b rest d k cs => k1 b ops i rest d k cs ho hw⟩
  · rename_i gt want hg
    cases hog : o.guard with
    | none => simp [hog, hg] at hcg
    | some p =>
      obtain ⟨j, want'⟩ := p
      simp only [hog, hg, Bool.and_eq_true, beq_iff_eq] at hcg
      obtain ⟨hj, rfl⟩ := hcg
      have hwi := wanted_iff (a := a) hog hj
      split at hr
      · cases hr
      rename_i bb k0 hgv
      have hgval : k0.all id = true → (bb = true ↔ a.getD gt undef = .bool want') := fun hk0 => guard_val (c.tr.get gt) hgv hk0
      split at hr
      · rename_i hq
        split at hr
        · rename_i r hrun
          cases hr
          simp only [List.all_append, Bool.and_eq_true] at hk
          obtain ⟨⟨hk0, hk1⟩, hk2⟩ := hk
          have hv := hgval hk0
          have hheap := quiet_heap hq hrun
          refine ⟨hk2, ?_⟩
          cases bb with
          | true =>
            have hko : r.oks.all id = true := by
              have imp : ∀ (l : List Bool), (impAll (prims glob) true l).all id = true → l.all id = true := by
                intro l hl
                induction l with
                | nil => rfl
                | cons u l ih => simp only [impAll, List.all_cons, Bool.and_eq_true] at hl ⊢; exact ⟨by simpa [prims] using hl.1, ih hl.2⟩
              exact imp _ hk1
            obtain ⟨h', k1, k2⟩ := hop r hrun rfl hko
            refine ⟨h', k2, .opt true gt want' r.v, by rw [hdst], fun b rest d k cs => ?_⟩
            obtain ⟨v, w', G', μ', z1, z2, z3, z4⟩ := k1 b ops i rest d k cs ho (hwi.2 (hv.1 rfl))
            exact ⟨v, w', G', μ', z1, z2, z3, .opt _ _ _ _ _ (fun _ => z4) (fun e => by cases e)⟩
          | false =>
            have hnw : Region.wanted o (yielded ops a) = false := by
              rw [Bool.eq_false_iff]; intro e; have := hv.2 (hwi.1 e); cases this
            refine ⟨h, by rw [hheap]; exact hQ, .opt false gt want' r.v, by rw [hdst], fun b rest d k cs => ⟨undef, w, G, μ, skip hnw b rest d k cs, Mv.refl .., c.hr, .opt _ _ _ _ _ (fun e => by cases e) (fun _ => rfl)⟩⟩
        · cases hr
          simp only [List.all_append, List.all_cons, Bool.and_eq_true, id] at hk
          obtain ⟨hk0, hk1, hk2⟩ := hk
          have hv := hgval hk0
          refine ⟨hk2, ?_⟩
          cases bb with
          | true => simp [prims] at hk1
          | false =>
            have hnw : Region.wanted o (yielded ops a) = false := by
              rw [Bool.eq_false_iff]; intro e; have := hv.2 (hwi.1 e); cases this
            exact ⟨h, hQ, .opt false gt want' .bad, by rw [hdst], fun b rest d k cs => ⟨undef, w, G, μ, skip hnw b rest d k cs, Mv.refl .., c.hr, .opt _ _ _ _ _ (fun e => by cases e) (fun _ => rfl)⟩⟩
      · split at hr
        · rename_i hbb
          subst hbb
          split at hr <;> cases hr
          rename_i r hrun
          simp only [List.all_append, Bool.and_eq_true] at hk
          obtain ⟨⟨hk0, hk1⟩, hk2⟩ := hk
          obtain ⟨h', k1, k2⟩ := hop r hrun rfl hk1
          exact ⟨hk2, h', k2, r.v, by rw [hdst], fun b rest d k cs => k1 b ops i rest d k cs ho (hwi.2 ((hgval hk0).1 rfl))⟩
        · rename_i hbb
          cases hr
          simp only [List.all_append, Bool.and_eq_true] at hk
          obtain ⟨hk0, hk2⟩ := hk
          have hnw : Region.wanted o (yielded ops a) = false := by
            rw [Bool.eq_false_iff]; intro e; exact hbb ((hgval hk0).2 (hwi.1 e))
          exact ⟨hk2, h, hQ, .bad, by rw [hdst], fun b rest d k cs => ⟨undef, w, G, μ, skip hnw b rest d k cs, Mv.refl .., c.hr, .bad _⟩⟩
end
end AI
end

section
namespace AI
open Go

section
variable {P : Program} {glob : Nat → Row} {S : SFn}

theorem region_ok (hS : SoundFn P glob S) {ops : Array Oper} : ∀ {gs : List GOp} {i : Nat} {s s' : St} {a : Array Value} {G : Ghost} {w : World} {μ : Loc}, ckOps P ops (ops.toList.drop i) gs = true → runOps (prims glob) S gs s = some (.ok s') → s'.oks.all id = true →
    Ctx P glob G w (lift s.heap) μ s.tmps a → s.oks.all id = true ∧ ∀ (b : Base) (d : List Deferred) (k : List Item) (cs : List Frame), ∃ a' w' G' μ',
      Steps P (lone (b.fr a d (.inRegion ops (List.range' i gs.length) :: k)) cs w) (lone (b.fr a' d k) cs w') ∧ Mv G w (lift s.heap) μ G' w' (lift s'.heap) μ' ∧ Ctx P glob G' w' (lift s'.heap) μ' s'.tmps a'
  | [], i, s, s', a, G, w, μ, _, e, hk, c => by
    simp [runOps] at e; subst e
    exact ⟨hk, fun b d k cs => ⟨a, w, G, μ, .one s_regionEnd, Mv.refl .., c⟩⟩
  | g :: gs, i, s, s', a, G, w, μ, hck, e, hk, c => by
    cases hdr : ops.toList.drop i with
    | nil => rw [hdr] at hck; simp [ckOps] at hck
    | cons o rest =>
      rw [hdr] at hck
      simp only [ckOps, Bool.and_eq_true] at hck
      have ho : ops[i]? = some o := by
        have : (ops.toList.drop i)[0]? = some o := by rw [hdr]; rfl
        rw [List.getElem?_drop] at this
        simpa using this
      have hdr' : ops.toList.drop (i + 1) = rest := by
        rw [← List.drop_drop, hdr]; rfl
      simp only [runOps] at e
      split at e
      · rename_i s1 h1
        have again := fun {a : Array Value} {G : Ghost} {w : World} {μ : Loc} (c1 : Ctx P glob G w (lift s1.heap) μ s1.tmps a) => region_ok hS (i := i + 1) (by rw [hdr']; exact hck.2) e hk c1
        -- what the rest asks for holds already here
        have hk1 : s1.oks.all id = true := by
          have key : ∀ (gs : List GOp) (s s' : St), runOps (prims glob) S gs s = some (.ok s') → s'.oks.all id = true → s.oks.all id = true := by
            intro gs
            induction gs with
            | nil => intro s s' e hk; simp [runOps] at e; subst e; exact hk
            | cons g gs ih =>
              intro s s' e hk
              simp only [runOps] at e
              split at e
              · rename_i s1 h1
                have := ih s1 s' e hk
                unfold stepG at h1
                split at h1
                · split at h1 <;> cases h1
                  simp only [List.all_append, Bool.and_eq_true] at this; exact this.2
                · split at h1
                  · cases h1
                  · split at h1
                    · split at h1 <;> cases h1
                      · simp only [List.all_append, Bool.and_eq_true] at this; exact this.2
                      · simp only [List.all_append, List.all_cons, Bool.and_eq_true] at this; exact this.2.2
                    · split at h1
                      · split at h1 <;> cases h1
                        simp only [List.all_append, Bool.and_eq_true] at this; exact this.2
                      · cases h1
                        simp only [List.all_append, Bool.and_eq_true] at this; exact this.2
              · rename_i hne; exact (hne _ e).elim
          exact key _ _ _ e hk
        obtain ⟨hk0, h', hq, x, hx, hst⟩ := stepG_core (Q := fun l h => h = lift l) c hck.1 ho (fun res hres _ hko => ⟨_, op_seq c hS (by simp only [ckG, Bool.and_eq_true] at hck; exact hck.1.1) hres hko, rfl⟩) rfl h1 hk1
        subst hq
        refine ⟨hk0, fun b d k cs => ?_⟩
        obtain ⟨v, w1, G1, μ1, z1, z2, z3, z4⟩ := hst b (List.range' (i + 1) gs.length) d k cs
        have c1 : Ctx P glob G1 w1 (lift s1.heap) μ1 s1.tmps (putV a o.dst v) := ⟨by rw [hx]; exact put_tr (c.tr.evo z2.evo z2.comp) z4, c.gr.evo z2.evo, z3⟩
        obtain ⟨a', w', G', μ', y1, y2, y3⟩ := (again c1).2 b d k cs
        exact ⟨a', w', G', μ', Steps.trans (by simpa [List.range'_succ] using z1) y1, z2.trans y2, y3⟩
      · rename_i hne; exact (hne _ e).elim

/-! ### A loop's head -/
theorem headVer_today (m : Nat) (grow : List Nat) (h : List Blk) : Today h (headVer m grow h) := by
  intro i ver nv hr
  unfold headVer at hr
  split at hr
  · rename_i v hv
    by_cases he : v = ver
    · subst he; exact hv
    · simp [he] at hr
  · cases hr

theorem getD_range {R : List Nat} {m i : Nat} (h : List.range m <+: R) (hi : i < m) : R[i]? = some i := by
  obtain ⟨l, rfl⟩ := h
  rw [List.getElem?_append_left (by simpa using hi)]
  simp [hi]

/-- What a head (an end) keeps of a run. -/
theorem tidy_mv {G0 G : Ghost} {w0 w : World} {h0 hl : List Blk} {μ0 μ : Loc} {R : List Nat} {grow : List Nat} (hz : Zero h0) (mv : Mv G0 w0 (lift h0) μ0 G w (lift hl) μ) (hn : R.Nodup) (hR : List.range h0.length <+: R) :
    Mv G0 w0 (lift h0) μ0 G w (lift (renBlks hl (fun i => posIn i R 0) (headVer h0.length grow hl) R)) (locOf μ R) := by
  have at_ : ∀ id, id < h0.length → R[id]? = some id := fun id h => getD_range hR h
  have get : ∀ id b, id < h0.length → hl[id]? = some b → lift (renBlks hl (fun i => posIn i R 0) (headVer h0.length grow hl) R) id = some (renBlk (fun i => posIn i R 0) (headVer h0.length grow hl) id b) := by
    intro id b hid hb
    simp only [lift]
    rw [renBlks_get, at_ id hid]
    simp [List.getD, hb]
  have lt : ∀ {id b}, lift h0 id = some b → id < h0.length := fun h => (List.getElem?_eq_some_iff.1 h).1
  have loc_ : ∀ id, id < h0.length → locOf μ R id = μ id := fun id h => by simp [locOf, at_ id h]
  refine ⟨mv.evo, ⟨fun id b hb => ?_, fun id b cells ty hb hc => ?_, fun id b sz v f rows hb hc => ?_, fun id b t ps a bo p hb hc => ?_⟩, mv.frame, fun id x' b c hx hd hm => ?_⟩
  · obtain ⟨b', hb'⟩ := mv.comp.dom id b hb
    exact ⟨_, get id b' (lt hb) hb'⟩
  · obtain ⟨b', hb'⟩ := mv.comp.dom id b hb
    have := (get id b' (lt hb) hb').symm.trans hc
    cases b' <;> simp [renBlk] at this
    obtain ⟨-, rfl⟩ := this
    obtain ⟨e1, e2⟩ := mv.comp.data id b _ _ hb hb'
    exact ⟨e1, (loc_ id (lt hb)).trans e2⟩
  · obtain ⟨b', hb'⟩ := mv.comp.dom id b hb
    have := (get id b' (lt hb) hb').symm.trans hc
    cases b' <;> simp [renBlk] at this
    rename_i sz1 v1 f1 rows1
    obtain ⟨rfl, hv, rfl, rfl⟩ := this
    obtain ⟨sz0, v0, f0, rows0, rfl, e2⟩ := mv.comp.arr id b _ _ _ _ hb hb'
    have hv0 : v0 = 0 := hz id sz0 v0 f0 rows0 hb
    have hvo : verOf hl id = some v1 := by simp [verOf, show hl[id]? = some _ from hb']
    refine ⟨_, _, _, _, rfl, ?_⟩
    simp only [headVer, hvo, if_true, lt hb] at hv
    split at hv
    · left; simp at hv; omega
    · simp at hv; subst hv
      rcases e2 with e2 | ⟨e2, e3, e4, e5⟩
      · exact .inl e2
      · exact .inr ⟨e2, e3, e4, (loc_ id (lt hb)).trans e5⟩
  · obtain ⟨b', hb'⟩ := mv.comp.dom id b hb
    have := (get id b' (lt hb) hb').symm.trans hc
    cases b' <;> simp [renBlk] at this
    obtain ⟨e1, e2⟩ := mv.comp.loop id b _ _ _ _ _ hb hb'
    exact ⟨e1, (loc_ id (lt hb)).trans e2⟩
  · simp only [lift, renBlks_get, Option.map_eq_some_iff] at hx
    obtain ⟨i, hi, rfl⟩ := hx
    have hm' : μ i = some (b, c) := by simpa [locOf, hi] using hm
    cases hg : hl[i]? with
    | none => simp [List.getD, hg, renBlk] at hd
    | some z => exact mv.loc i z b c hg (fun e => by subst e; simp [List.getD, hg, renBlk] at hd) hm'

/-- What stands behind 'tidy': the values, the blocks, the run. -/
theorem tidy_ok {G0 G : Ghost} {w0 w : World} {h0 hl : List Blk} {μ0 μ : Loc} {grow : List Nat} {vs : List LV} (hz : Zero h0) (mv : Mv G0 w0 (lift h0) μ0 G w (lift hl) μ) (r : HRel P G w (lift hl) μ) :
    ∃ μ', Mv G0 w0 (lift h0) μ0 G w (lift (tidy h0.length grow hl vs).2) μ' ∧ HRel P G w (lift (tidy h0.length grow hl vs).2) μ' ∧
      (tidy h0.length grow hl vs).1.length = vs.length ∧ ∀ (j : Nat) (x : LV) (v : Value), (tidy h0.length grow hl vs).1[j]? = some x → (∀ y, vs[j]? = some y → RV G w (lift hl) μ y v) → RV G w (lift (tidy h0.length grow hl vs).2) μ' x v := by
  have hn := reachable_nodup hl (List.range h0.length ++ idsOfs vs)
  have hR := reachable_range hl (idsOfs vs) h0.length
  refine ⟨locOf μ (reachable hl (List.range h0.length ++ idsOfs vs)), tidy_mv hz mv hn hR, part_hrel _ (headVer_today _ _ _) hn r, by simp [tidy, rens_length], fun j x v hx hy => ?_⟩
  simp only [tidy, rens_get, Option.map_eq_some_iff] at hx
  obtain ⟨y, hy1, rfl⟩ := hx
  exact ren_rv (part_ren _ (headVer_today _ _ _)) (hy y hy1)

theorem forget_get (keep : List Nat) : ∀ (t : List LV) (k i : Nat), (forget keep k t)[i]? = (t[i]?).map fun x => if keep.contains (k + i) then x else .bad
  | [], k, i => by simp [forget]
  | x :: t, k, 0 => by simp [forget]
  | x :: t, k, i + 1 => by
    simp only [forget, List.getElem?_cons_succ, forget_get keep t (k + 1) i]
    rw [show k + 1 + i = k + (i + 1) by omega]
theorem forget_length (keep : List Nat) : ∀ (t : List LV) (k : Nat), (forget keep k t).length = t.length
  | [], _ => rfl
  | x :: t, k => by simp [forget, forget_length keep t (k + 1)]

theorem set_tr {G : Ghost} {w : World} {h : HF} {μ : Loc} {t : List LV} {a : Array Value} (r : TR G w h μ t a) {n : Nat} {x : LV} (hx : ∀ v, a[n]? = some v → RV G w h μ x v) : TR G w h μ (t.set n x) a := by
  refine ⟨by simp [r.size], fun j y u hy hu => ?_⟩
  rw [List.getElem?_set] at hy
  split at hy
  · rename_i e; subst e
    split at hy <;> cases hy
    exact hx u hu
  · exact r.rel j y u hy hu

theorem openAll_ok {G : Ghost} {w : World} : ∀ {l : List (Nat × Option Nat)} {t : List LV} {hl : List Blk} {μ : Loc} {a : Array Value}, Ctx P glob G w (lift hl) μ t a →
    ∃ μ', Mv G w (lift hl) μ G w (lift (openAll l t hl).2) μ' ∧ Ctx P glob G w (lift (openAll l t hl).2) μ' (openAll l t hl).1 a
  | [], t, hl, μ, a, c => ⟨μ, Mv.refl .., c⟩
  | (i, none) :: l, t, hl, μ, a, c => by
    simp only [openAll]
    split
    · rename_i hn
      obtain ⟨μ1, k1, k2, k3⟩ := nil_new (sz := 0) c.hr (n := hl.length) (List.getElem?_eq_none (Nat.le_refl _))
      have hh : ins (lift hl) hl.length (.arr 0 0 (false, 0) []) = lift (hl ++ [.arr 0 0 (false, 0) []]) := (lift_append _ _).symm
      rw [hh] at k1 k2 k3
      have c1 : Ctx P glob G w (lift (hl ++ [.arr 0 0 (false, 0) []])) μ1 (t.set i (.ref hl.length 0)) a := ⟨set_tr (c.tr.evo k1.evo k1.comp) (fun v hv => by
        have := c.tr.get i
        rw [hn] at this
        have h1 := this.nils_inv
        have h2 : a.getD i undef = v := by simp [Array.getD_eq_getD_getElem?, hv]
        rw [← h2, h1]; exact k3), c.gr, k2⟩
      obtain ⟨μ', q1, q2⟩ := openAll_ok (l := l) c1
      exact ⟨μ', k1.trans q1, q2⟩
    · exact openAll_ok (l := l) c
  | (i, some o) :: l, t, hl, μ, a, c => by
    simp only [openAll]
    split
    · rename_i id off hp
      split
      · rename_i cells tyd hb
        split
        · rename_i hn
          obtain ⟨μ1, k1, k2, k3⟩ := nil_new (sz := 0) c.hr (n := hl.length) (List.getElem?_eq_none (Nat.le_refl _))
          have hh : ins (lift hl) hl.length (.arr 0 0 (false, 0) []) = lift (hl ++ [.arr 0 0 (false, 0) []]) := (lift_append _ _).symm
          rw [hh] at k1 k2 k3
          have hid : id < hl.length := (List.getElem?_eq_some_iff.1 hb).1
          have hb1 : lift (hl ++ [.arr 0 0 (false, 0) []]) id = some (.data cells tyd) := by simp only [lift]; rw [List.getElem?_append_left hid]; exact hb
          obtain ⟨b, cc, vs, ty, m1, m2, m3, m4, m5⟩ := k2.own id _ hb1
          have hcomp : Comp (lift (hl ++ [.arr 0 0 (false, 0) []])) μ1 (ins (lift (hl ++ [.arr 0 0 (false, 0) []])) id (.data (cells.set (off + o) (.ref hl.length 0)) tyd)) (fun j => if j = id then μ1 id else μ1 j) :=
            comp_set hb1 _ _ (fun _ _ h => by cases h; exact ⟨⟨_, rfl⟩, rfl⟩) (fun _ _ _ _ h => by cases h) (fun _ _ _ _ _ h => by cases h)
          have key := k2.one (n := id) (blk := .data (cells.set (off + o) (.ref hl.length 0)) tyd) (m := μ1 id) (Evo.refl G w) hcomp (fun _ _ _ => ⟨rfl, rfl⟩) (fun b c _ hm => .inr ⟨_, c, hb1, by simp, hm⟩)
            ⟨b, cc, vs, ty, by simp [m1], m2, by simpa using m3, m4, fun j x v hx hv => by
              rw [List.getElem?_set] at hx
              split at hx
              · rename_i e; subst e
                split at hx <;> cases hx
                rename_i hlt
                have h0 : cells[off + o]? = some .nils := by
                  rw [List.getElem?_eq_getElem hlt]; simpa [List.getD, List.getElem?_eq_getElem hlt] using hn
                obtain ⟨h1, h2⟩ := m5 (off + o) _ v h0 hv
                refine ⟨?_, h2⟩
                rw [h1.nils_inv]
                exact k3.evo (Evo.refl G w) hcomp
              · obtain ⟨h1, h2⟩ := m5 j x v hx hv
                exact ⟨h1.evo (Evo.refl G w) hcomp, h2⟩⟩ k2.new
          rw [ite_self_loc] at key hcomp
          have hh2 : ins (lift (hl ++ [.arr 0 0 (false, 0) []])) id (.data (cells.set (off + o) (.ref hl.length 0)) tyd) = lift (hl.set id (.data (cells.set (off + o) (.ref hl.length 0)) tyd) ++ [.arr 0 0 (false, 0) []]) := by
            rw [← List.set_append_left _ _ hid]
            exact (lift_set (by simp; omega) _).symm
          have key' : Mv G w (lift (hl ++ [.arr 0 0 (false, 0) []])) μ1 G w (lift (hl.set id (.data (cells.set (off + o) (.ref hl.length 0)) tyd) ++ [.arr 0 0 (false, 0) []])) μ1 ∧ HRel P G w (lift (hl.set id (.data (cells.set (off + o) (.ref hl.length 0)) tyd) ++ [.arr 0 0 (false, 0) []])) μ1 := by
            rw [← hh2]; exact key
          have mv2 := k1.trans key'.1
          obtain ⟨μ', q1, q2⟩ := openAll_ok (l := l) (c.mv mv2 key'.2)
          exact ⟨μ', mv2.trans q1, q2⟩
        · exact openAll_ok (l := l) c
      · exact openAll_ok (l := l) c
    · exact openAll_ok (l := l) c

theorem head_ok {G0 G : Ghost} {w0 w : World} {h0 : List Blk} {μ0 μ : Loc} {s : St} {a : Array Value} {ann : LoopAnn} (hz : Zero h0) (i : Inv P glob G0 w0 h0 μ0 G w μ s.tmps s.heap a) :
    ∃ μ', Inv P glob G0 w0 h0 μ0 G w μ' (head h0.length ann s).tmps (head h0.length ann s).heap a := by
  obtain ⟨μ1, k1, k2⟩ := openAll_ok (l := ann.opn) i.ctx
  obtain ⟨μ', q1, q2, q3, q4⟩ := tidy_ok (grow := ann.grow) (vs := forget ann.keep 0 (openAll ann.opn s.tmps s.heap).1) hz (i.mv.trans k1) k2.hr
  refine ⟨μ', q1, ⟨⟨?_, fun n x v hx hv => ?_⟩, i.ctx.gr, q2⟩⟩
  · show (tidy h0.length ann.grow _ _).1.length = _
    rw [q3, forget_length]; exact k2.tr.size
  · refine q4 n x v hx (fun y hy => ?_)
    rw [forget_get, Option.map_eq_some_iff] at hy
    obtain ⟨y0, hy0, rfl⟩ := hy
    split
    · exact k2.tr.rel n y0 v hy0 hv
    · exact .bad v
end
end AI
end

section
namespace AI
open Go

/-- Where a frame stands behind a piece of code. -/
def Stands (b : Base) (a : Array Value) (d : List Deferred) (k : List Item) (cs : List Frame) (w : World) : Exit → Machine → Prop
  | .normal, m => m = lone (b.fr a d k) cs w
  | .exit id, m => ∃ k', exitTo id k' = exitTo id k ∧ m = lone (b.fr a d (.code (.exit id) :: k')) cs w
  | .ret, m => ∃ k', m = lone (b.fr a d (.code .ret :: k')) cs w
  | .pnc _, _ => False

def collected (r : Nat) : Deferred := { target := .collected r, args := #[] }

/-- The calls that are put off: marks of loops of which none put off a call. -/
def DefersOk (n0 : Nat) (w : World) (d : List Deferred) : Prop := ∃ rs : List Nat, rs.Nodup ∧ d = rs.map collected ∧ ∀ r ∈ rs, n0 ≤ r ∧ w.heap[r]? = some (.deferred (some []))

theorem Own.obj {P : Program} {G : Ghost} {w : World} {h : HF} {μ : Loc} {id : Nat} {blk : Blk} (o : Own P G w h μ id blk) (hd : blk ≠ .dead) {b c : Nat} (hm : μ id = some (b, c)) {x : Option (List Deferred)} (hx : w.heap[b]? = some (.deferred x)) : False := by
  cases blk with
  | dead => exact hd rfl
  | data cells => obtain ⟨b1, c1, vs, ty, h1, h2, _⟩ := o; rw [hm] at h1; cases h1; rw [hx] at h2; cases h2
  | arr sz ver f rows =>
    rcases o with ⟨h1, _⟩ | ⟨b1, c1, vs, ty, fr, h1, h2, _⟩
    · rw [hm] at h1; cases h1
    · rw [hm] at h1; cases h1; rw [hx] at h2; cases h2
  | loop t ps as bo p => obtain ⟨b1, c1, L, h1, h2, _⟩ := o; rw [hm] at h1; cases h1; rw [hx] at h2; cases h2

theorem DefersOk.mv {P : Program} {G G' : Ghost} {w w' : World} {h h' : HF} {μ μ' : Loc} {n0 : Nat} {d : List Deferred} (o : DefersOk n0 w d) (r : HRel P G w h μ) (m : Mv G w h μ G' w' h' μ') : DefersOk n0 w' d := by
  obtain ⟨rs, h1, h2, h3⟩ := o
  refine ⟨rs, h1, h2, fun r0 hr0 => ⟨(h3 r0 hr0).1, ?_⟩⟩
  obtain ⟨-, hx⟩ := h3 r0 hr0
  rw [(m.frame r0 (blk_lt hx) (fun id x c hi hd hm => (r.own id x hi).obj hd hm hx)).1]
  exact hx

/-- How a piece of code runs. -/
def Runs (P : Program) (glob : Nat → Row) (G0 : Ghost) (w0 : World) (h0 : List Blk) (μ0 : Loc) (b : Base) (C : Code) (s : St) (e : Exit) (s' : St) : Prop :=
  ∀ G w μ a, Inv P glob G0 w0 h0 μ0 G w μ s.tmps s.heap a → ∀ (d : List Deferred) (k : List Item) (cs : List Frame), DefersOk w0.heap.size w d → ∃ a' w' G' μ' m d',
    Steps P (lone (b.fr a d (.code C :: k)) cs w) m ∧ Stands b a' d' k cs w' e m ∧ Inv P glob G0 w0 h0 μ0 G' w' μ' s'.tmps s'.heap a' ∧ DefersOk w0.heap.size w' d'


section
variable {P : Program} {b : Base} {t : Array Value} {d : List Deferred} {k : List Item} {cs : List Frame} {w : World}

def loopObj (f : FuncId) (t : Array Value) (ps : Array Tmp) (as bo : Code) (r : Nat) : Obj := .loop { state := .ready, pending := none, fn := f, tmps := t, params := ps, assign := as, body := bo, defers := r }

/-- The world in which the loop stands. -/
def looped (b : Base) (w : World) (t : Array Value) (ps : Array Tmp) (as bo : Code) : World := (w.alloc (.deferred (some []))).alloc (loopObj b.fn t ps as bo w.heap.size)

theorem s_rangeFunc (hro : b.ro = none) {f : Operand} {ps : Array Tmp} {as bo : Code} {g : FuncId} {fs cc : Array Value} (hf : ev t f = .func (.func g) fs cc) {args : Array Value}
    (ha : args = fs ++ #[.func (.yield (w.heap.size + 1)) #[] #[]] ++ cc) (hc : (callFunc g args).run P (looped b w t ps as bo) = .ok (.enter g args) (looped b w t ps as bo)) :
    step P (lone (b.fr t d (.code (.rangeFunc f ps as bo) :: k)) cs w) =
      .next (lone (Frame.enter P g args .normal) (b.fr t (collected w.heap.size :: d) (.inRangeFunc (w.heap.size + 1) :: k) :: cs) (looped b w t ps as bo)) := by
  obtain ⟨bfn, bkind, bro⟩ := b
  simp only at hro
  subst hro
  refine step_lone_go ?_
  have he := congrFun (Base.eval ⟨bfn, bkind, none⟩ t (collected w.heap.size :: d) (.inRangeFunc (w.heap.size + 1) :: k)) f
  simp only [Base.fr] at he
  have hinv : (do let d ← resolve ({ fn := bfn, tmps := t, todo := .inRangeFunc (w.heap.size + 1) :: k, defers := collected w.heap.size :: d, mode := .run, kind := bkind, roundOf := none } : Frame).eval { callee := .value f, args := #[.const (.func (.yield (w.heap.size + 1)) #[] #[])], argTypes := #[] } 0; invoke d.target d.args : Sem Next).run P (looped ⟨bfn, bkind, none⟩ w t ps as bo) = .ok (.enter g args) (looped ⟨bfn, bkind, none⟩ w t ps as bo) := by
    simp only [resolve, he, hf, Deferred.ofValue, Sem.run_bind, Sem.run_pure, Result.andThen_ok, invoke]
    rw [← hc, ha]
    have hm : Array.map ({ fn := bfn, tmps := t, todo := .inRangeFunc (w.heap.size + 1) :: k, defers := collected w.heap.size :: d, mode := .run, kind := bkind, roundOf := none } : Frame).eval #[Operand.const (Value.func (Fn.yield (w.heap.size + 1)) #[] #[])] = #[Value.func (Fn.yield (w.heap.size + 1)) #[] #[]] := by simp [Frame.eval]
    rw [hm]
  have hent : (Instr.enterLoop bfn t ps as bo none).run P w = .ok (w.heap.size + 1, [collected w.heap.size]) (looped ⟨bfn, bkind, none⟩ w t ps as bo) := by
    simp only [Instr.enterLoop, Sem.run_bind, run_newObj, Result.andThen_ok, Sem.run_pure]
    simp [looped, loopObj, collected]
    rfl
  simp at hinv
  simp [Go.stepG, Go.stepG.exec, Base.fr, hent, Go.stepG.apply, hinv]

theorem fin_range {l : Nat} {v : Value} : (b.fr t d (.inRangeFunc l :: k)).finish v = b.fr t d (.endRangeFunc l :: k) := rfl

theorem s_endRange {l : Nat} {L : Loop} (hl : w.heap[l]? = some (.loop L)) (hb : L.state ≠ .busy) :
    step P (lone (b.fr t d (.endRangeFunc l :: k)) cs w) = .next (lone (b.fr t d ((L.pending.map Item.code).toList ++ k)) cs { w with heap := w.heap.setIfInBounds l (.loop { L with state := .exhausted }) }) := by
  refine step_lone_go ?_
  have hend : (Instr.endLoop l).run P w = .ok L.pending { w with heap := w.heap.setIfInBounds l (.loop { L with state := .exhausted }) } := by

    simp [Instr.endLoop, Instr.getLoop, getObj, setObj, Sem.run, hl, hb]
  simp [Go.stepG, Go.stepG.exec, Base.fr, hend]
end

section
variable {P : Program} {glob : Nat → Row} {G : Ghost} {w : World} {h : HF} {μ : Loc} {t : List LV} {S : SFn} {hl : List Blk} {res : OpR}

/-- A call, apart from the operation that makes it. -/
theorem call_acts (hS : SoundFn P glob S) (hg : GlobRel G w glob) {f : FuncId} {fs cs us : Array Value}
    {first caps : List LV} {ar : ArgR} {args : List (AM × RO)} (hp : prep (prims glob) t hl args = some ar) {h1 : HF} {G1 GL : Ghost} (p : Prepped P G w h μ ar.args us.toList ar.lent h1 G1 GL)
    (hfs : LRel G w h μ first fs.toList) (hcs : LRel G w h μ caps cs.toList)
    (hA : ∀ i ∈ reachable ar.heap (idsOfs (first ++ ar.args ++ caps)), h1 i = ar.heap[i]?) (hF : ∀ id, ar.heap.length ≤ id → id < res.heap.length → h1 id = none)
    (hr : callFn (prims glob) S f first caps t hl args = some (.ok res)) (hk : res.oks.all id = true) :
    ∃ h2 h', Acts P f (fs ++ us ++ cs) w (fun r w' => ∃ G' μ', Mv G w h μ G' w' h' μ' ∧ HRel P G' w' h' μ' ∧ RV G' w' h' μ' res.v r) ∧ Behind ar (reachable ar.heap (idsOfs (first ++ ar.args ++ caps))) h2 h1 res.heap h' := by
  have hn := reachable_nodup ar.heap (idsOfs (first ++ ar.args ++ caps))
  have pe := p.ext hfs hcs
  have hvs : (fs ++ us ++ cs).toList = fs.toList ++ us.toList ++ cs.toList := by simp
  unfold callFn at hr
  rw [hp] at hr
  simp only [handOver] at hr
  by_cases hall : ((reachable ar.heap (idsOfs (first ++ ar.args ++ caps))).all fun i => i.blt ar.heap.length) = true
  case neg => simp only [hall, if_false, Bool.false_eq_true, reduceCtorEq] at hr
  simp only [hall, if_true] at hr
  have hR : ∀ i ∈ reachable ar.heap (idsOfs (first ++ ar.args ++ caps)), i < ar.heap.length := by
    intro i hi
    have := List.all_eq_true.1 hall i hi
    simpa using this
  obtain ⟨v, h2, h', hs, hb, hl, hst⟩ := behind_step hr hk pe hn hR hA hF
  obtain ⟨q1, q2, q3⟩ := give (hl := ar.heap) pe hg hn hA hl
  have hact := hS.fn _ _ _ _ _ hs GL w _ (fs ++ us ++ cs) q1 q2 (by rw [hvs]; exact q3) zero_hand
  exact ⟨h2, h', hact.mono fun r w' hh => hst r w' hh, hb⟩

/-- A block of the world that no one owns. -/
theorem HRel.alien {w' : World} {ob : Obj} (r : HRel P G w h μ) (g : Grown w w' ob) : Mv G w h μ G w' h μ ∧ HRel P G w' h μ := by
  have evo := g.evo r.new
  refine ⟨⟨evo, Comp.refl .., fun b hb _ => ⟨g.old hb, rfl⟩, fun id x' b c hx hd hm => .inr ⟨id, x', c, hx, hd, hm⟩⟩, ⟨fun id blk hb => (r.own id blk hb).keep evo (Comp.refl ..) rfl (fun b c hm hd => ⟨g.old ((r.own id blk hb).lt hd hm), rfl⟩), r.inj, fun b hb => r.new b ?_⟩⟩
  rw [g.heap] at hb; simp at hb; omega

/-- The loop's block. -/
theorem loop_new {b : Base} {a : Array Value} (c : Ctx P glob G w (lift hl) μ t a) {ps : Array Tmp} {as bo : Code} {qs : List Nat} {x y : RCode} (h1 : ps.toList = qs) (h2 : (ckCode P as x && noRng x) = true) (h3 : (ckCode P bo y && noRng y) = true) :
    ∃ μ', Mv G w (lift hl) μ G (looped b w a ps as bo) (lift (hl ++ [.loop t qs x y none])) μ' ∧ HRel P G (looped b w a ps as bo) (lift (hl ++ [.loop t qs x y none])) μ' ∧ μ' hl.length = some (w.heap.size + 1, 0) := by
  obtain ⟨m1, r1⟩ := HRel.alien c.hr (grown_alloc w (.deferred (some [])))
  have g2 : Grown (w.alloc (.deferred (some []))) (looped b w a ps as bo) (loopObj b.fn a ps as bo w.heap.size) := grown_alloc _ _
  have hn : lift hl hl.length = none := List.getElem?_eq_none (Nat.le_refl _)
  have hsz : (w.alloc (.deferred (some []))).heap.size = w.heap.size + 1 := by simp
  have evo := g2.evo r1.new
  have hc := comp_new (μ := μ) hn (.loop t qs x y none) (some (w.heap.size + 1, 0))
  have key := r1.grow g2 hn (blk := .loop t qs x y none) (m := some (w.heap.size + 1, 0)) (fun b c e => by cases e; rw [hsz])
    ⟨w.heap.size + 1, 0, _, by simp, by rw [← hsz]; exact g2.at, h1, h2, h3, fun _ => rfl, fun _ => rfl, c.tr.size.symm, fun j z v hz hv => ((c.tr.rel j z v hz hv).evo m1.evo m1.comp).evo evo hc⟩
  have hh : ins (lift hl) hl.length (.loop t qs x y none) = lift (hl ++ [.loop t qs x y none]) := (lift_append _ _).symm
  rw [hh] at key
  exact ⟨_, m1.trans key.1, key.2, by simp⟩
end
end AI

namespace AI
open Go
section
variable {P : Program} {b : Base} {t : Array Value} {d : List Deferred} {k : List Item} {cs : List Frame} {w : World}

/-- Where the callee answers at once. -/
theorem s_rangeFuncV (hro : b.ro = none) {f : Operand} {ps : Array Tmp} {as bo : Code} {g : FuncId} {fs cc : Array Value} (hf : ev t f = .func (.func g) fs cc) {args : Array Value} {v : Value} {w' : World}
    (ha : args = fs ++ #[.func (.yield (w.heap.size + 1)) #[] #[]] ++ cc) (hc : (callFunc g args).run P (looped b w t ps as bo) = .ok (.value v) w') :
    step P (lone (b.fr t d (.code (.rangeFunc f ps as bo) :: k)) cs w) = .next (lone (b.fr t (collected w.heap.size :: d) (.endRangeFunc (w.heap.size + 1) :: k)) cs w') := by
  obtain ⟨bfn, bkind, bro⟩ := b
  simp only at hro
  subst hro
  refine step_lone_go ?_
  have he := congrFun (Base.eval ⟨bfn, bkind, none⟩ t (collected w.heap.size :: d) (.inRangeFunc (w.heap.size + 1) :: k)) f
  simp only [Base.fr] at he
  have hinv : (do let d ← resolve ({ fn := bfn, tmps := t, todo := .inRangeFunc (w.heap.size + 1) :: k, defers := collected w.heap.size :: d, mode := .run, kind := bkind, roundOf := none } : Frame).eval { callee := .value f, args := #[.const (.func (.yield (w.heap.size + 1)) #[] #[])], argTypes := #[] } 0; invoke d.target d.args : Sem Next).run P (looped ⟨bfn, bkind, none⟩ w t ps as bo) = .ok (.value v) w' := by
    simp only [resolve, he, hf, Deferred.ofValue, Sem.run_bind, Sem.run_pure, Result.andThen_ok, invoke]
    rw [← hc, ha]
    have hm : Array.map ({ fn := bfn, tmps := t, todo := .inRangeFunc (w.heap.size + 1) :: k, defers := collected w.heap.size :: d, mode := .run, kind := bkind, roundOf := none } : Frame).eval #[Operand.const (Value.func (Fn.yield (w.heap.size + 1)) #[] #[])] = #[Value.func (Fn.yield (w.heap.size + 1)) #[] #[]] := by simp [Frame.eval]
    rw [hm]
  have hent : (Instr.enterLoop bfn t ps as bo none).run P w = .ok (w.heap.size + 1, [collected w.heap.size]) (looped ⟨bfn, bkind, none⟩ w t ps as bo) := by
    simp only [Instr.enterLoop, Sem.run_bind, run_newObj, Result.andThen_ok, Sem.run_pure]
    simp [looped, loopObj, collected]
    rfl
  simp at hinv
  simp [Go.stepG, Go.stepG.exec, Base.fr, hent, Go.stepG.apply, hinv, Frame.finish]

/-- A mark is taken. -/
theorem s_unmark {fr : Frame} {r : Nat} {ds : List Deferred} (hm : fr.mode = .returning) (hd : fr.defers = collected r :: ds) (hb : w.heap[r]? = some (.deferred (some []))) :
    step P (lone fr cs w) = .next (lone { fr with defers := ds } cs { w with heap := w.heap.setIfInBounds r (.deferred none) }) := by
  refine step_lone_go ?_
  have ht : (Instr.takeDeferred r).run P w = .ok [] { w with heap := w.heap.setIfInBounds r (.deferred none) } := by
    simp [Instr.takeDeferred, getObj, setObj, Sem.run, hb]
  simp [Go.stepG, unwind, hm, hd, collected, ht]
end

section
variable {P : Program} {glob : Nat → Row} {S : SFn}

theorem looped_heap {b : Base} {w : World} {t : Array Value} {ps : Array Tmp} {as bo : Code} : (looped b w t ps as bo).heap = (w.heap.push (.deferred (some []))).push (loopObj b.fn t ps as bo w.heap.size) := rfl

/-- The loop, up to its end. -/
theorem range_steps {b : Base} {t : Array Value} {d : List Deferred} {k : List Item} {cs : List Frame} {w : World} (hro : b.ro = none) {f : Operand} {ps : Array Tmp} {as bo : Code} {g : FuncId} {fs cc : Array Value} (hf : ev t f = .func (.func g) fs cc)
    {R : Value → World → Prop} (h : Acts P g (fs ++ #[.func (.yield (w.heap.size + 1)) #[] #[]] ++ cc) (looped b w t ps as bo) R) :
    ∃ r w', R r w' ∧ Steps P (lone (b.fr t d (.code (.rangeFunc f ps as bo) :: k)) cs w) (lone (b.fr t (collected w.heap.size :: d) (.endRangeFunc (w.heap.size + 1) :: k)) cs w') := by
  rcases h with ⟨h1, h2⟩ | ⟨r, w', h1, h2⟩
  · obtain ⟨e, w', fr, ⟨r, rfl, hR⟩, h6, h7, h8⟩ := h2 (b.fr t (collected w.heap.size :: d) (.inRangeFunc (w.heap.size + 1) :: k) :: cs)
    refine ⟨r, w', hR, .head (s_rangeFunc hro hf rfl h1) (Steps.trans h6 (.one ?_))⟩
    rw [step_leave_returned h8, fin_range]
  · exact ⟨r, w', h2, .one (s_rangeFuncV hro hf rfl h1)⟩

theorem rng_ok (hS : SoundFn P glob S) {Lp : (St → St) → (St → Option (Exit × St)) → St → Option (Exit × St)} {h0 : List Blk} {m : Nat} {f : Operand} {ps : Array Tmp} {as bo : Code} {g : RO} {qs : List Nat} {x y : RCode} {s s' : St} {e : Exit}
    (hck : ckCode P (.rangeFunc f ps as bo) (.rng g qs x y) = true) (hr : exec (prims glob) S Lp m (.rng g qs x y) s = some (e, s')) (hk : s'.oks.all id = true) :
    (∃ x, e = .pnc x) ∨ (s.oks.all id = true ∧ ∀ G0 w0 μ0 b, b.ro = none → Runs P glob G0 w0 h0 μ0 b (.rangeFunc f ps as bo) s e s') := by
  simp only [ckCode, Bool.and_eq_true, beq_iff_eq] at hck
  obtain ⟨⟨⟨⟨⟨c1, c2⟩, c3⟩, c4⟩, c5⟩, c6⟩ := hck
  simp only [exec] at hr
  split at hr <;> try cases hr
  rename_i fn a0 b0 hev
  split at hr
  case h_3 => cases hr
  case h_2 => cases hr; exact .inl ⟨_, rfl⟩
  rename_i r hcall
  split at hr <;> try cases hr
  rename_i t1 ps1 as1 bo1 p hblk
  have hs' : s' = ⟨s.tmps, r.heap.set s.heap.length .dead, r.oks ++ s.oks⟩ := by
    split at hr <;> cases hr <;> rfl
  subst hs'
  simp only [List.all_append, Bool.and_eq_true] at hk
  refine .inr ⟨hk.2, fun G0 w0 μ0 b hro G w μ a i d k cs hd => ?_⟩
  have hfv := evalO_rv (glob := glob) i.ctx.tr i.ctx.gr c1
  rw [hev] at hfv
  obtain ⟨fs, cc, hf, l1, l2, r1, r2⟩ := hfv.clo_inv
  obtain ⟨μ1, m1, hr1, hμ1⟩ := loop_new (b := b) (x := x) (y := y) i.ctx c2 (as := as) (bo := bo) (show (ckCode P as x && noRng x) = true by rw [c5, c3]; rfl) (show (ckCode P bo y && noRng y) = true by rw [c6, c4]; rfl)
  have hfs : LRel G (looped b w a ps as bo) (lift (s.heap ++ [.loop s.tmps qs x y none])) μ1 a0 fs.toList :=
    ⟨by simpa using l1, fun j z v hz hv => (r1 j z v hz (by simpa using hv)).evo m1.evo m1.comp⟩
  have hcs : LRel G (looped b w a ps as bo) (lift (s.heap ++ [.loop s.tmps qs x y none])) μ1 b0 cc.toList :=
    ⟨by simpa using l2, fun j z v hz hv => (r2 j z v hz (by simpa using hv)).evo m1.evo m1.comp⟩
  have hg1 : GlobRel G (looped b w a ps as bo) glob := i.ctx.gr.evo m1.evo
  have hyv : RV G (looped b w a ps as bo) (lift (s.heap ++ [.loop s.tmps qs x y none])) μ1 (.yld s.heap.length) (.func (.yield (w.heap.size + 1)) #[] #[]) :=
    .yld _ _ ⟨.loop s.tmps qs x y none, by simp [lift]⟩ (fun _ _ _ _ _ _ => ⟨0, hμ1⟩)
  have hprep : prep (prims glob) s.tmps (s.heap ++ [.loop s.tmps qs x y none]) [(.own, .k (.yld s.heap.length))] = some ⟨[.yld s.heap.length], s.heap ++ [.loop s.tmps qs x y none], false, []⟩ := by
    simp [prep, argOf, sv, evalO, AM.lent, strip]
  have hP : Prepped P G (looped b w a ps as bo) (lift (s.heap ++ [.loop s.tmps qs x y none])) μ1 [.yld s.heap.length] (#[.func (.yield (w.heap.size + 1)) #[] #[]] : Array Value).toList false (lift (s.heap ++ [.loop s.tmps qs x y none])) G G :=
    ⟨Mv.refl .., hr1, Evo.refl .., hr1.new, fun _ => rfl, .cons hyv ⟨rfl, fun j z v hz => by simp at hz⟩⟩
  obtain ⟨h2, h', hact, hbeh⟩ := call_acts hS hg1 hprep hP hfs hcs (fun _ _ => rfl) (fun id hid _ => List.getElem?_eq_none hid) hcall hk.1
  have hlift : h' = lift r.heap := (eff_behind (reach_lt hprep hcall) (fun _ _ => rfl) hbeh).lift
  subst hlift
  obtain ⟨v, w', ⟨G', μ', q1, q2, q3⟩, st⟩ := range_steps (d := d) (k := k) (cs := cs) hro hf hact
  -- the loop's block
  have hn : s.heap.length < r.heap.length := (List.getElem?_eq_some_iff.1 hblk).1
  obtain ⟨b9, c9, L, o1, o2, o3, o4, o5, o6, o7, o8, o9⟩ := q2.own _ _ hblk
  have hμ' := (q1.comp.loop s.heap.length (.loop s.tmps qs x y none) _ _ _ _ _ (by simp [lift]) hblk).2
  rw [hμ1] at hμ'
  rw [hμ'] at o1; cases o1
  have hpb : p ≠ some .busy := fun e => by subst e; cases hr
  have hbusy : L.state ≠ .busy := by rw [o7 hpb]; split <;> simp
  -- it is done with
  have hsz : w.heap.size + 1 < w'.heap.size := blk_lt o2
  have evo : Evo G' w' G' { w' with heap := w'.heap.setIfInBounds (w.heap.size + 1) (.loop { L with state := .exhausted }) } :=
    ⟨rfl, rfl, rfl, by simp, fun b o ho => ⟨ho, by
      by_cases hb : w.heap.size + 1 = b
      · subst hb
        simp only [World.cell?, Array.getElem?_setIfInBounds, if_true, hsz, o2]
      · simp only [World.cell?, Array.getElem?_setIfInBounds, if_neg hb]⟩⟩
  have hcomp : Comp (lift r.heap) μ' (fun i => if i = s.heap.length then some .dead else lift r.heap i) (fun i => if i = s.heap.length then μ' s.heap.length else μ' i) :=
    comp_set hblk _ _ (fun _ _ h => by cases h) (fun _ _ _ _ h => by cases h) (fun _ _ _ _ _ h => by cases h)
  have key := q2.one (G' := G') (w' := { w' with heap := w'.heap.setIfInBounds (w.heap.size + 1) (.loop { L with state := .exhausted }) }) (n := s.heap.length) (blk := .dead) (m := μ' s.heap.length) evo hcomp
    (fun k hk hne => ⟨by
      have : w.heap.size + 1 ≠ k := fun e => hne _ 0 hblk (by simp) (by rw [hμ', e])
      simp [Array.getElem?_setIfInBounds, this], rfl⟩)
    (fun b c hd => absurd rfl hd) trivial (fun b hb => q2.new b (by simpa using hb))
  rw [ite_self_loc, ← lift_set hn] at key
  -- the marks
  have hd1 : DefersOk w0.heap.size (looped b w a ps as bo) (collected w.heap.size :: d) := by
    obtain ⟨rs, e1, e2, e3⟩ := hd
    refine ⟨w.heap.size :: rs, List.nodup_cons.2 ⟨fun hm => ?_, e1⟩, by rw [e2]; rfl, fun r0 hr0 => ?_⟩
    · exact Nat.lt_irrefl _ (blk_lt (e3 _ hm).2)
    · rcases List.mem_cons.1 hr0 with rfl | hr0
      · exact ⟨i.mv.evo.size, by simp [looped_heap, Array.getElem?_push]⟩
      · obtain ⟨e4, e5⟩ := e3 r0 hr0
        have hlt := blk_lt e5
        exact ⟨e4, by rw [looped_heap, Array.getElem?_push, Array.getElem?_push]; simp [Nat.ne_of_lt hlt, e5]; omega⟩
  have hd3 := (hd1.mv hr1 q1).mv q2 key.1
  have mv := ((i.mv.trans m1).trans q1).trans key.1
  have mtr := (m1.trans q1).trans key.1
  have hinv : Inv P glob G0 w0 h0 μ0 G' { w' with heap := w'.heap.setIfInBounds (w.heap.size + 1) (.loop { L with state := .exhausted }) } μ' s.tmps (r.heap.set s.heap.length .dead) a :=
    ⟨mv, ⟨⟨i.ctx.tr.size, fun j z v hz hv => (i.ctx.tr.rel j z v hz hv).evo mtr.evo mtr.comp⟩, i.ctx.gr.evo mtr.evo, key.2⟩⟩
  have hst := Steps.trans st (.one (s_endRange o2 hbusy))
  have hpc : (L.pending.map Item.code).toList = ((jumpCode p).map Item.code).toList := by rw [o6 hpb]
  rw [hpc] at hst
  cases p with
  | none => cases hr; exact ⟨a, _, G', μ', _, _, hst, rfl, hinv, hd3⟩
  | some j => cases j with
    | exit id => cases hr; exact ⟨a, _, G', μ', _, _, hst, ⟨k, rfl, rfl⟩, hinv, hd3⟩
    | ret => cases hr; exact ⟨a, _, G', μ', _, _, hst, ⟨k, rfl⟩, hinv, hd3⟩
    | busy => cases hr
end
end AI
end

section
namespace AI
open Go

section
variable {P : Program} {glob : Nat → Row} {S : SFn}

/-- What is shown elsewhere: regions whose order is open. -/
def DrawOk (P : Program) (glob : Nat → Row) (S : SFn) : Prop :=
  ∀ (id : Nat) (ops : Array Oper) (gs : List GOp) (before : List Nat) (s s' : St), ckCode P (.region id ops true) (.draw gs before) = true → runDraw (prims glob) S gs before [] s = some s' → s'.oks.all id' = true →
    s.oks.all id' = true ∧ ∀ G0 w0 h0 μ0 (b : Base), Runs P glob G0 w0 h0 μ0 b (.region id ops true) s .normal s'
where id' : Bool → Bool := fun x => x

theorem all_id (l : List Bool) : l.all (fun x => x) = l.all id := rfl

theorem chk_all {glob : Nat → Row} {l : List Bool} (h : (prims glob).chk l = true) : l.all id = true := h

theorem exec_ok (hS : SoundFn P glob S) (hD : DrawOk P glob S) {h0 : List Blk} (hz : Zero h0) (n : Nat) : ∀ (C : Code) (rc : RCode) (s s' : St) (e : Exit), ckCode P C rc = true → exec (prims glob) S (loopAt (prims glob) n) h0.length rc s = some (e, s') → s'.oks.all id = true →
    (∃ x, e = .pnc x) ∨ (s.oks.all id = true ∧ ∀ G0 w0 μ0 b, (noRng rc = true ∨ b.ro = none) → Runs P glob G0 w0 h0 μ0 b C s e s')
  | .skip, rc, s, s', e, hck, hr, hk => by
    cases rc <;> simp [ckCode] at hck
    simp only [exec] at hr; cases hr
    exact .inr ⟨hk, fun G0 w0 μ0 b hn G w μ a i d k cs hd => ⟨a, w, G, μ, _, d, .one s_skip, rfl, i, hd⟩⟩
  | .label l, rc, s, s', e, hck, hr, hk => by
    cases rc <;> simp [ckCode] at hck
    simp only [exec] at hr; cases hr
    exact .inr ⟨hk, fun G0 w0 μ0 b hn G w μ a i d k cs hd => ⟨a, w, G, μ, _, d, .one s_label, rfl, i, hd⟩⟩
  | .region id0 ops dr, rc, s, s', e, hck, hr, hk => by
    cases rc <;> simp [ckCode] at hck
    · rename_i gs
      simp only [exec] at hr
      split at hr <;> try cases hr
      · rename_i s1 h1
        have key := fun {a : Array Value} {G : Ghost} {w : World} {μ : Loc} (c : Ctx P glob G w (lift s.heap) μ s.tmps a) => region_ok hS (ops := ops) (i := 0) (by simpa using hck.2) h1 hk c
        have hlen : gs.length = ops.size := by
          have : ∀ (l : List Oper) (gs : List GOp), ckOps P ops l gs = true → gs.length = l.length := by
            intro l
            induction l with
            | nil => intro gs h; cases gs <;> simp [ckOps] at h ⊢
            | cons o l ih => intro gs h; cases gs with
              | nil => simp [ckOps] at h
              | cons g gs => simp only [ckOps, Bool.and_eq_true] at h; simp [ih gs h.2]
          rw [this _ _ hck.2]; simp
        have hoks : s.oks.all id = true := by
          have hall : ∀ (gs : List GOp) (s s' : St), runOps (prims glob) S gs s = some (.ok s') → s'.oks.all id = true → s.oks.all id = true := by
            intro gs
            induction gs with
            | nil => intro s s' e hk; simp [runOps] at e; subst e; exact hk
            | cons g gs ih =>
              intro s s' e hk
              simp only [runOps] at e
              split at e
              · rename_i s1 h1
                have := ih s1 s' e hk
                unfold stepG at h1
                split at h1
                · split at h1 <;> cases h1
                  simp only [List.all_append, Bool.and_eq_true] at this; exact this.2
                · split at h1
                  · cases h1
                  · split at h1
                    · split at h1 <;> cases h1
                      · simp only [List.all_append, Bool.and_eq_true] at this; exact this.2
                      · simp only [List.all_append, List.all_cons, Bool.and_eq_true] at this; exact this.2.2
                    · split at h1
                      · split at h1 <;> cases h1
                        simp only [List.all_append, Bool.and_eq_true] at this; exact this.2
                      · cases h1
                        simp only [List.all_append, Bool.and_eq_true] at this; exact this.2
              · rename_i hne; exact (hne _ e).elim
          exact hall _ _ _ h1 hk
        refine .inr ⟨hoks, fun G0 w0 μ0 b hn G w μ a i d k cs hd => ?_⟩
        obtain ⟨a', w', G', μ', q1, q2, q3⟩ := (key i.ctx).2 b d k cs
        refine ⟨a', w', G', μ', _, d, ?_, rfl, ⟨i.mv.trans q2, q3⟩, hd.mv i.ctx.hr q2⟩
        have hdr : dr = false := hck.1
        subst hdr
        rw [hlen, ← List.range_eq_range'] at q1
        exact .head s_region q1
      · exact .inl ⟨_, rfl⟩
    · rename_i gs before
      simp only [exec] at hr
      split at hr <;> cases hr
      rename_i h1
      have hdr : dr = true := hck.1.1.1
      subst hdr
      obtain ⟨q1, q2⟩ := hD id0 ops gs before s s' (by simp [ckCode, hck]) h1 hk
      exact .inr ⟨q1, fun G0 w0 μ0 b _ => q2 G0 w0 h0 μ0 b⟩
  | .seq x y, rc, s, s', e, hck, hr, hk => by
    cases rc <;> simp [ckCode] at hck
    rename_i rx ry
    simp only [exec] at hr
    split at hr
    · rename_i s1 h1
      rcases exec_ok hS hD hz n y ry s1 s' e hck.2 hr hk with ⟨z, q1⟩ | ⟨k1, q1⟩
      · exact .inl ⟨z, q1⟩
      rcases exec_ok hS hD hz n x rx s s1 .normal hck.1 h1 k1 with ⟨z, q2⟩ | ⟨k2, q2⟩
      · cases q2
      refine .inr ⟨k2, ?_⟩
      refine fun G0 w0 μ0 b hn G w μ a i d k cs hd => ?_
      obtain ⟨a1, w1, G1, μ1, m1, d1, z1, z2, z3, zd⟩ := q2 G0 w0 μ0 b (hn.imp_left fun h => by simp only [noRng, Bool.and_eq_true] at h; exact h.1) G w μ a i d (.code y :: k) cs hd
      obtain rfl : m1 = _ := z2
      obtain ⟨a2, w2, G2, μ2, m2, d2, y1, y2, y3, yd⟩ := q1 G0 w0 μ0 b (hn.imp_left fun h => by simp only [noRng, Bool.and_eq_true] at h; exact h.2) G1 w1 μ1 a1 z3 d1 k cs zd
      exact ⟨a2, w2, G2, μ2, m2, d2, .head s_seq (Steps.trans z1 y1), y2, y3, yd⟩
    · rename_i hne
      rcases exec_ok hS hD hz n x rx s s' e hck.1 hr hk with ⟨z, q2⟩ | ⟨k2, q2⟩
      · exact .inl ⟨z, q2⟩
      refine .inr ⟨k2, ?_⟩
      refine fun G0 w0 μ0 b hn G w μ a i d k cs hd => ?_
      obtain ⟨a1, w1, G1, μ1, m1, d1, z1, z2, z3, zd⟩ := q2 G0 w0 μ0 b (hn.imp_left fun h => by simp only [noRng, Bool.and_eq_true] at h; exact h.1) G w μ a i d (.code y :: k) cs hd
      refine ⟨a1, w1, G1, μ1, m1, d1, .head s_seq z1, ?_, z3, zd⟩
      cases e with
      | normal => exact (hne _ hr).elim
      | exit id => obtain ⟨k', e1, e2⟩ := z2; exact ⟨k', by rw [e1]; rfl, e2⟩
      | ret => exact z2
      | pnc x => exact z2
  | .cond c x y, rc, s, s', e, hck, hr, hk => by
    cases rc <;> simp [ckCode] at hck
    rename_i c' rx ry
    simp only [exec] at hr
    split at hr <;> try cases hr
    rename_i p hp
    have cond : ∀ {G : Ghost} {w : World} {μ : Loc} {a : Array Value}, Ctx P glob G w (lift s.heap) μ s.tmps a → (prims glob).isB p = true → ev a c = .bool ((prims glob).truth p) := by
      intro G w μ a cx hb
      have := evalO_rv (glob := glob) cx.tr cx.gr hck.1.1
      rw [hp] at this
      have hq := this.pv_inv
      cases p <;> simp [prims] at hb
      rw [hq.bool_inv]; rfl
    split at hr
    · rename_i ht
      rcases exec_ok hS hD hz n x rx _ s' e hck.1.2 hr hk with ⟨z, q1⟩ | ⟨k1, q1⟩
      · exact .inl ⟨z, q1⟩
      simp only [List.all_cons, Bool.and_eq_true, id] at k1
      refine .inr ⟨k1.2, ?_⟩
      refine fun G0 w0 μ0 b hn G w μ a i d k cs hd => ?_
      obtain ⟨a1, w1, G1, μ1, m1, d1, z1, z2, z3, zd⟩ := q1 G0 w0 μ0 b (hn.imp_left fun h => by simp only [noRng, Bool.and_eq_true] at h; exact h.1) G w μ a i d k cs hd
      refine ⟨a1, w1, G1, μ1, m1, d1, .head (s_cond (cond i.ctx k1.1)) ?_, z2, z3, zd⟩
      rw [ht]; exact z1
    · rename_i ht
      rcases exec_ok hS hD hz n y ry _ s' e hck.2 hr hk with ⟨z, q1⟩ | ⟨k1, q1⟩
      · exact .inl ⟨z, q1⟩
      simp only [List.all_cons, Bool.and_eq_true, id] at k1
      refine .inr ⟨k1.2, ?_⟩
      refine fun G0 w0 μ0 b hn G w μ a i d k cs hd => ?_
      obtain ⟨a1, w1, G1, μ1, m1, d1, z1, z2, z3, zd⟩ := q1 G0 w0 μ0 b (hn.imp_left fun h => by simp only [noRng, Bool.and_eq_true] at h; exact h.2) G w μ a i d k cs hd
      refine ⟨a1, w1, G1, μ1, m1, d1, .head (s_cond (cond i.ctx k1.1)) ?_, z2, z3, zd⟩
      rw [show (prims glob).truth p = false by simpa using ht]; exact z1
  | .block id0 x, rc, s, s', e, hck, hr, hk => by
    cases rc <;> simp [ckCode] at hck
    rename_i id1 rx
    obtain ⟨rfl, hck⟩ := hck
    simp only [exec] at hr
    split at hr
    · rename_i i0 s1 h1
      have hs1 : s1 = s' := by split at hr <;> cases hr <;> rfl
      subst hs1
      rcases exec_ok hS hD hz n x rx s s1 (.exit i0) hck h1 hk with ⟨z, q1⟩ | ⟨k1, q1⟩
      · cases q1
      refine .inr ⟨k1, ?_⟩
      refine fun G0 w0 μ0 b hn G w μ a i d k cs hd => ?_
      obtain ⟨a1, w1, G1, μ1, m1, d1, z1, ⟨k', e1, e2⟩, z3, zd⟩ := q1 G0 w0 μ0 b (hn.imp_left fun h => by simpa only [noRng] using h) G w μ a i d (.inBlock id0 :: k) cs hd
      subst e2
      split at hr
      · rename_i he
        cases hr
        subst he
        refine ⟨a1, w1, G1, μ1, _, d1, .head s_block (Steps.trans z1 (.one (s_exit (by rw [e1]; simp [exitTo])))), rfl, z3, zd⟩
      · rename_i he
        cases hr
        refine ⟨a1, w1, G1, μ1, _, d1, .head s_block z1, ⟨k', ?_, rfl⟩, z3, zd⟩
        rw [e1]; simp [exitTo, Ne.symm he]
    · rename_i hne
      rcases exec_ok hS hD hz n x rx s s' e hck hr hk with ⟨z, q1⟩ | ⟨k1, q1⟩
      · exact .inl ⟨z, q1⟩
      refine .inr ⟨k1, ?_⟩
      refine fun G0 w0 μ0 b hn G w μ a i d k cs hd => ?_
      obtain ⟨a1, w1, G1, μ1, m1, d1, z1, z2, z3, zd⟩ := q1 G0 w0 μ0 b (hn.imp_left fun h => by simpa only [noRng] using h) G w μ a i d (.inBlock id0 :: k) cs hd
      cases e with
      | normal => obtain rfl : m1 = _ := z2; exact ⟨a1, w1, G1, μ1, _, d1, .head s_block (Steps.trans z1 (.one s_inBlock)), rfl, z3, zd⟩
      | exit id => exact (hne _ _ hr).elim
      | ret => exact ⟨a1, w1, G1, μ1, m1, d1, .head s_block z1, z2, z3, zd⟩
      | pnc x => exact ⟨a1, w1, G1, μ1, m1, d1, .head s_block z1, z2, z3, zd⟩
  | .loop x, rc, s, s', e, hck, hr, hk => by
    cases rc <;> simp [ckCode] at hck
    rename_i ann rx
    simp only [exec] at hr
    split at hr <;> cases hr
    rename_i s1' h1'
    unfold outOf at h1'
    split at h1' <;> cases h1'
    rename_i s1 h1
    simp only [List.all_append, Bool.and_eq_true] at hk
    -- the rounds
    have key : ∀ (j : Nat) (t : St), loopAt (prims glob) j (head h0.length ann) (exec (prims glob) S (loopAt (prims glob) n) h0.length rx) ⟨(head h0.length ann t).tmps, (head h0.length ann t).heap, []⟩ = some (e, s1) →
        (∃ z, e = .pnc z) ∨ ∀ G0 w0 μ0 b, (noRng rx = true ∨ b.ro = none) → ∀ G w μ a, Inv P glob G0 w0 h0 μ0 G w μ t.tmps t.heap a → ∀ (d : List Deferred) (k : List Item) (cs : List Frame), DefersOk w0.heap.size w d → ∃ a' w' G' μ' m d',
          Steps P (lone (b.fr a d (.code x :: .inLoop x :: k)) cs w) m ∧ Stands b a' d' k cs w' e m ∧ Inv P glob G0 w0 h0 μ0 G' w' μ' s1.tmps s1.heap a' ∧ DefersOk w0.heap.size w' d' := by
      intro j
      induction j with
      | zero => intro t h; simp [loopAt] at h
      | succ j ih =>
        intro t h
        simp only [loopAt] at h
        split at h
        · rename_i s2 h2
          split at h <;> try cases h
          rename_i hc
          rcases exec_ok hS hD hz n x rx _ s2 .normal hck h2 (chk_all hc) with ⟨z, q1⟩ | ⟨-, q1⟩
          · cases q1
          rcases ih s2 h with q2 | q2
          · exact .inl q2
          refine .inr fun G0 w0 μ0 b hn G w μ a i d k cs hd => ?_
          obtain ⟨μ1, i1⟩ := head_ok (ann := ann) hz i
          obtain ⟨a2, w2, G2, μ2, m2, d2, z1, z2, z3, zd⟩ := q1 G0 w0 μ0 b hn G w μ1 a i1 d (.inLoop x :: k) cs hd
          obtain rfl : m2 = _ := z2
          obtain ⟨a3, w3, G3, μ3, m3, d3, y1, y2, y3, yd⟩ := q2 G0 w0 μ0 b hn G2 w2 μ2 a2 z3 d2 k cs zd
          exact ⟨a3, w3, G3, μ3, m3, d3, Steps.trans z1 (.head s_inLoop y1), y2, y3, yd⟩
        · rename_i e2 s2 hne h2
          split at h <;> cases h
          rename_i hc
          rcases exec_ok hS hD hz n x rx _ s2 e hck h2 (chk_all hc) with q1 | ⟨-, q1⟩
          · exact .inl q1
          refine .inr fun G0 w0 μ0 b hn G w μ a i d k cs hd => ?_
          obtain ⟨μ1, i1⟩ := head_ok (ann := ann) hz i
          obtain ⟨a2, w2, G2, μ2, m2, d2, z1, z2, z3, zd⟩ := q1 G0 w0 μ0 b hn G w μ1 a i1 d (.inLoop x :: k) cs hd
          refine ⟨a2, w2, G2, μ2, m2, d2, z1, ?_, z3, zd⟩
          cases e with
          | normal => exact (hne rfl).elim
          | exit id => obtain ⟨k', e1, e3⟩ := z2; exact ⟨k', by rw [e1]; rfl, e3⟩
          | ret => exact z2
          | pnc x => exact z2
        · cases h
    rcases key n s h1 with q | q
    · exact .inl q
    · refine .inr ⟨hk.2, fun G0 w0 μ0 b hn G w μ a i d k cs hd => ?_⟩
      obtain ⟨a2, w2, G2, μ2, m2, d2, z1, z2, z3, zd⟩ := q G0 w0 μ0 b (hn.imp_left fun h => by simpa only [noRng] using h) G w μ a i d k cs hd
      obtain ⟨μ3, i3⟩ := head_ok (ann := ⟨ann.outs, [], ann.grow, []⟩) hz z3
      exact ⟨a2, w2, G2, μ3, m2, d2, .head s_loop z1, z2, i3, zd⟩
  | .scope x, rc, s, s', e, hck, hr, hk => by
    have hck' : ckCode P x rc = true := by cases rc <;> simpa [ckCode] using hck
    rcases exec_ok hS hD hz n x rc s s' e hck' hr hk with ⟨z, q1⟩ | ⟨k1, q1⟩
    · exact .inl ⟨z, q1⟩
    refine .inr ⟨k1, ?_⟩
    refine fun G0 w0 μ0 b hn G w μ a i d k cs hd => ?_
    obtain ⟨a1, w1, G1, μ1, m1, d1, z1, z2, z3, zd⟩ := q1 G0 w0 μ0 b hn G w μ a i d (.inScope x :: k) cs hd
    cases e with
    | normal => obtain rfl : m1 = _ := z2; exact ⟨a1, w1, G1, μ1, _, d1, .head s_scope (Steps.trans z1 (.one s_inScope)), rfl, z3, zd⟩
    | exit id => obtain ⟨k', e1, e2⟩ := z2; exact ⟨a1, w1, G1, μ1, m1, d1, .head s_scope z1, ⟨k', by rw [e1]; rfl, e2⟩, z3, zd⟩
    | ret => exact ⟨a1, w1, G1, μ1, m1, d1, .head s_scope z1, z2, z3, zd⟩
    | pnc x => exact ⟨a1, w1, G1, μ1, m1, d1, .head s_scope z1, z2, z3, zd⟩
  | .exit id0, rc, s, s', e, hck, hr, hk => by
    cases rc <;> simp [ckCode] at hck
    subst hck
    simp only [exec] at hr; cases hr
    exact .inr ⟨hk, fun G0 w0 μ0 b hn G w μ a i d k cs hd => ⟨a, w, G, μ, _, d, .refl _ _, ⟨k, rfl, rfl⟩, i, hd⟩⟩
  | .ret, rc, s, s', e, hck, hr, hk => by
    cases rc <;> simp [ckCode] at hck
    simp only [exec] at hr; cases hr
    exact .inr ⟨hk, fun G0 w0 μ0 b hn G w μ a i d k cs hd => ⟨a, w, G, μ, _, d, .refl _ _, ⟨k, rfl⟩, i, hd⟩⟩
  | .rangeFunc f ps x y, rc, s, s', e, hck, hr, hk => by
    cases rc <;> try (simp [ckCode] at hck; done)
    rename_i g qs rx ry
    rcases rng_ok (h0 := h0) hS hck hr hk with h | ⟨h1, h2⟩
    · exact .inl h
    · exact .inr ⟨h1, fun G0 w0 μ0 b hn => h2 G0 w0 μ0 b (hn.resolve_left (by simp [noRng]))⟩
  | .goto l, rc, s, s', e, hck, hr, hk => by cases rc <;> simp [ckCode] at hck
  | .refuse l, rc, s, s', e, hck, hr, hk => by cases rc <;> simp [ckCode] at hck
end
end AI
end

section
namespace AI
open Go

section
variable {P : Program} {glob : Nat → Row} {S : SFn}

def resOf (P : Program) (a : Array Value) : ResultVar → Sem Value
  | .tmp t => pure (a.getD t undef)
  | .cell p t => do loadVar t (← asAddr (a.getD p undef))

def oneOf (us : List Value) : Value := match us with | [v] => v | _ => .tuple us.toArray

theorem load_cell {w : World} {ty : TypeId} {v r : Value} (h : (Instr.loadAt ty v).run P w = .ok r w) : (do loadVar ty (← asAddr v) : Sem Value).run P w = .ok r w := by
  cases v <;> simp [Instr.loadAt, Instr.sureAddr] at h ⊢
  rename_i ad
  cases ad <;> simp [Instr.loadAt, Instr.sureAddr, asAddr] at h ⊢
  exact h

theorem resOne_ok {G : Ghost} {w : World} {μ : Loc} {t : List LV} {hl hl' : List Blk} {a : Array Value} {r : RRes} {rv : ResultVar} {v : LV} {k : List Bool} (c : Ctx P glob G w (lift hl) μ t a) (hck : ckRes P [rv] [r] = true)
    (e : resOne (prims glob) S t hl r = some (v, hl', k)) (hk : k.all id = true) :
    ∃ u G', (resOf P a rv).run P w = .ok u w ∧ Mv G w (lift hl) μ G' w (lift hl') μ ∧ HRel P G' w (lift hl') μ ∧ RV G' w (lift hl') μ v u := by
  unfold resOne at e
  -- the value
  have val : ∀ {x : LV} {kx : List Bool}, (if r.cell then (match opRun (prims glob) S (.load 0 r.agg r.n (.t r.t)) t hl with | some (.ok x) => some (x.v, x.oks) | _ => none) else some (t.getD r.t .bad, [])) = some (x, kx) → kx.all id = true →
      ∃ u, (resOf P a rv).run P w = .ok u w ∧ RV G w (lift hl) μ x u := by
    intro x kx hx hkx
    cases rv with
    | tmp tt =>
      simp only [ckRes, Bool.and_eq_true, Bool.not_eq_true', beq_iff_eq, Bool.and_true] at hck
      obtain ⟨hc, ht⟩ := hck
      rw [hc] at hx
      simp only [Bool.false_eq_true, if_false] at hx
      cases hx
      rw [ht]
      exact ⟨_, rfl, c.tr.get tt⟩
    | cell p ty =>
      simp only [ckRes, Bool.and_eq_true, beq_iff_eq, Bool.and_true] at hck
      obtain ⟨⟨⟨⟨hc, ht⟩, h1⟩, h2⟩, h3⟩ := hck
      rw [hc] at hx
      simp only [if_true] at hx
      split at hx <;> cases hx
      rename_i res hres
      let o : Oper := { (default : Oper) with op := .load ty (.tmp p) }
      obtain ⟨-, u, k1, k2⟩ := o_load (o := o) (x := .tmp p) (y := .t r.t) c rfl (by simp [ckRO, ht]) h1 h2 h3 (fun _ _ => rfl) hres hkx
      refine ⟨u, ?_, k2⟩
      have : (Instr.loadAt ty (a.getD p undef)).run P w = .ok u w := by
        simp only [execOp, o, ev, Sem.run_bind] at k1
        cases hh : (Instr.loadAt ty (a.getD p undef)).run P w with
        | ok z w' => rw [hh] at k1; simp at k1; rw [k1.1, k1.2]
        | halt z w' => rw [hh] at k1; simp at k1
      exact load_cell this
  split at e
  · cases e
  · rename_i x kx hx
    split at e
    · split at e
      · split at e <;> try cases e
        rename_i hrow
        split at e <;> cases e
        rename_i row k' hf
        simp only [List.all_append, Bool.and_eq_true] at hk
        obtain ⟨u, q1, q2⟩ := val hx hk.1
        obtain ⟨G', f1, f2, f3, f4, f5, f6⟩ := freezeRow_rv c.hr q2 hf hk.2 (.inr trivial)
        have hagg : ∃ cs, u = .agg cs := by
          cases x <;> simp [isRow] at hrow
          · obtain ⟨cs, e, -⟩ := q2.prow_inv; exact ⟨cs, e⟩
          · obtain ⟨cs, e, -⟩ := q2.row_inv; exact ⟨cs, e⟩
        obtain ⟨cs, rfl⟩ := hagg
        exact ⟨_, G', q1, f1, f2, .prow row cs (by simp only [Value.cells] at f4; omega) f6⟩
      · split at e <;> cases e
        rename_i p hf
        obtain ⟨u, q1, q2⟩ := val hx hk
        obtain ⟨G', f1, f2, f3, f4⟩ := freeze_rv depth c.hr q2 hf
        exact ⟨u, G', q1, f1, f2, .pv _ _ f3⟩
    · cases e
      obtain ⟨u, q1, q2⟩ := val hx hk
      exact ⟨u, G, q1, Mv.refl .., c.hr, q2⟩

theorem resAll_ok {w : World} {μ : Loc} {t : List LV} {a : Array Value} : ∀ {rvs : List ResultVar} {rs : List RRes} {hl hl' : List Blk} {G : Ghost} {vs : List LV} {k : List Bool}, Ctx P glob G w (lift hl) μ t a → ckRes P rvs rs = true →
    resAll (prims glob) S t hl rs = some (vs, hl', k) → k.all id = true →
    ∃ us G', (rvs.mapM (resOf P a)).run P w = .ok us w ∧ Mv G w (lift hl) μ G' w (lift hl') μ ∧ HRel P G' w (lift hl') μ ∧ LRel G' w (lift hl') μ vs us
  | [], [], hl, hl', G, vs, k, c, _, e, _ => by
    simp [resAll] at e; obtain ⟨rfl, rfl, rfl⟩ := e
    exact ⟨[], G, rfl, Mv.refl .., c.hr, rfl, fun j x v h => by simp at h⟩
  | rv :: rvs, r :: rs, hl, hl', G, vs, k, c, hck, e, hk => by
    have hck' : ckRes P [rv] [r] = true ∧ ckRes P rvs rs = true := by
      cases rv <;> simp only [ckRes, Bool.and_eq_true, Bool.and_true] at hck ⊢ <;> exact hck
    simp only [resAll] at e
    split at e <;> try cases e
    rename_i v h1 k1 e1
    split at e <;> cases e
    rename_i vs' k2 e2
    simp only [List.all_append, Bool.and_eq_true] at hk
    obtain ⟨u, G1, q1, q2, q3, q4⟩ := resOne_ok c hck'.1 e1 hk.1
    obtain ⟨us, G2, y1, y2, y3, y4⟩ := resAll_ok (c.mv q2 q3) hck'.2 e2 hk.2
    refine ⟨u :: us, G2, ?_, q2.trans y2, y3, .cons (q4.evo y2.evo y2.comp) y4⟩
    simp only [List.mapM_cons, Sem.run_bind, q1, Result.andThen_ok, y1, Sem.run_pure]
  | [], _ :: _, _, _, _, _, _, _, h, _, _ => by simp [ckRes] at h
  | rv :: _, [], _, _, _, _, _, _, h, _, _ => by cases rv <;> simp [ckRes] at h

theorem results_ok {fn : Func} {a : Array Value} {w : World} {us : List Value} (h : (fn.results.toList.mapM (resOf P a)).run P w = .ok us w) :
    (results fn a).run P w = .ok (oneOf us) w := by
  have he : results fn a = (do let vs ← fn.results.mapM (resOf P a); pure (if h : vs.size = 1 then vs[0] else .tuple vs)) := by
    unfold results
    congr 1
  rw [he, Array.mapM_eq_mapM_toList]
  simp only [Sem.run_bind, Sem.run_map, h, Result.andThen_ok, Sem.run_pure]
  match us with
  | [] => rfl
  | [v] => rfl
  | x :: y :: l => simp [oneOf]

/-- A function's frame. -/
theorem enter_fr (f : FuncId) (vs : Array Value) {fn : Func} (hf : P.funcs[f]? = some fn) {c : Code} (hb : fn.body = some c) :
    Frame.enter P f vs .normal = (⟨f, .normal, none⟩ : Base).fr (vs ++ Array.replicate (fn.ntmps - vs.size) undef) [] [.code c] := by
  simp [Frame.enter, Base.fr, hf, hb]

/-- What a plain call of it does. -/
def plainFn (P : Program) (f : FuncId) : Bool :=
  match P.funcs[f]? with
  | some fn => fn.name != "runtime.NumGoroutine" && fn.body.isSome
  | none => false

theorem callFunc_plain {f : FuncId} (h : plainFn P f = true) (vs : Array Value) (w : World) : (callFunc f vs).run P w = .ok (.enter f vs) w := by
  unfold plainFn at h
  split at h
  · rename_i fn hf
    simp only [Bool.and_eq_true, bne_iff_ne, ne_eq] at h
    simp [callFunc, hf, h.1]
    intro e; simp [e] at h
  · cases h

/-- Worlds that differ at marks alone. -/
structure Unmarked (n0 : Nat) (w w' : World) : Prop where
  os : w'.os = w.os
  tape : w'.tape = w.tape
  output : w'.output = w.output
  size : w'.heap.size = w.heap.size
  blk : ∀ b, w'.heap[b]? = w.heap[b]? ∨ (n0 ≤ b ∧ w.heap[b]? = some (.deferred (some [])) ∧ w'.heap[b]? = some (.deferred none))

theorem unmark {fr : Frame} {cs : List Frame} {n0 : Nat} (hm : fr.mode = .returning) : ∀ (rs : List Nat) (w : World), rs.Nodup → (∀ r ∈ rs, n0 ≤ r ∧ w.heap[r]? = some (.deferred (some []))) →
    ∃ w', Steps P (lone { fr with defers := rs.map collected } cs w) (lone { fr with defers := [] } cs w') ∧ Unmarked n0 w w'
  | [], w, _, _ => ⟨w, .refl _ _, rfl, rfl, rfl, rfl, fun _ => .inl rfl⟩
  | r :: rs, w, hn, hb => by
    obtain ⟨h1, h2⟩ := List.nodup_cons.1 hn
    have hr := hb r (List.mem_cons_self ..)
    have hlt := blk_lt hr.2
    obtain ⟨w', q1, q2⟩ := unmark (fr := fr) (cs := cs) (n0 := n0) hm rs { w with heap := w.heap.setIfInBounds r (.deferred none) } h2 (fun r' hr' => by
      have hne : r ≠ r' := fun e => h1 (e ▸ hr')
      have := hb r' (List.mem_cons_of_mem _ hr')
      exact ⟨this.1, by simpa [Array.getElem?_setIfInBounds, hne] using this.2⟩)
    refine ⟨w', .head (s_unmark (fr := { fr with defers := (r :: rs).map collected }) hm rfl hr.2) q1, q2.os, q2.tape, q2.output, by rw [q2.size]; simp, fun b => ?_⟩
    by_cases hbr : r = b
    · subst hbr
      refine .inr ⟨hr.1, hr.2, ?_⟩
      rcases q2.blk r with h | ⟨-, h, -⟩
      · rw [h]; simp [Array.getElem?_setIfInBounds, hlt]
      · simp [Array.getElem?_setIfInBounds, hlt] at h
    · have := q2.blk b
      simpa [Array.getElem?_setIfInBounds, hbr] using this

theorem Unmarked.evo {n0 : Nat} {w w' : World} (u : Unmarked n0 w w') (G : Ghost) : Evo G w G w' :=
  ⟨u.os, u.tape, u.output, by rw [u.size]; exact Nat.le_refl _, fun b o ho => ⟨ho, by
    rcases u.blk b with h | ⟨-, h1, h2⟩
    · simp [World.cell?, h]
    · simp [World.cell?, h1, h2]⟩⟩
theorem Unmarked.hrel {n0 : Nat} {w w' : World} (u : Unmarked n0 w w') {G : Ghost} {h : HF} {μ : Loc} (r : HRel P G w h μ) : HRel P G w' h μ :=
  ⟨fun id blk hb => (r.own id blk hb).keep (u.evo G) (Comp.refl ..) rfl (fun b c hm hd => ⟨by
    rcases u.blk b with h | ⟨-, h1, -⟩
    · exact h
    · exact ((r.own id blk hb).obj hd hm h1).elim, rfl⟩), r.inj, fun b hb => r.new b (by rw [u.size] at hb; exact hb)⟩
theorem Unmarked.mv {w0 w w' : World} (u : Unmarked w0.heap.size w w') {G0 G : Ghost} {h0 h : HF} {μ0 μ : Loc} (m : Mv G0 w0 h0 μ0 G w h μ) : Mv G0 w0 h0 μ0 G w' h μ :=
  ⟨m.evo.trans (u.evo G), m.comp, fun b hb hn => ⟨by
    rcases u.blk b with h | ⟨h, -⟩
    · rw [h]; exact (m.frame b hb hn).1
    · omega, (m.frame b hb hn).2⟩, m.loc⟩

theorem fn_ok (hS : SoundFn P glob S) (hD : DrawOk P glob S) (n : Nat) {f : FuncId} {rf : RFn} (hp : plainFn P f = true) (hck : ckFn P f rf = true) {args : List LV} {h0 h' : List Blk} {v : LV}
    (e : runFn (prims glob) S (loopAt (prims glob) n) rf args h0 = some (.ret v, h')) {G : Ghost} {w : World} {μ : Loc} {vs : Array Value} (hr : HRel P G w (lift h0) μ) (hg : GlobRel G w glob) (ha : LRel G w (lift h0) μ args vs.toList) (hz : Zero h0) :
    Acts P f vs w (fun r w' => ∃ G' μ', Mv G w (lift h0) μ G' w' (lift h') μ' ∧ HRel P G' w' (lift h') μ' ∧ RV G' w' (lift h') μ' v r) := by
  refine .inl ⟨callFunc_plain hp vs w, fun cs => ?_⟩
  unfold ckFn at hck
  split at hck <;> try cases hck
  rename_i fn hf
  simp only [Bool.and_eq_true, beq_iff_eq] at hck
  obtain ⟨⟨hnt, hres⟩, hbody⟩ := hck
  split at hbody <;> try cases hbody
  rename_i c hc
  rw [enter_fr f vs hf hc]
  have htr : TR G w (lift h0) μ (args ++ List.replicate (rf.ntmps - args.length) .bad) (vs ++ Array.replicate (fn.ntmps - vs.size) undef) := by
    have hl : args.length = vs.size := by simpa using ha.1
    refine ⟨by simp [hnt, hl], fun i x u hx hu => ?_⟩
    rw [List.getElem?_append] at hx
    rw [Array.getElem?_append] at hu
    rw [hl] at hx
    split at hx
    · rename_i hi; rw [if_pos hi] at hu; exact ha.2 i x u hx (by simpa using hu)
    · rw [List.getElem?_replicate] at hx
      split at hx <;> cases hx
      exact .bad _
  have inv : Inv P glob G w h0 μ G w μ (args ++ List.replicate (rf.ntmps - args.length) .bad) h0 (vs ++ Array.replicate (fn.ntmps - vs.size) undef) := ⟨Mv.refl .., htr, hg, hr⟩
  unfold runFn at e
  split at e
  · repeat' split at e
    all_goals cases e
  · cases e
  · rename_i ex s hne1 hne2 hex
    cases hres1 : resAll (prims glob) S s.tmps s.heap rf.res with
    | none => rw [hres1] at e; cases e
    | some p =>
    obtain ⟨rvs, h1, k⟩ := p
    rw [hres1] at e
    simp only at e
    by_cases hchk : (prims glob).chk (k ++ s.oks) = true
    case neg => rw [if_neg hchk] at e; cases e
    rw [if_pos hchk] at e
    have hall := chk_all hchk
    simp only [List.all_append, Bool.and_eq_true] at hall
    have htd : ∃ l, tidy h0.length [] h1 [resVal rvs] = (v :: l, h') := by
      revert e
      generalize tidy h0.length [] h1 [resVal rvs] = z
      intro e
      obtain ⟨l, h''⟩ := z
      cases l with
      | nil => cases e
      | cons v' l' => cases e; exact ⟨_, rfl⟩
    obtain ⟨l, htd⟩ := htd
    rcases exec_ok hS hD hz n c rf.body _ s ex hbody hex hall.2 with ⟨x, hx⟩ | ⟨-, q⟩
    · subst hx; exact (hne1 x rfl).elim
    obtain ⟨a', w1, G', μ', m, d', z1, z2, z3, rs, r1, r2, r3⟩ := q G w μ ⟨f, .normal, none⟩ (.inr rfl) G w μ _ inv [] [] cs ⟨[], List.nodup_nil, rfl, fun r h => by simp at h⟩
    have fin : ∀ todo, ∃ w' r, (∃ G' μ', Mv G w (lift h0) μ G' w' (lift h') μ' ∧ HRel P G' w' (lift h') μ' ∧ RV G' w' (lift h') μ' v r) ∧
        Steps P (lone { (⟨f, .normal, none⟩ : Base).fr a' d' todo with mode := .returning } cs w1) (lone { (⟨f, .normal, none⟩ : Base).fr a' [] todo with mode := .returning } cs w') ∧
        ({ (⟨f, .normal, none⟩ : Base).fr a' [] todo with mode := .returning } : Frame).leaving P w' (.returned r) := by
      intro todo
      obtain ⟨w', u1, u2⟩ := unmark (P := P) (fr := { (⟨f, .normal, none⟩ : Base).fr a' [] todo with mode := .returning }) (cs := cs) (n0 := w.heap.size) rfl rs w1 r1 r3
      have hctx : Ctx P glob G' w' (lift s.heap) μ' s.tmps a' := ⟨⟨z3.ctx.tr.size, fun j x y hx hy => (z3.ctx.tr.rel j x y hx hy).evo (u2.evo G') (Comp.refl ..)⟩, z3.ctx.gr.evo (u2.evo G'), u2.hrel z3.ctx.hr⟩
      obtain ⟨us, G2, y1, y2, y3, y4⟩ := resAll_ok hctx hres hres1 hall.1
      obtain ⟨μ3, t1, t2, t3, t4⟩ := tidy_ok (grow := []) (vs := [resVal rvs]) hz ((u2.mv z3.mv).trans y2) y3
      have hval : RV G2 w' (lift h1) μ' (resVal rvs) (oneOf us) := by
        obtain ⟨l1, l2⟩ := y4
        match rvs, us, l1 with
        | [], [], _ => exact .tup [] #[] rfl (fun j x c h => by simp at h)
        | [x], [u], _ => exact l2 0 x u rfl rfl
        | x :: y :: xs, u :: z :: us, l1 => exact .tup _ _ (by simpa using l1) (fun j x c h1 h2 => l2 j x c h1 (by simpa using h2))
      rw [htd] at t1 t2 t4
      have hv := t4 0 v _ rfl (fun y hy => by simp at hy; subst hy; exact hval)
      exact ⟨w', oneOf us, ⟨G2, μ3, t1, t2, hv⟩, by rw [r2]; exact u1, rfl, rfl, rfl, fn, hf, results_ok y1⟩
    cases ex with
    | normal =>
      obtain rfl : m = _ := z2
      obtain ⟨w', r, f1, f2, f3⟩ := fin []
      exact ⟨_, w', _, ⟨r, rfl, f1⟩, Steps.trans z1 (.head (s_end rfl) f2), rfl, f3⟩
    | ret =>
      obtain ⟨k', rfl⟩ := z2
      obtain ⟨w', r, f1, f2, f3⟩ := fin (.code .ret :: k')
      exact ⟨_, w', _, ⟨r, rfl, f1⟩, Steps.trans z1 (.head (s_ret rfl) f2), rfl, f3⟩
    | exit id => exact (hne2 id rfl).elim
    | pnc x => exact (hne1 x rfl).elim
  · cases e
end
end AI
end

section
namespace AI
open Go

section
variable {M : Prims} {S : SFn} {t t' : List LV}

theorem evalO_congr {o : RO} (h : ∀ n ∈ o.reads, t.getD n .bad = t'.getD n .bad) : evalO M t o = evalO M t' o := by
  cases o with
  | t n => exact h n (by simp [RO.reads])
  | k v => rfl
  | g n => rfl
theorem sv_congr {o : RO} (h : ∀ n ∈ o.reads, t.getD n .bad = t'.getD n .bad) : sv M t o = sv M t' o := by unfold sv; rw [evalO_congr h]
theorem pvOf_congr {o : RO} (h : ∀ n ∈ o.reads, t.getD n .bad = t'.getD n .bad) : pvOf M t o = pvOf M t' o := by unfold pvOf; rw [sv_congr h]
theorem pvOf?_congr {o : Option RO} (h : ∀ n ∈ roReads? o, t.getD n .bad = t'.getD n .bad) : pvOf? M t o = pvOf? M t' o := by
  cases o with
  | none => rfl
  | some o => simp only [pvOf?]; rw [pvOf_congr h]
theorem buildParts_congr : ∀ {l : List (Nat × Nat × RO)} {cs : List LV}, (∀ n ∈ partReads l, t.getD n .bad = t'.getD n .bad) → buildParts M t cs l = buildParts M t' cs l
  | [], _, _ => rfl
  | (off, n, o) :: l, cs, h => by
    have h1 : sv M t o = sv M t' o := sv_congr (fun n hn => h n (by simp [partReads, hn]))
    have h2 : ∀ cs, buildParts M t cs l = buildParts M t' cs l := fun cs => buildParts_congr (fun n hn => h n (by simp [partReads, hn]))
    simp only [buildParts, h1, h2]
theorem rowParts_congr : ∀ {l : List RO} {sz : Nat} {hl : List Blk}, (∀ n ∈ rosReads l, t.getD n .bad = t'.getD n .bad) → rowParts M t sz hl l = rowParts M t' sz hl l
  | [], _, _, _ => rfl
  | o :: l, sz, hl, h => by
    have h1 : sv M t o = sv M t' o := sv_congr (fun n hn => h n (by simp [rosReads, hn]))
    have h2 : ∀ hl, rowParts M t sz hl l = rowParts M t' sz hl l := fun hl => rowParts_congr (fun n hn => h n (by simp [rosReads, hn]))
    simp only [rowParts, h1, h2]
theorem prep_congr : ∀ {l : List (AM × RO)} {hl : List Blk}, (∀ n ∈ argReads l, t.getD n .bad = t'.getD n .bad) → prep M t hl l = prep M t' hl l
  | [], _, _ => rfl
  | (m, o) :: l, hl, h => by
    have h1 : sv M t o = sv M t' o := sv_congr (fun n hn => h n (by simp [argReads, hn]))
    have h2 : ∀ hl, prep M t hl l = prep M t' hl l := fun hl => prep_congr (fun n hn => h n (by simp [argReads, hn]))
    simp only [prep, h1, h2]
theorem argIds_congr : ∀ {l : List (AM × RO)}, (∀ n ∈ argReads l, t.getD n .bad = t'.getD n .bad) → argIds M t l = argIds M t' l
  | [], _ => rfl
  | (m, o) :: l, h => by
    have h1 : sv M t o = sv M t' o := sv_congr (fun n hn => h n (by simp [argReads, hn]))
    have h2 : argIds M t l = argIds M t' l := argIds_congr (fun n hn => h n (by simp [argReads, hn]))
    simp only [argIds, h1, h2]
theorem svs_congr : ∀ {l : List RO}, (∀ n ∈ rosReads l, t.getD n .bad = t'.getD n .bad) → (l.map fun o => (sv M t o).1) = (l.map fun o => (sv M t' o).1) ∧ okAll M t l = okAll M t' l
  | [], _ => ⟨rfl, rfl⟩
  | o :: l, h => by
    have h1 : sv M t o = sv M t' o := sv_congr (fun n hn => h n (by simp [rosReads, hn]))
    obtain ⟨h2, h3⟩ := svs_congr (l := l) (fun n hn => h n (by simp [rosReads, hn]))
    exact ⟨by simp only [List.map_cons, h1, h2], by simp only [okAll, h1, h3]⟩

theorem callRun_congr {c : Callee} {a b : List LV} {hl : List Blk} {l : List (AM × RO)} (h : ∀ n ∈ argReads l, t.getD n .bad = t'.getD n .bad) : callRun M S c a b t hl l = callRun M S c a b t' hl l := by
  have h1 : prep M t hl l = prep M t' hl l := prep_congr h
  cases c <;> simp only [callRun, callFn, callYld, h1]

theorem opRun_congr {r : ROp} {hl : List Blk} (h : ∀ n ∈ r.reads, t.getD n .bad = t'.getD n .bad) : opRun M S r t hl = opRun M S r t' hl := by
  cases r with
  | alloc d ty z => rfl
  | build d z parts => simp only [opRun]; rw [buildParts_congr h]
  | mksl d sz parts => simp only [opRun]; rw [rowParts_congr h]
  | call d f args => simp only [opRun]; rw [callRun_congr h]
  | callv d f args =>
    have h1 : evalO M t f = evalO M t' f := evalO_congr (fun n hn => h n (by simp [ROp.reads, hn]))
    have h2 : ∀ c a b, callRun M S c a b t hl args = callRun M S c a b t' hl args := fun c a b => callRun_congr (fun n hn => h n (by simp [ROp.reads, hn]))
    simp only [opRun, h1, h2]
  | clo d f a b =>
    obtain ⟨h1, h2⟩ := svs_congr (M := M) (l := a) (fun n hn => h n (by simp [ROp.reads, hn]))
    obtain ⟨h3, h4⟩ := svs_congr (M := M) (l := b) (fun n hn => h n (by simp [ROp.reads, hn]))
    simp only [opRun, h1, h2, h3, h4]
  | pick d c a b =>
    have h1 : sv M t c = sv M t' c := sv_congr (fun n hn => h n (by simp [ROp.reads, hn]))
    have h2 : sv M t a = sv M t' a := sv_congr (fun n hn => h n (by simp [ROp.reads, hn]))
    have h3 : sv M t b = sv M t' b := sv_congr (fun n hn => h n (by simp [ROp.reads, hn]))
    simp only [opRun, h1, h2, h3]
  | sub d str sz x lo hi =>
    have h1 : sv M t x = sv M t' x := sv_congr (fun n hn => h n (by simp [ROp.reads, hn]))
    have h2 : pvOf? M t lo = pvOf? M t' lo := pvOf?_congr (fun n hn => h n (by simp [ROp.reads, hn]))
    have h3 : pvOf? M t hi = pvOf? M t' hi := pvOf?_congr (fun n hn => h n (by simp [ROp.reads, hn]))
    simp only [opRun, h1, h2, h3]
  | subF d sz x lo hi =>
    have h1 : sv M t x = sv M t' x := sv_congr (fun n hn => h n (by simp [ROp.reads, hn]))
    have h2 : pvOf? M t lo = pvOf? M t' lo := pvOf?_congr (fun n hn => h n (by simp [ROp.reads, hn]))
    have h3 : pvOf? M t hi = pvOf? M t' hi := pvOf?_congr (fun n hn => h n (by simp [ROp.reads, hn]))
    simp only [opRun, h1, h2, h3]
  | mov d x | box d n x | nilck d x | un d op x | conv d k x | fieldA d x f | part d ag n x off | s2ap d n x | len d str x | s2b d x | b2s d x | mkif d ty x | panic x | extract d x i | load d ag n x | mk d sz z x =>
    have h1 : sv M t x = sv M t' x := sv_congr h
    have h2 : pvOf M t x = pvOf M t' x := pvOf_congr h
    simp only [opRun, h1, h2]
  | store n x y | bin d c op x y | mm d b x y | idxA d sz x y | idxP d sz n x y | idx d x y | idxV d sz n x y | app d sz b ety str x y =>
    have h1 : sv M t x = sv M t' x := sv_congr (fun n hn => h n (by simp [ROp.reads, hn]))
    have h2 : sv M t y = sv M t' y := sv_congr (fun n hn => h n (by simp [ROp.reads, hn]))
    have h3 : pvOf M t x = pvOf M t' x := pvOf_congr (fun n hn => h n (by simp [ROp.reads, hn]))
    have h4 : pvOf M t y = pvOf M t' y := pvOf_congr (fun n hn => h n (by simp [ROp.reads, hn]))
    simp only [opRun, h1, h2, h3, h4]

theorem touch_congr {r : ROp} {hl : List Blk} (h : ∀ n ∈ r.reads, t.getD n .bad = t'.getD n .bad) : touch M r t hl = touch M r t' hl := by
  cases r with
  | call d f args => simp only [touch]; rw [argIds_congr h]
  | callv d f args =>
    have h1 : sv M t f = sv M t' f := sv_congr (fun n hn => h n (by simp [ROp.reads, hn]))
    have h2 : argIds M t args = argIds M t' args := argIds_congr (fun n hn => h n (by simp [ROp.reads, hn]))
    simp only [touch, h1, h2]
  | load d ag n x | len d str x | b2s d x =>
    have h1 : sv M t x = sv M t' x := sv_congr h
    simp only [touch, h1]
  | store n x y | idxA d sz x y | app d sz b ety str x y =>
    have h1 : sv M t x = sv M t' x := sv_congr (fun n hn => h n (by simp [ROp.reads, hn]))
    have h2 : sv M t y = sv M t' y := sv_congr (fun n hn => h n (by simp [ROp.reads, hn]))
    simp only [touch, h1, h2]
  | sub d str sz x lo hi =>
    have h1 : sv M t x = sv M t' x := sv_congr (fun n hn => h n (by simp [ROp.reads, hn]))
    simp only [touch, h1]
  | _ => rfl

theorem stepG_congr {g : GOp} {hl : List Blk} {k : List Bool} {s1 : St} (h : ∀ n ∈ g.reads, t.getD n .bad = t'.getD n .bad) (e : stepG M S g ⟨t, hl, k⟩ = some (.ok s1)) :
    ∃ x ks, s1 = ⟨put t g.op.dst x, s1.heap, ks ++ k⟩ ∧ stepG M S g ⟨t', hl, []⟩ = some (.ok ⟨put t' g.op.dst x, s1.heap, ks⟩) := by
  have hop : opRun M S g.op t' hl = opRun M S g.op t hl := (opRun_congr (fun n hn => h n (by simp [GOp.reads, hn]))).symm
  unfold stepG at e ⊢
  cases hg : g.g with
  | none =>
    simp only [hg] at e ⊢
    split at e <;> cases e
    rename_i r hr
    simp only [hop, hr]
    exact ⟨r.v, r.oks, rfl, by simp⟩
  | some p =>
    obtain ⟨gt, want⟩ := p
    simp only [hg] at e ⊢
    have hgt : t'.getD gt .bad = t.getD gt .bad := (h gt (by simp [GOp.reads, hg])).symm
    rw [hgt]
    split at e
    · cases e
    · rename_i b k0 hgo
      simp only [hgo, hop]
      split at e
      · rename_i hq
        simp only [hq, if_true]
        split at e <;> cases e
        · rename_i r hr
          simp only [hr]
          exact ⟨.opt b gt want r.v, k0 ++ impAll M b r.oks, by simp, by simp⟩
        · rename_i hne
          exact ⟨.opt b gt want .bad, k0 ++ [M.imp b false], by simp, by simp⟩
      · rename_i hq
        simp only [hq, if_false]
        split at e
        · rename_i hb
          simp only [hb, if_true]
          split at e <;> cases e
          rename_i r hr
          simp only [hr]
          exact ⟨r.v, k0 ++ r.oks, by simp, by simp⟩
        · rename_i hb
          cases e
          simp only [hb, if_false]
          exact ⟨.bad, k0, by simp, by simp⟩
end
end AI
end

section
namespace AI
open Go

section
variable {glob : Nat → Row} {S : SFn} {t : List LV} {hl : List Blk} {res : OpR}

def Keeps (hl hl' : List Blk) (wr : List Nat) : Prop := hl.length ≤ hl'.length ∧ ∀ id, id ∉ wr → id < hl.length → hl'[id]? = hl[id]?

theorem keeps_refl (hl : List Blk) (wr : List Nat) : Keeps hl hl wr := ⟨Nat.le_refl _, fun _ _ _ => rfl⟩
theorem keeps_app (hl : List Blk) (b : Blk) (wr : List Nat) : Keeps hl (hl ++ [b]) wr := ⟨by simp, fun _ _ h => List.getElem?_append_left h⟩
theorem keeps_set (hl : List Blk) (i : Nat) (b : Blk) {wr : List Nat} (hi : i ∈ wr) : Keeps hl (hl.set i b) wr :=
  ⟨by simp, fun id hni _ => by
    have hne : ¬ i = id := fun e => hni (e ▸ hi)
    rw [List.getElem?_set, if_neg hne]⟩

theorem prep_abs : ∀ {as : List (AM × RO)} {r : ArgR} {rd wr : List Nat}, argIds (prims glob) t as = some (rd, wr) → prep (prims glob) t hl as = some r → r.heap = hl ∧ idsOfs r.args = wr
  | [], r, rd, wr, hw, e => by
    simp [prep] at e; subst e
    simp [argIds] at hw
    exact ⟨rfl, by simp [idsOfs, hw.2]⟩
  | (m, y) :: as, r, rd, wr, hw, e => by
    simp only [argIds] at hw
    split at hw <;> try cases hw
    rename_i rd' wr' hw'
    simp only [prep] at e
    split at e <;> try cases e
    rename_i x h1 k1 ha
    split at e <;> cases e
    rename_i r' hrec
    cases m with
    | own =>
      simp only [argOf] at ha; cases ha
      simp at hw; obtain ⟨rfl, rfl⟩ := hw
      obtain ⟨q1, q2⟩ := prep_abs hw' hrec
      exact ⟨q1, by simp [idsOfs, q2]⟩
    | frz =>
      simp only [argOf] at ha
      split at ha <;> cases ha
      rename_i p0 hf
      simp only at hw
      split at hw <;> cases hw
      rename_i hids
      rw [(freeze_noids (hl := hl) depth hf hids).1] at hrec
      obtain ⟨q1, q2⟩ := prep_abs hw' hrec
      exact ⟨q1, by simp [idsOfs, idsOf, q2]⟩
    | frzR n =>
      simp only [argOf] at ha
      split at ha <;> try cases ha
      rename_i hrow
      split at ha <;> cases ha
      rename_i row hf
      simp only at hw
      split at hw <;> cases hw
      rename_i hids
      have hh : h1 = hl := by
        unfold freezeRow at hf
        split at hf
        · cases hf; rfl
        · rename_i hnp
          split at hf <;> try cases hf
          rename_i l hl0
          split at hf <;> cases hf
          rename_i hf
          cases hx : (sv (prims glob) t y).1 <;> rw [hx] at hrow hids hl0 hnp <;> simp [isRow] at hrow
          · exact absurd rfl (hnp _)
          rename_i l'
          simp only [cellsOf] at hl0
          split at hl0 <;> cases hl0
          exact (freezeAll_noids depth hf (by simpa [idsOf] using hids)).1
      rw [hh] at hrec
      obtain ⟨q1, q2⟩ := prep_abs hw' hrec
      exact ⟨q1, by simp [idsOfs, idsOf, q2]⟩
    | lendP =>
      simp only [argOf] at ha
      split at ha <;> cases ha
      simp at hw; obtain ⟨rfl, rfl⟩ := hw
      obtain ⟨q1, q2⟩ := prep_abs hw' hrec
      exact ⟨q1, by simp [idsOfs, idsOf, q2]⟩
    | lend => simp [argOf] at ha
    | lendR n => simp [argOf] at ha

theorem behind_abs {ar : ArgR} {R : List Nat} {x : Option (Out × List Blk)} (hr : behind (prims glob) ar R x = some (.ok res)) (hR : ∀ i ∈ R, i < ar.heap.length) : Keeps ar.heap res.heap R := by
  obtain ⟨v, h2, -, h | h⟩ := behind_inv hr
  · obtain ⟨-, -, -, k, -, rfl⟩ := h; exact keeps_refl _ _
  · obtain ⟨-, hle, rfl⟩ := h
    have := eff_back (h := lift ar.heap) hR hle
    exact ⟨this.len, this.same⟩

theorem callFn_abs {f : Nat} {first caps : List LV} {args : List (AM × RO)} {rd wr : List Nat} (ht : argIds (prims glob) t args = some (rd, wr)) (hr : callFn (prims glob) S f first caps t hl args = some (.ok res)) :
    Keeps hl res.heap (reachable hl (idsOfs first ++ wr ++ idsOfs caps)) := by
  have hr0 := hr
  unfold callFn at hr
  split at hr
  · cases hr
  rename_i ar hp
  have hlt := reach_lt hp hr0
  obtain ⟨q1, q2⟩ := prep_abs ht hp
  simp only [handOver] at hr
  by_cases hall : ((reachable ar.heap (idsOfs (first ++ ar.args ++ caps))).all fun i => i.blt ar.heap.length) = true
  case neg => simp only [hall, if_false, Bool.false_eq_true, reduceCtorEq] at hr
  simp only [hall, if_true] at hr
  have := behind_abs hr hlt
  rw [q1, idsOfs_append, idsOfs_append, q2] at this
  exact this
theorem callYld_abs {i0 : Nat} {args : List (AM × RO)} {rd wr : List Nat} (ht : argIds (prims glob) t args = some (rd, wr)) (hr : callYld (prims glob) S i0 t hl args = some (.ok res)) :
    Keeps hl res.heap (reachable hl (i0 :: wr)) := by
  have hr0 := hr
  unfold callYld at hr
  split at hr
  · cases hr
  rename_i ar hp
  have hlt := reach_ltY hp hr0
  obtain ⟨q1, q2⟩ := prep_abs ht hp
  simp only [handOver] at hr
  by_cases hall : ((reachable ar.heap (idsOfs (.yld i0 :: ar.args))).all fun i => i.blt ar.heap.length) = true
  case neg => simp only [hall, if_false, Bool.false_eq_true, reduceCtorEq] at hr
  simp only [hall, if_true] at hr
  split at hr <;> try cases hr
  have := behind_abs hr hlt
  rw [q1, show idsOfs (.yld i0 :: ar.args) = i0 :: wr by simp [idsOfs, idsOf, q2]] at this
  exact this

theorem op_abs {r : ROp} {rd wr : List Nat} (ht : touch (prims glob) r t hl = some (rd, wr)) (hr : opRun (prims glob) S r t hl = some (.ok res)) : Keeps hl res.heap wr := by
  by_cases hq : r.quiet = true
  · rw [quiet_heap hq hr]; exact keeps_refl _ _
  cases r <;> simp [ROp.quiet] at hq
  case alloc => simp only [opRun] at hr; cases hr; exact keeps_app _ _ _
  case box => simp only [opRun] at hr; split at hr <;> cases hr; exact keeps_app _ _ _
  case build => simp only [opRun] at hr; split at hr <;> cases hr; exact keeps_refl _ _
  case mksl => simp [touch] at ht
  case store n b x =>
    simp only [touch] at ht
    split at ht <;> cases ht
    rename_i id off hs
    simp only [opRun] at hr
    have hs' : sv (prims glob) t b = (.ptr id off, (sv (prims glob) t b).2) := by rw [← hs]
    rw [hs'] at hr
    simp only at hr
    split at hr <;> try cases hr
    split at hr <;> try cases hr
    split at hr <;> cases hr
    exact keeps_set _ _ _ (by simp)
  case idxP => simp only [opRun] at hr; (repeat' split at hr) <;> cases hr <;> exact keeps_refl _ _
  case s2ap => simp [touch] at ht
  case sub =>
    simp only [opRun] at hr
    split at hr
    · cases hr; exact keeps_refl _ _
    · rename_i id ver k pl k1 ph k2 hs h1 h2
      simp only [touch, hs] at ht
      split at ht
      · simp only [pvOf?] at h1 h2
        cases h1; cases h2
        split at hr <;> cases hr
        exact keeps_refl _ _
      · cases ht
      · rename_i h3 h4; first | exact absurd rfl (h4 _ _) | exact absurd rfl (h3 _ _)
    · cases hr
  case subF => simp only [opRun] at hr; (repeat' split at hr) <;> cases hr <;> exact keeps_refl _ _
  case app d sz b str s x =>
    simp only [touch, Option.some.injEq, Prod.mk.injEq] at ht
    obtain ⟨-, rfl⟩ := ht
    simp only [opRun] at hr
    split at hr
    · cases hr; exact keeps_app _ _ _
    · cases hr; exact keeps_app _ _ _
    · rename_i hs
      split at hr <;> try cases hr
      split at hr <;> cases hr
      rw [hs]
      exact keeps_set _ _ _ (by simp [rowIds])
    · cases hr
  case mk => simp only [opRun] at hr; split at hr <;> cases hr; exact keeps_app _ _ _
  case s2b => simp only [opRun] at hr; split at hr <;> cases hr; exact keeps_app _ _ _
  case b2s => simp only [opRun] at hr; (repeat' split at hr) <;> cases hr <;> exact keeps_refl _ _
  case mm => simp only [opRun] at hr; (repeat' split at hr) <;> cases hr <;> exact keeps_refl _ _
  case mkif => simp only [opRun] at hr; (repeat' split at hr) <;> cases hr <;> exact keeps_refl _ _
  case panic => simp [touch] at ht
  case clo => simp only [opRun] at hr; cases hr; exact keeps_refl _ _
  case call d f args =>
    simp only [touch] at ht
    split at ht <;> cases ht
    rename_i w hai
    simp only [opRun, callRun] at hr
    have := callFn_abs hai hr
    simpa [idsOfs] using this
  case callv d f args =>
    simp only [opRun] at hr
    split at hr
    · rename_i f' fa fb he
      simp only [callRun] at hr
      have hsv : (sv (prims glob) t f).1 = .clo f' fa fb := by simp [sv, he, strip]
      simp only [touch, hsv] at ht
      cases hai : argIds (prims glob) t args with
      | none => simp [hai] at ht
      | some p =>
        obtain ⟨rd0, wr0⟩ := p
        simp only [hai, Option.some.injEq, Prod.mk.injEq] at ht
        obtain ⟨rfl, rfl⟩ := ht
        exact callFn_abs hai hr
    · rename_i i0 he
      simp only [callRun] at hr
      have hsv : (sv (prims glob) t f).1 = .yld i0 := by simp [sv, he, strip]
      simp only [touch, hsv] at ht
      cases hai : argIds (prims glob) t args with
      | none => simp [hai] at ht
      | some p =>
        obtain ⟨rd0, wr0⟩ := p
        simp only [hai, Option.some.injEq, Prod.mk.injEq] at ht
        obtain ⟨rfl, rfl⟩ := ht
        exact callYld_abs hai hr
    · cases hr

theorem stepG_abs {g : GOp} {s s' : St} {rd wr : List Nat} (ht : touch (prims glob) g.op s.tmps s.heap = some (rd, wr)) (hr : stepG (prims glob) S g s = some (.ok s')) : Keeps s.heap s'.heap wr := by
  unfold stepG at hr
  split at hr
  · split at hr <;> cases hr
    rename_i r hrun
    exact op_abs ht hrun
  · split at hr
    · cases hr
    · split at hr
      · split at hr <;> cases hr
        · rename_i r hrun; exact op_abs ht hrun
        · exact keeps_refl _ _
      · split at hr
        · split at hr <;> cases hr
          rename_i r hrun
          exact op_abs ht hrun
        · cases hr; exact keeps_refl _ _
end

/-! ### The last that wrote -/
def last {α : Type} (D W : Nat → Bool) (v : Nat → α) : Nat → α
  | 0 => v 0
  | k + 1 => if D k && W k then v (k + 1) else last D W v k

theorem last_eq {α : Type} {D W : Nat → Bool} {v : Nat → α} {N j : Nat} (hj : j ≤ N) (h1 : ∀ i, i < N → W i = true → (D i = true ↔ i < j)) (h2 : ∀ i, i < N → W i = false → v (i + 1) = v i) : last D W v N = v j := by
  induction N with
  | zero =>
    have : j = 0 := by omega
    subst this; rfl
  | succ k ih =>
    rw [last]
    by_cases hjk : j = k + 1
    · subst hjk
      have hk : last D W v k = v k := by
        have : ∀ m, m ≤ k → last D W v m = v m := by
          intro m
          induction m with
          | zero => intro _; rfl
          | succ m ihm =>
            intro hm
            rw [last]
            cases hw : W m with
            | true => rw [(h1 m (by omega) hw).2 (by omega)]; simp
            | false => simp; rw [ihm (by omega), h2 m (by omega) hw]
        exact this k (Nat.le_refl _)
      cases hw : W k with
      | true => rw [(h1 k (by omega) hw).2 (by omega)]; simp
      | false => simp; rw [hk, h2 k (by omega) hw]
    · have ih' := ih (by omega) (fun i hi => h1 i (by omega)) (fun i hi => h2 i (by omega))
      cases hw : W k with
      | true =>
        have : D k = false := by
          rw [Bool.eq_false_iff]; intro e; have := (h1 k (by omega) hw).1 e; omega
        rw [this]; simpa using ih'
      | false => simpa using ih'

theorem last_congr {α : Type} {D D' W : Nat → Bool} {v : Nat → α} {N : Nat} (h : ∀ i, i < N → W i = true → D i = D' i) : last D W v N = last D' W v N := by
  induction N with
  | zero => rfl
  | succ k ih =>
    rw [last, last, ih (fun i hi => h i (by omega))]
    cases hw : W k with
    | true => rw [h k (by omega) hw]
    | false => simp
end AI
end
