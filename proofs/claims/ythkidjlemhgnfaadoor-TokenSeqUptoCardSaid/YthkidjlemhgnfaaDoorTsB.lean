/-
  THE OPERATIONS, 2: moves, sums and comparisons, texts, closures: what only reckons.
  THE OPERATIONS, 3: addresses, rows, loads: what only reads.
  THE OPERATIONS, 4: parts, loads, elements, lengths.
  THE OPERATIONS, 5: elements of texts and arrays, cuts, closures, nil.
  THE OPERATIONS, 6: rows that are built, texts from bytes, closures, nil.
-/
import Derived.Test.YthkidjlemhgnfaaDoorTsA
import Derived.Laws.Strings
import Derived.Laws.BytesArg
import Derived.Laws.Tables
set_option linter.unusedVariables false
set_option linter.unusedSimpArgs false
set_option linter.unusedSectionVars false
section
namespace AI
open Go

def Val (P : Program) (G : Ghost) (w : World) (h : HF) (μ : Loc) (a : Array Value) (o : Oper) (x : LV) : Prop :=
  ∃ v, (execOp (ev a) o).run P w = .ok (.value v) w ∧ RV G w h μ x v

section
variable {P : Program} {glob : Nat → Row} {G : Ghost} {w : World} {h : HF} {μ : Loc} {t : List LV} {a : Array Value} {o : Oper}

theorem o_move (r : TR G w h μ t a) (hg : GlobRel G w glob) {x : Operand} {y : RO} (hop : o.op = .move x ∨ o.op = .assign x) (e : ckRO x y = true)
    (hk : (sv (prims glob) t y).2.all id = true) : Val P G w h μ a o (sv (prims glob) t y).1 := by
  refine ⟨ev a x, ?_, sv_rv r hg e hk⟩
  rcases hop with hop | hop <;> simp [execOp, hop]

theorem o_un (r : TR G w h μ t a) (hg : GlobRel G w glob) {op : UnOp} {ty : TypeId} {x : Operand} {y : RO} (hop : o.op = .unOp op ty x) (e : ckRO x y = true)
    {p : PV} {k : List Bool} (hs : sv (prims glob) t y = (.pv p, k)) (hk : k.all id = true) (ho : pUnOk op p = true) : Val P G w h μ a o (.pv (pUn op p)) := by
  have hx := (sv_rv' r hg e hs hk).pv_inv
  unfold pUnOk at ho
  split at ho
  · refine ⟨_, ?_, .pv _ _ (.int _ _)⟩
    simp [execOp, hop, hx.int_inv, Op.unary, Op.intArith]
  · refine ⟨_, ?_, .pv _ _ (.int _ _)⟩
    simp [execOp, hop, hx.int_inv, Op.unary, Op.intBits]
  · refine ⟨_, ?_, .pv _ _ (.bool _)⟩
    simp [execOp, hop, hx.bool_inv, Op.unary]
  · cases ho

theorem o_conv (r : TR G w h μ t a) (hg : GlobRel G w glob) {s d : TypeId} {c : IntKind} {x : Operand} {y : RO} (hop : o.op = .convert s d x) (e : ckRO x y = true)
    (hs1 : isInt P s = true) (hd : isKind P d c = true)
    {p : PV} {k : List Bool} (hs : sv (prims glob) t y = (.pv p, k)) (hk : k.all id = true) (ho : (prims glob).convOk c p = true) : Val P G w h μ a o (.pv ((prims glob).conv c p)) := by
  have hx := (sv_rv' r hg e hs hk).pv_inv
  cases p <;> simp [prims] at ho
  rename_i kk n
  have e1 := hx.int_inv
  unfold isInt at hs1
  unfold isKind at hd
  cases hu : P.underlying s with
  | none => simp [hu] at hs1
  | some ds =>
    cases hv : P.underlying d with
    | none => simp [hv] at hd
    | some dd =>
      rw [hv] at hd
      cases dd <;> simp at hd
      subst hd
      refine ⟨.int c (c.wrap n), ?_, .pv _ _ (.int _ _)⟩
      simp [execOp, hop, e1, convert, r_underlying w hu, r_underlying w hv, Conv.intToInt]

theorem bytesLt_eq : ∀ (a b : List UInt8), Op.bytesLess a b = bytesLt a b
  | _, [] => by cases ‹List UInt8› <;> rfl
  | [], _ :: _ => rfl
  | a :: x, b :: y => by simp only [Op.bytesLess, bytesLt, bytesLt_eq x y]

theorem bstr_toList (s : List UInt8) : (bstr s).toList = s := by
  rw [ByteArray.toList_eq]; rfl
theorem bstr_size (s : List UInt8) : (bstr s).size = s.length := by show s.toArray.size = _; simp
theorem bstr_append (s u : List UInt8) : bstr s ++ bstr u = bstr (s ++ u) := by
  apply ByteArray.ext
  simp [bstr]

theorem guard_none {op : BinOp} {ty : TypeId} {x y : Operand} {u v : Value} (h1 : ¬ (u = .nilIface ∧ v = .nilIface)) (h2 : ∀ c d, ¬ (u = .agg c ∧ v = .agg d)) : (eqGuard op ty x y u v).run P w = .ok () w := by
  unfold eqGuard
  cases op <;> first
    | rfl
    | (simp only [Bool.not_true, Bool.false_eq_true, if_false]
       split
       · exact absurd ⟨rfl, rfl⟩ h1
       · exact absurd ⟨rfl, rfl⟩ (h2 _ _)
       · rfl)

theorem r_binInt (op : BinOp) (ty : TypeId) (k k' : IntKind) (x y : Int) (hk : (if shiftOp op then decide (0 ≤ y) else (k == k' && (match op with | .quo | .rem => y != 0 | _ => true))) = true) :
    ∃ v, (binOp op ty (.int k x) (.int k' y)).run P w = .ok v w ∧ RP G w (intBin op k x y) v := by
  cases op <;> simp [shiftOp] at hk <;> simp [binOp, intBin, Op.shift, Op.intArith, Op.intDiv, Op.intBits, Op.intCmp, hk] <;> first | exact .int _ _ | exact .bool _ | skip
  all_goals (have hy : ¬ y < 0 := by omega)
  all_goals (simp [hy]; exact .int _ _)

theorem r_binStr (op : BinOp) (ty : TypeId) (x y : List UInt8) (hk : (match op with | .add => decide (x.length + y.length ≤ maxStr) | .eql | .neq | .lss | .leq | .gtr | .geq => true | _ => false) = true) :
    ∃ v, (binOp op ty (.string (bstr x)) (.string (bstr y))).run P w = .ok v w ∧ RP G w (pBin op (.str x) (.str y)) v := by
  have hb : ∀ u v : List UInt8, ((bstr u).toList == (bstr v).toList) = (u == v) := fun u v => by rw [bstr_toList, bstr_toList]
  cases op <;> simp at hk <;> simp only [binOp, Op.stringOp, pBin, bstr_toList, bytesLt_eq]
  · have : ¬ (((bstr x).size + (bstr y).size : Nat) : Int) > IntKind.i64.max := by
      rw [bstr_size, bstr_size]; unfold maxStr at hk; simp [IntKind.max, IntKind.signed, IntKind.bits]; omega
    rw [if_neg this, bstr_append]
    exact ⟨_, rfl, .str _⟩
  all_goals exact ⟨_, rfl, .bool _⟩

theorem r_eq {ty : TypeId} {op : BinOp} {u v : Value} {b : Bool} (hop : op = .eql ∨ op = .neq)
    (hne : (∀ k x k' y, ¬ (u = .int k x ∧ v = .int k' y)) ∧ (∀ k x k' y, ¬ (u = .float k x ∧ v = .float k' y)) ∧ (∀ k x z k' y q, ¬ (u = .complex k x z ∧ v = .complex k' y q)) ∧ (∀ x y, ¬ (u = .string x ∧ v = .string y)))
    (he : (Op.equal ty u v).run P w = .ok b w) : (binOp op ty u v).run P w = .ok (.bool (if op = .eql then b else !b)) w := by
  obtain ⟨n1, n2, n3, n4⟩ := hne
  rcases hop with rfl | rfl
  · unfold binOp
    split <;> first | (exact absurd ⟨rfl, rfl⟩ (n1 _ _ _ _)) | (exact absurd ⟨rfl, rfl⟩ (n2 _ _ _ _)) | (exact absurd ⟨rfl, rfl⟩ (n3 _ _ _ _ _ _)) | (exact absurd ⟨rfl, rfl⟩ (n4 _ _)) | (simp_all; done) | simp [he]
  · unfold binOp
    split <;> first | (exact absurd ⟨rfl, rfl⟩ (n1 _ _ _ _)) | (exact absurd ⟨rfl, rfl⟩ (n2 _ _ _ _)) | (exact absurd ⟨rfl, rfl⟩ (n3 _ _ _ _ _ _)) | (exact absurd ⟨rfl, rfl⟩ (n4 _ _)) | (simp_all; done) | simp [he]

theorem tcls_spec {ty : TypeId} {c : Nat} (h : tcls P ty = c) (hc : c < 5) : ∃ d, P.underlying ty = some d ∧ (c = 1 → d = .bool) ∧ (c = 2 → ∃ e, d = .pointer e) ∧ (c = 3 → ∃ ms, d = .interface ms) ∧ (c = 4 → ∃ x y z, d = .func x y z) := by
  unfold tcls at h
  cases hu : P.underlying ty with
  | none => simp [hu] at h; omega
  | some d =>
    refine ⟨d, rfl, ?_⟩
    rw [hu] at h
    cases d <;> simp at h <;> (try omega) <;> subst h <;> simp

theorem equal_depth (ty : TypeId) (u v : Value) : ∃ d, Op.equal ty u v = Op.equalIn (d + 1) ty u v := ⟨9999, rfl⟩
theorem r_equalBool {ty : TypeId} (hu : P.underlying ty = some .bool) (a b : Bool) : (Op.equal ty (.bool a) (.bool b)).run P w = .ok (a == b) w := by
  obtain ⟨d, e⟩ := equal_depth ty _ _
  rw [e]
  simp only [Op.equalIn, Sem.run_bind, r_underlying w hu, Result.andThen_ok]; rfl
theorem r_equalPtrL {ty e : TypeId} (hu : P.underlying ty = some (.pointer e)) (b : Option Addr) : (Op.equal ty (.pointer none) (.pointer b)).run P w = .ok b.isNone w := by
  obtain ⟨d, e⟩ := equal_depth ty _ _
  rw [e]
  simp only [Op.equalIn, Sem.run_bind, r_underlying w hu, Result.andThen_ok]; rfl
theorem r_equalPtrR {ty e : TypeId} (hu : P.underlying ty = some (.pointer e)) (b : Addr) : (Op.equal ty (.pointer (some b)) (.pointer none)).run P w = .ok false w := by
  obtain ⟨d, e⟩ := equal_depth ty _ _
  rw [e]
  simp only [Op.equalIn, Sem.run_bind, r_underlying w hu, Result.andThen_ok]; rfl
theorem r_equalIf0 {ty : TypeId} {ms} (hu : P.underlying ty = some (.interface ms)) : (Op.equal ty .nilIface .nilIface).run P w = .ok true w := by
  obtain ⟨d, e⟩ := equal_depth ty _ _
  rw [e]
  simp only [Op.equalIn, Sem.run_bind, r_underlying w hu, Result.andThen_ok]; rfl
theorem r_equalIf1 {ty : TypeId} {ms} (hu : P.underlying ty = some (.interface ms)) (t' : TypeId) (v : Value) : (Op.equal ty (.iface t' v) .nilIface).run P w = .ok false w := by
  obtain ⟨d, e⟩ := equal_depth ty _ _
  rw [e]
  simp only [Op.equalIn, Sem.run_bind, r_underlying w hu, Result.andThen_ok]; rfl
theorem r_equalIf2 {ty : TypeId} {ms} (hu : P.underlying ty = some (.interface ms)) (t' : TypeId) (v : Value) : (Op.equal ty .nilIface (.iface t' v)).run P w = .ok false w := by
  obtain ⟨d, e⟩ := equal_depth ty _ _
  rw [e]
  simp only [Op.equalIn, Sem.run_bind, r_underlying w hu, Result.andThen_ok]; rfl
theorem r_equalFn0 {ty : TypeId} {x y z} (hu : P.underlying ty = some (.func x y z)) : (Op.equal ty .nilFunc .nilFunc).run P w = .ok true w := by
  obtain ⟨d, e⟩ := equal_depth ty _ _
  rw [e]
  simp only [Op.equalIn, Sem.run_bind, r_underlying w hu, Result.andThen_ok]; rfl
theorem r_equalFn1 {ty : TypeId} {x y z} (hu : P.underlying ty = some (.func x y z)) (f : Fn) (p q : Array Value) : (Op.equal ty (.func f p q) .nilFunc).run P w = .ok false w := by
  obtain ⟨d, e⟩ := equal_depth ty _ _
  rw [e]
  simp only [Op.equalIn, Sem.run_bind, r_underlying w hu, Result.andThen_ok]; rfl
theorem r_equalFn2 {ty : TypeId} {x y z} (hu : P.underlying ty = some (.func x y z)) (f : Fn) (p q : Array Value) : (Op.equal ty .nilFunc (.func f p q)).run P w = .ok false w := by
  obtain ⟨d, e⟩ := equal_depth ty _ _
  rw [e]
  simp only [Op.equalIn, Sem.run_bind, r_underlying w hu, Result.andThen_ok]; rfl

theorem guard_const {op : BinOp} {ty : TypeId} {x y : Operand} (hc : (Region.isConst x || Region.isConst y) = true) : (eqGuard op ty x y .nilIface .nilIface).run P w = .ok () w := by
  unfold eqGuard
  cases x <;> cases y <;> simp [Region.isConst] at hc <;> cases op <;> rfl

/-- A comparison that Op.equal tells. -/
theorem v_eq {op : BinOp} {ty : TypeId} {x y : Operand} {yt : TypeId} (hop : o.op = .binOp op ty x y yt) {u v : Value} (hu : ev a x = u) (hv : ev a y = v) {b : Bool} (hopk : op = .eql ∨ op = .neq)
    (hg : (eqGuard op ty x y u v).run P w = .ok () w)
    (hne : (∀ k x k' y, ¬ (u = .int k x ∧ v = .int k' y)) ∧ (∀ k x k' y, ¬ (u = .float k x ∧ v = .float k' y)) ∧ (∀ k x z k' y q, ¬ (u = .complex k x z ∧ v = .complex k' y q)) ∧ (∀ x y, ¬ (u = .string x ∧ v = .string y)))
    (he : (Op.equal ty u v).run P w = .ok b w) : (execOp (ev a) o).run P w = .ok (.value (.bool (if op = .eql then b else !b))) w := by
  have h1 := r_eq (P := P) (w := w) (ty := ty) hopk hne he
  simp only [execOp, hop, hu, hv, Sem.run_bind, hg, Result.andThen_ok, h1, Sem.run_pure]

theorem eqneq {op : BinOp} (h : (match op with | .eql | .neq => true | _ => false) = true) : op = .eql ∨ op = .neq := by cases op <;> simp at h <;> simp

theorem o_bin (r : TR G w h μ t a) (hg : GlobRel G w glob) {op : BinOp} {ty yt : TypeId} {x y : Operand} {x' y' : RO} {cls : Nat} (hop : o.op = .binOp op ty x y yt)
    (e1 : ckRO x x' = true) (e2 : ckRO y y' = true) (e3 : ckEq P op ty x y = true) (e4 : tcls P ty = cls)
    {p q : PV} {k1 k2 : List Bool} (hs1 : sv (prims glob) t x' = (.pv p, k1)) (hs2 : sv (prims glob) t y' = (.pv q, k2)) (hk1 : k1.all id = true) (hk2 : k2.all id = true)
    (ho : pBinOk cls op p q = true) : Val P G w h μ a o (.pv (pBin op p q)) := by
  have hx := (sv_rv' r hg e1 hs1 hk1).pv_inv
  have hy := (sv_rv' r hg e2 hs2 hk2).pv_inv
  have hconst : ∀ ms, P.underlying ty = some (.interface ms) → (Region.isConst x || Region.isConst y) = true := by
    intro ms hu
    unfold ckEq at e3; rw [hu] at e3; simp only [Bool.and_eq_true] at e3; exact e3.2
  unfold pBinOk at ho
  split at ho
  · simp only [Bool.and_eq_true] at ho
    obtain ⟨v, h1, h2⟩ := r_binInt (P := P) (w := w) (G := G) op ty _ _ _ _ ho.2
    refine ⟨v, ?_, .pv _ _ (by simpa [pBin] using h2)⟩
    have hx := hx.int_inv; have hy := hy.int_inv
    simp only [execOp, hop, hx, hy, Sem.run_bind, guard_none (P := P) (w := w) (op := op) (ty := ty) (x := x) (y := y) (u := .int _ _) (v := .int _ _) (by simp) (by simp), Result.andThen_ok, h1, Sem.run_pure]
  · simp only [Bool.and_eq_true] at ho
    obtain ⟨v, h1, h2⟩ := r_binStr (P := P) (w := w) (G := G) op ty _ _ ho.2
    refine ⟨v, ?_, .pv _ _ h2⟩
    have hx := hx.str_inv; have hy := hy.str_inv
    simp only [execOp, hop, hx, hy, Sem.run_bind, guard_none (P := P) (w := w) (op := op) (ty := ty) (x := x) (y := y) (u := .string _) (v := .string _) (by simp) (by simp), Result.andThen_ok, h1, Sem.run_pure]
  · simp only [Bool.and_eq_true, beq_iff_eq] at ho
    obtain ⟨rfl, hq⟩ := ho
    obtain ⟨d, hu, hd, -⟩ := tcls_spec e4 (by omega)
    obtain rfl := hd rfl
    have hoq := eqneq hq
    refine ⟨_, v_eq hop hx.bool_inv hy.bool_inv hoq (guard_none (by simp) (by simp)) (by simp) (r_equalBool hu _ _), .pv _ _ ?_⟩
    rcases hoq with rfl | rfl <;> exact .bool _
  · simp only [Bool.and_eq_true, beq_iff_eq] at ho
    obtain ⟨rfl, hq⟩ := ho
    obtain ⟨d, hu, -, hd, -⟩ := tcls_spec e4 (by omega)
    obtain ⟨e, rfl⟩ := hd rfl
    have hoq := eqneq hq
    have hx := hx.nilp_inv
    have hy := hy.nilp_inv
    refine ⟨_, v_eq hop hx hy hoq (guard_none (by simp) (by simp)) (by simp) (r_equalPtrL hu _), .pv _ _ ?_⟩
    rcases hoq with rfl | rfl <;> exact .bool _
  · simp only [Bool.and_eq_true, beq_iff_eq] at ho
    obtain ⟨rfl, hq⟩ := ho
    obtain ⟨d, hu, -, hd, -⟩ := tcls_spec e4 (by omega)
    obtain ⟨e, rfl⟩ := hd rfl
    have hoq := eqneq hq
    obtain ⟨ad, hx⟩ := hx.ptr_inv
    have hy := hy.nilp_inv
    refine ⟨_, v_eq hop hx hy hoq (guard_none (by simp) (by simp)) (by simp) (r_equalPtrR hu _), .pv _ _ ?_⟩
    rcases hoq with rfl | rfl <;> exact .bool _
  · simp only [Bool.and_eq_true, beq_iff_eq] at ho
    obtain ⟨rfl, hq⟩ := ho
    obtain ⟨d, hu, -, hd, -⟩ := tcls_spec e4 (by omega)
    obtain ⟨e, rfl⟩ := hd rfl
    have hoq := eqneq hq
    have hx := hx.nilp_inv
    obtain ⟨ad, hy⟩ := hy.ptr_inv
    refine ⟨_, v_eq hop hx hy hoq (guard_none (by simp) (by simp)) (by simp) (r_equalPtrL hu _), .pv _ _ ?_⟩
    rcases hoq with rfl | rfl <;> exact .bool _
  · simp only [Bool.and_eq_true, beq_iff_eq] at ho
    obtain ⟨rfl, hq⟩ := ho
    obtain ⟨d, hu, -, -, hd, -⟩ := tcls_spec e4 (by omega)
    obtain ⟨ms, rfl⟩ := hd rfl
    have hoq := eqneq hq
    have hx := hx.nili_inv
    have hy := hy.nili_inv
    refine ⟨_, v_eq hop hx hy hoq (guard_const (hconst _ hu)) (by simp) (r_equalIf0 hu), .pv _ _ ?_⟩
    rcases hoq with rfl | rfl <;> exact .bool _
  all_goals first
    | (simp only [Bool.and_eq_true, beq_iff_eq] at ho
       obtain ⟨rfl, hq⟩ := ho
       obtain ⟨d, hu, -, -, hd, -⟩ := tcls_spec e4 (by omega)
       obtain ⟨ms, rfl⟩ := hd rfl
       have hoq := eqneq hq
       obtain ⟨t1, v1, hx⟩ : ∃ t1 v1, ev a x = .iface t1 v1 := by first | exact hx.iface_inv | exact hx.ifaceR_inv
       have hy := hy.nili_inv
       refine ⟨_, v_eq hop hx hy hoq (guard_none (by simp) (by simp)) (by simp) (r_equalIf1 hu _ _), .pv _ _ ?_⟩
       rcases hoq with rfl | rfl <;> exact .bool _)
    | (simp only [Bool.and_eq_true, beq_iff_eq] at ho
       obtain ⟨rfl, hq⟩ := ho
       obtain ⟨d, hu, -, -, hd, -⟩ := tcls_spec e4 (by omega)
       obtain ⟨ms, rfl⟩ := hd rfl
       have hoq := eqneq hq
       obtain ⟨t1, v1, hy⟩ : ∃ t1 v1, ev a y = .iface t1 v1 := by first | exact hy.iface_inv | exact hy.ifaceR_inv
       have hx := hx.nili_inv
       refine ⟨_, v_eq hop hx hy hoq (guard_none (by simp) (by simp)) (by simp) (r_equalIf2 hu _ _), .pv _ _ ?_⟩
       rcases hoq with rfl | rfl <;> exact .bool _)
    | cases ho
end
end AI
end

section
namespace AI
open Go

structure Ctx (P : Program) (glob : Nat → Row) (G : Ghost) (w : World) (h : HF) (μ : Loc) (t : List LV) (a : Array Value) : Prop where
  tr : TR G w h μ t a
  gr : GlobRel G w glob
  hr : HRel P G w h μ

abbrev SFn := Callee → List LV → List Blk → Option (Out × List Blk)

theorem mmOk_inv {glob : Nat → Row} {p q : PV} (h : (prims glob).mmOk p q = true) : ∃ k x k' y, p = .int k x ∧ q = .int k' y := by
  simp only [prims] at h
  split at h
  · exact ⟨_, _, _, _, rfl, rfl⟩
  · cases h

theorem pvOf_some {M : Prims} {t : List LV} {x : RO} {p : PV} {k : List Bool} (h : pvOf M t x = some (p, k)) : sv M t x = (.pv p, k) := by
  unfold pvOf at h
  split at h
  · rename_i p' k' e; cases h; exact e
  · cases h

@[simp] theorem add_plain (b o n : Nat) : (⟨b, o, none⟩ : Addr).add n = ⟨b, o + n, none⟩ := by unfold Addr.add; split <;> simp_all

section
variable {G : Ghost} {w : World} {h : HF} {μ : Loc}
theorem RP.one {p : PV} {v : Value} (r : RP G w p v) : AI.one v = true := by cases r <;> rfl
theorem RV.one {x : LV} {v : Value} (r : RV G w h μ x v) (hs : x.sc = true) : AI.one v = true := by
  cases r <;> simp [LV.sc] at hs <;> first | rfl | (rename_i hp; exact hp.one)
theorem RV.ptr_inv {id off : Nat} {v : Value} (r : RV G w h μ (.ptr id off) v) : ∃ b, v = .pointer (some ⟨b, off, none⟩) ∧ (∃ b, h id = some b) ∧ ∀ cells ty, h id = some (.data cells ty) → ∃ c, μ id = some (b, c) := by
  cases r; exact ⟨_, rfl, by assumption, by assumption⟩
theorem RV.fp_inv {r : Row} {off : Nat} {v : Value} (x : RV G w h μ (.fp r off) v) : ∃ (b base : Nat) (vs : Nat → Value), v = .pointer (some ⟨b, base + off, none⟩) ∧
    (∀ (j : Nat) (p : PV), r[j]? = some p → w.cell? ⟨b, base + j, none⟩ = some (vs j) ∧ base + j < G b) ∧ (∀ (j : Nat) (p : PV), r[j]? = some p → RP G w p (vs j)) := by
  cases x; exact ⟨_, _, _, rfl, by assumption, by assumption⟩
theorem RV.elt_inv {id ver i off : Nat} {v : Value} (x : RV G w h μ (.elt id ver i off) v) : ∃ b o, v = .pointer (some ⟨b, o, none⟩) ∧ (∃ b, h id = some b) ∧
    (∀ sz v' f rows, h id = some (.arr sz v' f rows) → ver ≤ v' ∧ (v' = ver → i < rows.length ∧ o = i * sz + off ∧ ∃ c, μ id = some (b, c))) := by
  cases x; exact ⟨_, _, rfl, by assumption, by assumption⟩
theorem RV.ref_inv {id ver : Nat} {v : Value} (x : RV G w h μ (.ref id ver) v) : ∃ a n c, v = .slice a n c ∧ (∃ b, h id = some b) ∧
    (∀ sz v' f rows, h id = some (.arr sz v' f rows) → ver ≤ v' ∧ (v' = ver → .slice a n c = slv (μ id) rows.length)) := by
  cases x; exact ⟨_, _, _, rfl, by assumption, by assumption⟩
theorem RV.full_inv {rows : Rows} {v : Value} (x : RV G w h μ (.full rows) v) : ∃ a, v = .slice a rows.length rows.length ∧ RP G w (.list rows) v := by
  cases x; exact ⟨_, rfl, by assumption⟩
theorem RV.clo_inv {f : Nat} {x y : List LV} {v : Value} (r : RV G w h μ (.clo f x y) v) : ∃ fs cs, v = .func (.func f) fs cs ∧ x.length = fs.size ∧ y.length = cs.size ∧
    (∀ (j : Nat) (z : LV) (c : Value), x[j]? = some z → fs[j]? = some c → RV G w h μ z c) ∧ (∀ (j : Nat) (z : LV) (c : Value), y[j]? = some z → cs[j]? = some c → RV G w h μ z c) := by
  cases r; exact ⟨_, _, rfl, by assumption, by assumption, by assumption, by assumption⟩
theorem RV.yld_inv {id : Nat} {v : Value} (r : RV G w h μ (.yld id) v) : ∃ b, v = .func (.yield b) #[] #[] ∧ (∃ b, h id = some b) ∧ (∀ t ps a bo p, h id = some (.loop t ps a bo p) → ∃ c, μ id = some (b, c)) := by
  cases r; exact ⟨_, rfl, by assumption, by assumption⟩
theorem RV.prow_inv {r : Row} {v : Value} (x : RV G w h μ (.prow r) v) : ∃ cs, v = .agg cs ∧ r.length = cs.size ∧ ∀ (j : Nat) (p : PV) (c : Value), r[j]? = some p → cs[j]? = some c → RP G w p c := by
  cases x; exact ⟨_, rfl, by assumption, by assumption⟩
theorem RV.row_inv {l : List LV} {v : Value} (x : RV G w h μ (.row l) v) : ∃ cs, v = .agg cs ∧ l.length = cs.size ∧ (∀ (j : Nat) (x : LV) (c : Value), l[j]? = some x → cs[j]? = some c → RV G w h μ x c) ∧
    (∀ (j : Nat) (c : Value), cs[j]? = some c → AI.one c = true) := by
  cases x; exact ⟨_, rfl, by assumption, by assumption, by assumption⟩
theorem RV.tup_inv {l : List LV} {v : Value} (x : RV G w h μ (.tup l) v) : ∃ cs, v = .tuple cs ∧ l.length = cs.size ∧ (∀ (j : Nat) (x : LV) (c : Value), l[j]? = some x → cs[j]? = some c → RV G w h μ x c) := by
  cases x; exact ⟨_, rfl, by assumption, by assumption⟩
theorem RV.nils_inv {v : Value} (x : RV G w h μ .nils v) : v = .slice none 0 0 := by cases x; rfl
theorem RV.nilf_inv {v : Value} (x : RV G w h μ .nilf v) : v = .nilFunc := by cases x; rfl
theorem RV.ifc_inv {t : Nat} {y : LV} {v : Value} (x : RV G w h μ (.ifc t y) v) : ∃ u, v = .iface t u := by cases x; exact ⟨_, rfl⟩
theorem RP.list_inv {rows : Rows} {v : Value} (x : RP G w (.list rows) v) : ∃ a c, v = .slice a rows.length c ∧ rows.length ≤ c ∧ ((rows = [] ∧ ∀ x, a = some x → x.spot = none) ∨ ∃ (b off sz : Nat) (vs : Nat → Nat → Value), a = some ⟨b, off, none⟩ ∧
      (∀ (i : Nat) (row : Row), rows[i]? = some row → row.length = sz) ∧
      (∀ (i : Nat) (row : Row) (j : Nat) (p : PV), rows[i]? = some row → row[j]? = some p → w.cell? ⟨b, off + i * sz + j, none⟩ = some (vs i j) ∧ off + i * sz + j < G b) ∧
      (∀ (i : Nat) (row : Row) (j : Nat) (p : PV), rows[i]? = some row → row[j]? = some p → RP G w p (vs i j))) := by
  cases x with
  | list0 a c ha => exact ⟨a, c, rfl, by simp, .inl ⟨rfl, ha⟩⟩
  | list rows b off c sz vs hc hw hs hr => exact ⟨_, c, rfl, hc, .inr ⟨b, off, sz, vs, rfl, hw, hs, hr⟩⟩

theorem allPV_get : ∀ {l : List LV} {r : Row}, allPV l = some r → r.length = l.length ∧ ∀ (j : Nat) (p : PV), r[j]? = some p → l[j]? = some (.pv p)
  | [], r, e => by simp [allPV] at e; subst e; exact ⟨rfl, fun j p h => by simp at h⟩
  | x :: l, r, e => by
    cases x <;> simp [allPV] at e
    rename_i p
    cases ha : allPV l with
    | none => simp [ha] at e
    | some r' =>
      simp [ha] at e; subst e
      obtain ⟨h1, h2⟩ := allPV_get ha
      refine ⟨by simp [h1], fun j q hq => ?_⟩
      cases j with
      | zero => simp at hq ⊢; exact hq
      | succ j => simp at hq ⊢; exact h2 j q hq

theorem mkAgg_rv {l : List LV} {cs : Array Value} (hl : l.length = cs.size) (hr : ∀ (j : Nat) (x : LV) (c : Value), l[j]? = some x → cs[j]? = some c → RV G w h μ x c ∧ AI.one c = true) : RV G w h μ (mkAgg l) (.agg cs) := by
  unfold mkAgg
  split
  · rename_i r e
    obtain ⟨h1, h2⟩ := allPV_get e
    exact .prow r cs (h1.trans hl) (fun j p c hp hc => (hr j _ c (h2 j p hp) hc).1.pv_inv)
  · refine .row l cs hl (fun j x c hx hc => (hr j x c hx hc).1) (fun j c hc => ?_)
    have hj : j < l.length := by have := (Array.getElem?_eq_some_iff.1 hc).1; omega
    exact (hr j l[j] c (List.getElem?_eq_getElem hj) hc).2

theorem cells_one {v : Value} (h : AI.one v = true) : v.cells = #[v] := by cases v <;> simp [AI.one] at h <;> rfl

theorem cellsOf_rv {glob : Nat → Row} {n : Nat} {x : LV} {v : Value} {cs : List LV} (r : RV G w h μ x v) (e : cellsOf (prims glob) n x = some cs) (hk : (widOk (prims glob) n x).all id = true) :
    v.cells.size = n ∧ cs.length = n ∧ ∀ (j : Nat) (y : LV) (c : Value), cs[j]? = some y → v.cells[j]? = some c → RV G w h μ y c ∧ AI.one c = true := by
  unfold cellsOf at e
  split at e
  · rename_i l
    obtain ⟨vs, rfl, hl, hr, ho⟩ := r.row_inv
    split at e <;> cases e
    rename_i hn
    exact ⟨hl ▸ hn, hn, fun j y c hy hc => ⟨hr j y c hy hc, ho j c hc⟩⟩
  · rename_i r'
    obtain ⟨vs, rfl, hl, hr⟩ := r.prow_inv
    cases e
    simp [widOk, prims] at hk
    refine ⟨hl ▸ hk, by simp, fun j y c hy hc => ?_⟩
    have hj : j < r'.length := by have := (Array.getElem?_eq_some_iff.1 hc).1; simp only [Value.cells] at this; omega
    have : y = .pv r'[j] := by simpa [prims, hk ▸ hj, hj, List.getD] using hy.symm
    subst this
    have := hr j r'[j] c (List.getElem?_eq_getElem hj) hc
    exact ⟨.pv _ _ this, this.one⟩
  · split at e <;> cases e
    rename_i hs
    simp only [Bool.and_eq_true, beq_iff_eq] at hs
    have h1 := r.one hs.1
    rw [cells_one h1, hs.2]
    refine ⟨rfl, rfl, fun j y c hy hc => ?_⟩
    cases j with
    | zero => simp at hy hc; subst hy; subst hc; exact ⟨r, h1⟩
    | succ j => simp at hy
end

section
variable {P : Program}
theorem r_loadAt {w : World} {ty : TypeId} {n : Nat} {ag : Bool} (h1 : tsize P ty = some n) (h2 : tagg P ty = some ag) (h3 : (ag || n == 1) = true) {b off : Nat} {f : Nat → Value}
    (hf : ∀ j, j < n → w.cell? ⟨b, off + j, none⟩ = some (f j)) :
    (Instr.loadAt ty (.pointer (some ⟨b, off, none⟩))).run P w = .ok (if ag then .agg ((List.range n).map f).toArray else f 0) w := by
  simp only [Instr.loadAt, Instr.sureAddr, loadVar, Sem.run_bind, Sem.run_pure, Result.andThen_ok, r_isAgg w h2]
  cases ag with
  | true =>
    simp only [if_true, Sem.run_bind, r_sizeOf w h1, Result.andThen_ok]
    rw [run_loadCells w ⟨b, off, none⟩ n f (fun j hj => by rw [add_plain]; exact hf j hj)]
    rfl
  | false =>
    simp at h3; subst h3
    have := hf 0 (by omega)
    simp at this
    simp [this]

theorem r_part {w : World} {ty : TypeId} {n : Nat} {ag : Bool} (h1 : tsize P ty = some n) (h2 : tagg P ty = some ag) {cs : Array Value} {off : Nat} (h3 : (ag || n == 1) = true) (hn : off + n ≤ cs.size) :
    (part ty cs off).run P w = .ok (if ag then .agg (cs.extract off (off + n)) else cs.getD off undef) w := by
  simp only [part, Sem.run_bind, r_isAgg w h2, Result.andThen_ok]
  cases ag with
  | true => simp only [if_true, Sem.run_bind, r_sizeOf w h1, Result.andThen_ok]; rfl
  | false =>
    simp at h3; subst h3
    have : off < cs.size := by omega
    simp [this, Array.getD]

theorem r_fieldAt {w : World} {s : TypeId} {f off e n : Nat} (h1 : tfield P s f = some (off, e)) (h2 : tsize P e = some n) (h3 : (n != 0) = true) {b o : Nat} :
    (Instr.fieldAt s (.pointer (some ⟨b, o, none⟩)) f).run P w = .ok (.pointer (some ⟨b, o + off, none⟩)) w := by
  unfold tfield at h1
  cases hu : P.underlying s with
  | none => simp [hu] at h1
  | some d =>
    rw [hu] at h1
    cases d <;> simp at h1
    rename_i fs
    obtain ⟨x, hx, rfl, rfl⟩ := h1
    simp only [bne_iff_ne, ne_eq] at h3
    simp [Instr.fieldAt, r_underlying w hu, hx, Instr.sureAddr, fieldPlace, r_sizeOf w h2, h3]

theorem r_field {w : World} {s : TypeId} {f off e n : Nat} {ag : Bool} (h1 : tfield P s f = some (off, e)) (h2 : tsize P e = some n) (h3 : tagg P e = some ag) (h4 : (ag || n == 1) = true) {cs : Array Value} (hn : off + n ≤ cs.size) :
    (Instr.field s (.agg cs) f).run P w = .ok (if ag then .agg (cs.extract off (off + n)) else cs.getD off undef) w := by
  unfold tfield at h1
  cases hu : P.underlying s with
  | none => simp [hu] at h1
  | some d =>
    rw [hu] at h1
    cases d <;> simp at h1
    rename_i fs
    obtain ⟨x, hx, rfl, rfl⟩ := h1
    simp only [Instr.field, Sem.run_bind, r_underlying w hu, Result.andThen_ok, hx, asAgg, Sem.run_pure, r_part h2 h3 h4 hn]
end

section
variable {P : Program} {glob : Nat → Row} {G : Ghost} {w : World} {h : HF} {μ : Loc} {t : List LV} {a : Array Value} {o : Oper} {S : SFn} {hl : List Blk} {res : OpR}

theorem o_nilck (c : Ctx P glob G w h μ t a) {x : Operand} {y : RO} {d : Nat} (hop : o.op = .nilCheck x) (e : ckRO x y = true)
    (hr : opRun (prims glob) S (.nilck d y) t hl = some (.ok res)) (hk : res.oks.all id = true) : res.heap = hl ∧ Val P G w h μ a o res.v := by
  simp only [opRun] at hr
  split at hr <;> cases hr <;> (rename_i hs; refine ⟨rfl, ev a x, ?_, sv_rv' c.tr c.gr e hs hk⟩; have hx := sv_rv' c.tr c.gr e hs hk)
  · obtain ⟨b, e, -⟩ := hx.ptr_inv; simp [execOp, hop, e]
  · obtain ⟨b, _, _, e, -⟩ := hx.fp_inv; simp [execOp, hop, e]
  · obtain ⟨b, _, e, -⟩ := hx.elt_inv; simp [execOp, hop, e]
  · obtain ⟨b, _, e, -⟩ := hx.clo_inv; simp [execOp, hop, e]
  · obtain ⟨b, e, -⟩ := hx.yld_inv; simp [execOp, hop, e]

theorem o_fieldA (c : Ctx P glob G w h μ t a) {s : TypeId} {x : Operand} {f : Nat} {y : RO} {d off : Nat} (hop : o.op = .fieldAddr s x f) (e : ckRO x y = true)
    {ty n : Nat} (h1 : tfield P s f = some (off, ty)) (h2 : tsize P ty = some n) (h3 : (n != 0) = true)
    (hr : opRun (prims glob) S (.fieldA d y off) t hl = some (.ok res)) (hk : res.oks.all id = true) : res.heap = hl ∧ Val P G w h μ a o res.v := by
  simp only [opRun] at hr
  split at hr <;> cases hr <;> (rename_i hs; have hx := sv_rv' c.tr c.gr e hs hk; refine ⟨rfl, ?_⟩)
  · obtain ⟨b, e, hd, hv⟩ := hx.ptr_inv
    exact ⟨_, (by simp only [execOp, hop, e, Sem.run_bind, r_fieldAt h1 h2 h3, Result.andThen_ok, Sem.run_pure]), .ptr _ _ b hd hv⟩
  · obtain ⟨b, base, vs, e, hs, hv⟩ := hx.fp_inv
    refine ⟨_, (by simp only [execOp, hop, e, Sem.run_bind, r_fieldAt h1 h2 h3, Result.andThen_ok, Sem.run_pure]; rfl), ?_⟩
    rw [Nat.add_assoc]
    exact .fp _ _ b base vs hs hv
  · obtain ⟨b, o', e, hd, hv⟩ := hx.elt_inv
    refine ⟨_, (by simp only [execOp, hop, e, Sem.run_bind, r_fieldAt h1 h2 h3, Result.andThen_ok, Sem.run_pure]; rfl), .elt _ _ _ _ b _ hd (fun sz v' f rows hh => ⟨(hv sz v' f rows hh).1, fun he => ?_⟩)⟩
    obtain ⟨k1, k2, k3⟩ := (hv sz v' f rows hh).2 he
    exact ⟨k1, by omega, k3⟩

theorem o_extract (c : Ctx P glob G w h μ t a) {x : Operand} {y : RO} {d i : Nat} (hop : o.op = .extract x i) (e : ckRO x y = true)
    (hr : opRun (prims glob) S (.extract d y i) t hl = some (.ok res)) (hk : res.oks.all id = true) : res.heap = hl ∧ Val P G w h μ a o res.v := by
  simp only [opRun] at hr
  split at hr
  · split at hr <;> cases hr
    rename_i l k hs _ v hv
    have hx := sv_rv' c.tr c.gr e hs hk
    obtain ⟨cs, e, hl, hrr⟩ := hx.tup_inv
    have hi : i < l.length := (List.getElem?_eq_some_iff.1 hv).1
    have hc : cs[i]? = some (cs[i]'(hl ▸ hi)) := Array.getElem?_eq_getElem _
    exact ⟨rfl, cs[i]'(hl ▸ hi), by simp [execOp, hop, e, Instr.extract, hc], hrr i v _ hv hc⟩
  · cases hr

theorem o_pick (c : Ctx P glob G w h μ t a) {x y z : Operand} {x' y' z' : RO} {d : Nat} (hop : o.op = .pick x y z) (e1 : ckRO x x' = true) (e2 : ckRO y y' = true) (e3 : ckRO z z' = true)
    (hr : opRun (prims glob) S (.pick d x' y' z') t hl = some (.ok res)) (hk : res.oks.all id = true) : res.heap = hl ∧ Val P G w h μ a o res.v := by
  simp only [opRun] at hr
  split at hr <;> cases hr
  · rename_i p k q ka q' kb h1 h2 h3
    simp only [List.all_append, Bool.and_eq_true, List.all_cons, List.all_nil, id, and_true] at hk
    obtain ⟨⟨⟨k1, k2⟩, k3⟩, k4⟩ := hk
    have hx := (sv_rv' c.tr c.gr e1 h1 k1).pv_inv
    cases p <;> simp [prims] at k2
    rename_i b
    have hxb := hx.bool_inv
    have imp : ∀ (g : Bool) (l : List Bool), (impAll (prims glob) g l).all id = true → g = true → l.all id = true := by
      intro g l hl hg; subst hg
      induction l with
      | nil => rfl
      | cons u l ih => simp only [impAll, List.all_cons, Bool.and_eq_true] at hl ⊢; exact ⟨by simpa [prims] using hl.1, ih hl.2⟩
    refine ⟨rfl, ?_⟩
    cases b with
    | true =>
      have hy := (sv_rv' c.tr c.gr e2 h2 (imp _ _ k3 (by simp [prims]))).pv_inv
      exact ⟨ev a y, by simp [execOp, hop, hxb, asBool], .pv _ _ (by simpa [prims] using hy)⟩
    | false =>
      have hy := (sv_rv' c.tr c.gr e3 h3 (imp _ _ k4 (by simp [prims]))).pv_inv
      exact ⟨ev a z, by simp [execOp, hop, hxb, asBool], .pv _ _ (by simpa [prims] using hy)⟩
  · rename_i p k q ka kb h1 h2 h3
    simp only [List.all_append, Bool.and_eq_true, List.all_cons, List.all_nil, id, and_true] at hk
    obtain ⟨⟨k1, k2⟩, k3⟩ := hk
    have hx := (sv_rv' c.tr c.gr e1 h1 k1).pv_inv
    cases p <;> simp [prims] at k2
    subst k2
    exact ⟨rfl, ev a z, by simp [execOp, hop, hx.bool_inv, asBool], sv_rv' c.tr c.gr e3 h3 k3⟩
  · rename_i p k q ka kb h1 h2 h3
    simp only [List.all_append, Bool.and_eq_true, List.all_cons, List.all_nil, id, and_true] at hk
    obtain ⟨⟨k1, k2⟩, k3⟩ := hk
    have hx := (sv_rv' c.tr c.gr e1 h1 k1).pv_inv
    cases p <;> simp [prims] at k2
    subst k2
    exact ⟨rfl, ev a y, by simp [execOp, hop, hx.bool_inv, asBool], sv_rv' c.tr c.gr e2 h2 k3⟩

theorem o_mm (c : Ctx P glob G w h μ t a) {cl : Call} {x y : Operand} {x' y' : RO} {d : Nat} {big : Bool} (hop : o.op = .call cl) (hc : cl.callee = .builtin (if big then .max else .min)) (ha : cl.args.toList = [x, y])
    (e1 : ckRO x x' = true) (e2 : ckRO y y' = true)
    (hr : opRun (prims glob) S (.mm d big x' y') t hl = some (.ok res)) (hk : res.oks.all id = true) : res.heap = hl ∧ Val P G w h μ a o res.v := by
  simp only [opRun] at hr
  split at hr <;> cases hr
  rename_i p k1 q k2 h1 h2
  simp only [List.all_append, Bool.and_eq_true, List.all_cons, List.all_nil, id, and_true] at hk
  obtain ⟨⟨k1, k2⟩, k3⟩ := hk
  have hx := (sv_rv' c.tr c.gr e1 (pvOf_some h1) k1).pv_inv
  have hy := (sv_rv' c.tr c.gr e2 (pvOf_some h2) k2).pv_inv
  have ha' : cl.args = #[x, y] := by rw [← Array.toArray_toList (xs := cl.args), ha]
  obtain ⟨k, x, k', y, rfl, rfl⟩ := mmOk_inv k3
  have hx := hx.int_inv; have hy := hy.int_inv
  refine ⟨rfl, ?_⟩
  cases big
  · refine ⟨_, ?_, .pv _ _ (.int _ _)⟩
    simp only [execOp, hop, resolve, hc, invoke, builtin, Builtin.min_, ha', Sem.run_bind, Sem.run_pure, Result.andThen_ok, Bool.false_eq_true, if_false, List.map_toArray, List.map_cons, List.map_nil, hx, hy, List.foldlM_cons, List.foldlM_nil, Builtin.min2]
  · refine ⟨_, ?_, .pv _ _ (.int _ _)⟩
    simp only [execOp, hop, resolve, hc, invoke, builtin, Builtin.max_, ha', Sem.run_bind, Sem.run_pure, Result.andThen_ok, if_true, List.map_toArray, List.map_cons, List.map_nil, hx, hy, List.foldlM_cons, List.foldlM_nil, Builtin.max2]

theorem o_mkif (c : Ctx P glob G w h μ t a) {ty : TypeId} {x : Operand} {y : RO} {d : Nat} (hop : o.op = .makeInterface ty x) (e : ckRO x y = true)
    (hn : (!(match P.underlying ty with | some (.interface _) => true | none => true | _ => false)) = true)
    (hr : opRun (prims glob) S (.mkif d ty y) t hl = some (.ok res)) (hk : res.oks.all id = true) : res.heap = hl ∧ Val P G w h μ a o res.v := by
  have hrun : ∀ u, ev a x = u → (execOp (ev a) o).run P w = .ok (.value (.iface ty u)) w := by
    intro u hu
    simp only [execOp, hop, hu, Instr.makeInterface, Sem.run_bind]
    cases hq : P.underlying ty with
    | none => simp [hq] at hn
    | some d => rw [r_underlying w hq]; cases d <;> simp [hq] at hn <;> rfl
  simp only [opRun] at hr
  split at hr <;> cases hr <;> (rename_i hs; have hx := sv_rv' c.tr c.gr e hs hk; refine ⟨rfl, ?_⟩)
  · exact ⟨_, hrun _ rfl, .pv _ _ (.iface _ _ _ hx.pv_inv)⟩
  · obtain ⟨cs, e, h1, h2⟩ := hx.prow_inv
    exact ⟨_, hrun _ e, .pv _ _ (.ifaceR _ _ cs h1 h2)⟩
  · rename_i k _ _ hs
    exact ⟨_, hrun _ rfl, .ifc _ _ _ (sv_rv' c.tr c.gr e hs hk)⟩
end
end AI
end

section
namespace AI
open Go

section
variable {P : Program} {glob : Nat → Row} {G : Ghost} {w : World} {h : HF} {μ : Loc}

theorem sub_get {r : Row} {off n j : Nat} {p : PV} (h : ((r.drop off).take n)[j]? = some p) : j < n ∧ r[off + j]? = some p := by
  rw [List.getElem?_take] at h
  split at h
  · rename_i hj; rw [List.getElem?_drop] at h; exact ⟨hj, h⟩
  · cases h

theorem subL_get {r : List LV} {off n j : Nat} {p : LV} (h : ((r.drop off).take n)[j]? = some p) : j < n ∧ r[off + j]? = some p := by
  rw [List.getElem?_take] at h
  split at h
  · rename_i hj; rw [List.getElem?_drop] at h; exact ⟨hj, h⟩
  · cases h

/-- A part of a row that never changes. -/
theorem sub_rv {r : Row} {off n : Nat} {ag : Bool} {A : Array Value} {v : Value} (hag : (ag || n == 1) = true) (hw : (prims glob).widGe r (off + n) = true) (hA : A.size = n)
    (hv : ag = false → A[0]? = some v) (hr : ∀ (j : Nat) (p : PV) (c : Value), r[off + j]? = some p → A[j]? = some c → RP G w p c) :
    RV G w h μ (if ag then .prow ((prims glob).sub r off n) else .pv ((prims glob).cell r off)) (if ag then .agg A else v) := by
  simp only [prims, decide_eq_true_eq] at hw ⊢
  cases ag with
  | true =>
    refine .prow _ A (by simp; omega) (fun j p c hp hc => ?_)
    exact hr j p c (sub_get hp).2 hc
  | false =>
    simp at hag; subst hag
    have h1 : r[off]? = some (r[off]'(by omega)) := List.getElem?_eq_getElem _
    refine .pv _ _ ?_
    have := hr 0 _ v h1 (hv rfl)
    simpa [List.getD, h1] using this

theorem subL_rv {l : List LV} {off n : Nat} {ag : Bool} {A : Array Value} {v : Value} (hag : (ag || n == 1) = true) (hw : off + n ≤ l.length) (hA : A.size = n)
    (hv : ag = false → A[0]? = some v) (hr : ∀ (j : Nat) (p : LV) (c : Value), l[off + j]? = some p → A[j]? = some c → RV G w h μ p c ∧ one c = true) :
    RV G w h μ (if ag then mkAgg ((l.drop off).take n) else l.getD off .bad) (if ag then .agg A else v) := by
  cases ag with
  | true =>
    refine mkAgg_rv (by simp; omega) (fun j p c hp hc => ?_)
    exact hr j p c (subL_get hp).2 hc
  | false =>
    simp at hag; subst hag
    have h1 : l[off]? = some (l[off]'(by omega)) := List.getElem?_eq_getElem _
    have := (hr 0 _ v h1 (hv rfl)).1
    simpa [List.getD, h1] using this

variable {t : List LV} {a : Array Value} {o : Oper} {S : SFn} {hl : List Blk} {res : OpR}

theorem o_part (c : Ctx P glob G w h μ t a) {s : TypeId} {x : Operand} {f : Nat} {y : RO} {d off n : Nat} {ag : Bool} (hop : o.op = .field s x f) (e : ckRO x y = true)
    {ty : Nat} (h1 : tfield P s f = some (off, ty)) (h2 : tsize P ty = some n) (h3 : tagg P ty = some ag) (h4 : (ag || n == 1) = true)
    (hr : opRun (prims glob) S (.part d ag n y off) t hl = some (.ok res)) (hk : res.oks.all id = true) : res.heap = hl ∧ Val P G w h μ a o res.v := by
  simp only [opRun] at hr
  split at hr
  · rename_i l k hs
    split at hr <;> cases hr
    rename_i hn
    obtain ⟨cs, e, hl, hrr, ho⟩ := (sv_rv' c.tr c.gr e hs hk).row_inv
    refine ⟨rfl, _, (by simp only [execOp, hop, e, Sem.run_bind, r_field (cs := cs) h1 h2 h3 h4 (by omega), Result.andThen_ok, Sem.run_pure]; rfl), ?_⟩
    refine subL_rv h4 hn (by simp; omega) (fun hag => ?_) (fun j p c hp hc => ?_)
    · subst hag; simp at h4; subst h4
      have : off < cs.size := by omega
      rw [Array.getElem?_extract_of_lt (by omega)]
      simp [this]
    · have hj : j < n := by have := (Array.getElem?_eq_some_iff.1 hc).1; simp at this; omega
      rw [Array.getElem?_extract_of_lt (by omega), ← Array.getElem?_eq_getElem] at hc
      exact ⟨hrr _ _ _ hp hc, ho _ _ hc⟩
  · cases hr
    rename_i r k hs
    simp only [List.all_append, Bool.and_eq_true, List.all_cons, List.all_nil, id, and_true] at hk
    obtain ⟨cs, e, hl, hrr⟩ := (sv_rv' c.tr c.gr e hs hk.1).prow_inv
    have hn : off + n ≤ r.length := by simpa [prims] using hk.2
    refine ⟨rfl, _, (by simp only [execOp, hop, e, Sem.run_bind, r_field (cs := cs) h1 h2 h3 h4 (by omega), Result.andThen_ok, Sem.run_pure]; rfl), ?_⟩
    refine sub_rv h4 hk.2 (by simp; omega) (fun hag => ?_) (fun j p c hp hc => ?_)
    · subst hag; simp at h4; subst h4
      have : off < cs.size := by omega
      rw [Array.getElem?_extract_of_lt (by omega)]
      simp [this]
    · have hj : j < n := by have := (Array.getElem?_eq_some_iff.1 hc).1; simp at this; omega
      rw [Array.getElem?_extract_of_lt (by omega), ← Array.getElem?_eq_getElem] at hc
      exact hrr _ _ _ hp hc
  · cases hr

theorem range_get {n j : Nat} {f : Nat → Value} {c : Value} (h : ((List.range n).map f).toArray[j]? = some c) : j < n ∧ f j = c := by
  simp at h
  obtain ⟨x, h1, h2⟩ := h
  have hj : j < n := by have := (List.getElem?_eq_some_iff.1 h1).1; simpa using this
  rw [List.getElem?_range hj] at h1
  cases h1
  exact ⟨hj, h2⟩

/-- What is read is as it is in the given heap. -/
theorem o_load (c : Ctx P glob G w h μ t a) {ty : TypeId} {x : Operand} {y : RO} {d n : Nat} {ag : Bool} (hop : o.op = .load ty x) (e : ckRO x y = true)
    (h2 : tsize P ty = some n) (h3 : tagg P ty = some ag) (h4 : (ag || n == 1) = true) (hA : ∀ id ∈ idsOf (sv (prims glob) t y).1, h id = hl[id]?)
    (hr : opRun (prims glob) S (.load d ag n y) t hl = some (.ok res)) (hk : res.oks.all id = true) : res.heap = hl ∧ Val P G w h μ a o res.v := by
  have fin : ∀ {b off : Nat} {f : Nat → Value} (z : LV), ev a x = .pointer (some ⟨b, off, none⟩) → (∀ j, j < n → w.cell? ⟨b, off + j, none⟩ = some (f j)) →
      RV G w h μ z (if ag then .agg ((List.range n).map f).toArray else f 0) → Val P G w h μ a o z := by
    intro b off f z e hf hz
    exact ⟨_, by simp only [execOp, hop, e, Sem.run_bind, r_loadAt h2 h3 h4 hf, Result.andThen_ok, Sem.run_pure], hz⟩
  simp only [opRun] at hr
  split at hr
  · rename_i i off k hs
    split at hr <;> try cases hr
    rename_i cells ty0 hc
    split at hr <;> cases hr
    rename_i hn
    obtain ⟨b, e, hd, hv⟩ := (sv_rv' c.tr c.gr e hs hk).ptr_inv
    rw [hs] at hA
    have hh : h i = some (.data cells _) := (hA i (by simp [idsOf])).trans hc
    obtain ⟨b1, c1, vs, tt, m1, m2, m3, m4, m5⟩ := c.hr.own i _ hh
    obtain ⟨c2, m6⟩ := hv cells _ hh
    obtain rfl : b1 = b := by rw [m1] at m6; cases m6; rfl
    refine ⟨rfl, fin (f := fun j => vs.getD (off + j) undef) _ e (fun j hj => ?_) ?_⟩
    · have : off + j < vs.size := by omega
      rw [blk_cell m2]; simp [this]
    · refine subL_rv h4 hn (by simp) (fun hag => ?_) (fun j p c hp hc => ?_)
      · subst hag; simp at h4; subst h4; simp
      · obtain ⟨hj, rfl⟩ := range_get hc
        have : off + j < vs.size := by omega
        exact m5 (off + j) p _ hp (by simp [this])
  · cases hr
    rename_i r off k hs
    simp only [List.all_cons, Bool.and_eq_true] at hk
    obtain ⟨b, base, vs, e, h5, h6⟩ := (sv_rv' c.tr c.gr e hs hk.2).fp_inv
    have hn : off + n ≤ r.length := by simpa [prims] using hk.1
    refine ⟨rfl, fin (f := fun j => vs (off + j)) _ e (fun j hj => ?_) ?_⟩
    · rw [Nat.add_assoc]; exact (h5 (off + j) _ (List.getElem?_eq_getElem (by omega))).1
    · refine sub_rv h4 hk.1 (by simp) (fun hag => ?_) (fun j p c hp hc => ?_)
      · subst hag; simp at h4; subst h4; simp
      · obtain ⟨hj, rfl⟩ := range_get hc
        exact h6 _ p hp
  · rename_i i ver j0 off k hs
    split at hr <;> try cases hr
    rename_i sz v ff rows hc
    split at hr <;> cases hr
    rename_i hn
    simp only [Bool.and_eq_true, decide_eq_true_eq] at hn
    obtain ⟨b, o', e, hd, hv⟩ := (sv_rv' c.tr c.gr e hs hk).elt_inv
    rw [hs] at hA
    have hh : h i = some (.arr sz v ff rows) := (hA i (by simp [idsOf])).trans hc
    obtain ⟨k1, rfl, c2, m6⟩ := (hv _ _ _ _ hh).2 hn.1
    rcases c.hr.own i _ hh with ⟨m1, -⟩ | ⟨b1, c1, vs, tt, fr, m1, m2, m3, m4, m5, m7, m8, m9, m10⟩
    · rw [m6] at m1; cases m1
    obtain rfl : b1 = b := by rw [m1] at m6; cases m6; rfl
    have hrow : rows[j0]? = some rows[j0] := List.getElem?_eq_getElem k1
    have hlen := m8 j0 _ hrow
    have hw : (prims glob).widGe rows[j0] (off + n) = true := by simp [prims]; omega
    have hg : (prims glob).rget rows j0 = rows[j0] := by simp [prims, List.getD, hrow]
    refine ⟨rfl, fin (f := fun j => vs.getD (j0 * sz + (off + j)) undef) _ e (fun j hj => ?_) ?_⟩
    · obtain ⟨u, hu, -⟩ := m9 j0 _ (off + j) _ hrow (List.getElem?_eq_getElem (by omega))
      rw [blk_cell m2, Nat.add_assoc, hu]; simp [Array.getD_eq_getD_getElem?, hu]
    · simp only [hg]
      refine sub_rv h4 hw (by simp) (fun hag => ?_) (fun j p c hp hc => ?_)
      · subst hag; simp at h4; subst h4; simp
      · obtain ⟨hj, rfl⟩ := range_get hc
        obtain ⟨u, hu, hp'⟩ := m9 j0 _ (off + j) p hrow hp
        simpa [Array.getD_eq_getD_getElem?, hu] using hp'
  · cases hr

theorem asIntOf_int {k : IntKind} {n : Int} : (asIntOf (.int k n)).run P w = .ok (k, n) w := rfl

theorem r_indexAt {ty e sz : Nat} (h1 : telem P ty = some e) (h2 : tsize P e = some sz) {b off len c : Nat} {k : IntKind} {i : Int} (hi : 0 ≤ i) (hn : i < len) :
    (Instr.indexAt ty (.slice (some ⟨b, off, none⟩) len c) (.int k i)).run P w = .ok (.pointer (some ⟨b, off + i.toNat * sz, none⟩)) w := by
  unfold telem at h1
  split at h1 <;> cases h1
  rename_i e hu
  simp only [Instr.indexAt, Sem.run_bind, asIntOf_int, Result.andThen_ok, r_underlying w hu, Sem.run_pure]
  have hc : 0 ≤ i ∧ i < (len : Int) := ⟨hi, hn⟩
  simp [hc, r_sizeOf w h2]

theorem natOk_inv {p : PV} {rows : Rows} (h : (prims glob).natOk p rows = true) : ∃ k n, p = .int k n ∧ 0 ≤ n ∧ n < rows.length ∧ (prims glob).nat p = n.toNat := by
  simp only [prims] at h
  split at h
  · simp at h; exact ⟨_, _, rfl, h.1, h.2, rfl⟩
  · cases h

theorem rowIds_ref {id ver : Nat} : rowIds (.ref id ver) = [id] := rfl

theorem o_idxA (c : Ctx P glob G w h μ t a) {ty : TypeId} {x i : Operand} {y j : RO} {d sz e : Nat} (hop : o.op = .indexAddr ty x i) (e1 : ckRO x y = true) (e2 : ckRO i j = true)
    (h1 : telem P ty = some e) (h2 : tsize P e = some sz) (hA : ∀ id ∈ rowIds (sv (prims glob) t y).1, h id = hl[id]?)
    (hr : opRun (prims glob) S (.idxA d sz y j) t hl = some (.ok res)) (hk : res.oks.all id = true) : res.heap = hl ∧ Val P G w h μ a o res.v := by
  have fin : ∀ {b off len c0 : Nat} {k : IntKind} {n : Int} (z : LV), ev a x = .slice (some ⟨b, off, none⟩) len c0 → ev a i = .int k n → 0 ≤ n → n < len →
      RV G w h μ z (.pointer (some ⟨b, off + n.toNat * sz, none⟩)) → Val P G w h μ a o z := by
    intro b off len c0 k n z ex ei h0 hn hz
    exact ⟨_, by simp only [execOp, hop, ex, ei, Sem.run_bind, r_indexAt h1 h2 h0 hn, Result.andThen_ok, Sem.run_pure], hz⟩
  simp only [opRun] at hr
  split at hr
  · cases hr
    rename_i p k1 q k2 hs hp
    simp only [List.all_append, Bool.and_eq_true, List.all_cons, List.all_nil, id, and_true] at hk
    obtain ⟨⟨hk1, hk2⟩, hk3⟩ := hk
    have hx := (sv_rv' c.tr c.gr e1 hs hk1).pv_inv
    have hi := (sv_rv' c.tr c.gr e2 (pvOf_some hp) hk2).pv_inv
    simp only [prims] at hk3
    split at hk3
    · rename_i rows k n
      simp only [Bool.and_eq_true, decide_eq_true_eq, beq_iff_eq] at hk3
      obtain ⟨⟨h0, hn⟩, hw⟩ := hk3
      have hlt : n.toNat < rows.length := by omega
      have hrow : rows[n.toNat]? = some rows[n.toNat] := List.getElem?_eq_getElem hlt
      have hgd : rows.getD n.toNat [] = rows[n.toNat] := by simp [List.getD, hrow]
      obtain ⟨ad, c0, ex, hc, hh⟩ := hx.list_inv
      rcases hh with ⟨rfl, -⟩ | ⟨b, off, sz', vs, rfl, m1, m2, m3⟩
      · simp at hlt
      obtain rfl : sz' = sz := by rw [← m1 _ _ hrow, ← hw, hgd]
      refine ⟨rfl, fin _ ex hi.int_inv h0 hn ?_⟩
      have : (prims glob).lidx (.list rows) (.int k n) = rows[n.toNat] := by simp [prims, pNat, hrow]
      rw [this]
      exact .fp _ 0 b (off + n.toNat * sz') (vs n.toNat) (fun j p hp => m2 _ _ j p hrow hp) (fun j p hp => m3 _ _ j p hrow hp)
    · cases hk3
  · cases hr
    rename_i rows k1 q k2 hs hp
    simp only [List.all_append, Bool.and_eq_true, List.all_cons, List.all_nil, id, and_true] at hk
    obtain ⟨⟨hk1, hk2⟩, hk3, hk4⟩ := hk
    obtain ⟨ad, ex0, hx⟩ := (sv_rv' c.tr c.gr e1 hs hk1).full_inv
    have hi := (sv_rv' c.tr c.gr e2 (pvOf_some hp) hk2).pv_inv
    obtain ⟨k, n, rfl, h0, hn, hnat⟩ := natOk_inv hk3
    have hlt : n.toNat < rows.length := by omega
    have hrow : rows[n.toNat]? = some rows[n.toNat] := List.getElem?_eq_getElem hlt
    rw [hnat] at hk4 ⊢
    have hg : (prims glob).rget rows n.toNat = rows[n.toNat] := by simp [prims, List.getD, hrow]
    rw [hg] at hk4 ⊢
    simp only [prims, beq_iff_eq] at hk4
    obtain ⟨ad', c0, ex, hc, hh⟩ := hx.list_inv
    rcases hh with ⟨rfl, -⟩ | ⟨b, off, sz', vs, rfl, m1, m2, m3⟩
    · simp at hlt
    obtain rfl : sz' = sz := by rw [← m1 _ _ hrow, ← hk4]
    refine ⟨rfl, fin _ ex hi.int_inv h0 hn ?_⟩
    exact .fp _ 0 b (off + n.toNat * sz') (vs n.toNat) (fun j p hp => m2 _ _ j p hrow hp) (fun j p hp => m3 _ _ j p hrow hp)
  · rename_i id0 ver k1 q k2 hs hp
    split at hr <;> try cases hr
    rename_i s v ff rows hc
    split at hr <;> cases hr
    rename_i hcond
    simp only [Bool.and_eq_true, decide_eq_true_eq, beq_iff_eq] at hcond
    obtain ⟨rfl, rfl⟩ := hcond
    simp only [List.all_append, Bool.and_eq_true, List.all_cons, List.all_nil, id, and_true] at hk
    obtain ⟨⟨hk1, hk2⟩, hk3⟩ := hk
    obtain ⟨ad, len, c0, ex, hd, hv⟩ := (sv_rv' c.tr c.gr e1 hs hk1).ref_inv
    have hi := (sv_rv' c.tr c.gr e2 (pvOf_some hp) hk2).pv_inv
    obtain ⟨k, n, rfl, h0, hn, hnat⟩ := natOk_inv hk3
    rw [hs] at hA
    have hh : h id0 = some (.arr s v ff rows) := (hA id0 (by simp [rowIds])).trans hc
    have hsl := (hv _ _ _ _ hh).2 rfl
    have hlt : n.toNat < rows.length := by omega
    cases hm : μ id0 with
    | none =>
      rcases c.hr.own _ _ hh with ⟨-, rfl⟩ | ⟨b1, c1, vs, tt, fr, m1, -⟩
      · simp at hlt
      · rw [hm] at m1; cases m1
    | some bc =>
      obtain ⟨b, cc⟩ := bc
      rw [hm] at hsl
      rw [hsl, slv] at ex
      rw [hnat]
      refine ⟨rfl, fin _ ex hi.int_inv h0 hn ?_⟩
      refine .elt id0 v n.toNat 0 b _ ⟨_, hh⟩ (fun sz v' f rows' hh' => ?_)
      rw [hh] at hh'; cases hh'
      exact ⟨Nat.le_refl _, fun _ => ⟨hlt, by omega, cc, hm⟩⟩
  · cases hr

theorem o_len (c : Ctx P glob G w h μ t a) {cl : Call} {x : Operand} {ty : TypeId} {y : RO} {d : Nat} {str : Bool} (hop : o.op = .call cl) (hc : cl.callee = .builtin .len) (ha : cl.args.toList = [x]) (hat : cl.argTypes.toList = [ty])
    (e1 : ckRO x y = true) (ht : (if str then isStr P ty else (telem P ty).isSome) = true) (hA : ∀ id ∈ rowIds (sv (prims glob) t y).1, h id = hl[id]?)
    (hr : opRun (prims glob) S (.len d str y) t hl = some (.ok res)) (hk : res.oks.all id = true) : res.heap = hl ∧ Val P G w h μ a o res.v := by
  have ha' : cl.args = #[x] := by rw [← Array.toArray_toList (xs := cl.args), ha]
  have hat' : cl.argTypes = #[ty] := by rw [← Array.toArray_toList (xs := cl.argTypes), hat]
  have hrun : ∀ u v, ev a x = u → (Builtin.len_ #[ty] o.type #[u]).run P w = .ok v w → (execOp (ev a) o).run P w = .ok (.value v) w := by
    intro u v hu hv
    simp only [execOp, hop, resolve, hc, invoke, builtin, ha', hat', Sem.run_bind, Sem.run_pure, Result.andThen_ok, List.map_toArray, List.map_cons, List.map_nil, hu, hv]
  have hstr : ∀ s, str = true → (Builtin.len_ #[ty] o.type #[.string s]).run P w = .ok (.int .i64 s.size) w := by
    intro s hs
    rw [if_pos hs] at ht
    unfold isStr at ht
    split at ht <;> try cases ht
    rename_i hu
    simp [Builtin.len_, r_underlying w hu, goInt]
  have hsl : ∀ ad n cc, ¬ str = true → (Builtin.len_ #[ty] o.type #[.slice ad n cc]).run P w = .ok (.int .i64 n) w := by
    intro ad n cc hs
    rw [if_neg hs] at ht
    unfold telem at ht
    split at ht <;> try cases ht
    rename_i hu
    simp [Builtin.len_, r_underlying w hu, goInt]
  simp only [opRun] at hr
  split at hr
  · cases hr
    rename_i p k hs
    simp only [List.all_append, Bool.and_eq_true, List.all_cons, List.all_nil, id, and_true] at hk
    obtain ⟨hk1, hk2⟩ := hk
    have hx := (sv_rv' c.tr c.gr e1 hs hk1).pv_inv
    simp only [prims] at hk2
    split at hk2
    · have hx := hx.str_inv
      refine ⟨rfl, _, hrun _ _ hx (hstr _ hk2), .pv _ _ ?_⟩
      rw [bstr_size]; exact .int _ _
    · obtain ⟨ad, cc, ex, -⟩ := hx.list_inv
      exact ⟨rfl, _, hrun _ _ ex (hsl _ _ _ (by simpa using hk2)), .pv _ _ (.int _ _)⟩
    · cases hk2
  · split at hr <;> cases hr
    rename_i k hs hst
    exact ⟨rfl, _, hrun _ _ (sv_rv' c.tr c.gr e1 hs hk).nils_inv (hsl _ _ _ hst), .pv _ _ (.int _ _)⟩
  · split at hr <;> cases hr
    rename_i rows k hs hst
    obtain ⟨ad, ex, -⟩ := (sv_rv' c.tr c.gr e1 hs hk).full_inv
    exact ⟨rfl, _, hrun _ _ ex (hsl _ _ _ hst), .pv _ _ (.int _ _)⟩
  · rename_i id0 ver k hs
    split at hr <;> try cases hr
    rename_i s v ff rows hcc
    split at hr <;> cases hr
    rename_i hcond
    simp only [Bool.and_eq_true, decide_eq_true_eq, Bool.not_eq_true'] at hcond
    obtain ⟨rfl, hst⟩ := hcond
    obtain ⟨ad, len, c0, ex, hd, hv⟩ := (sv_rv' c.tr c.gr e1 hs hk).ref_inv
    rw [hs] at hA
    have hh : h id0 = some (.arr s v ff rows) := (hA id0 (by simp [rowIds])).trans hcc
    have hsl' := (hv _ _ _ _ hh).2 rfl
    have hlen : len = rows.length := by
      cases hm : μ id0 with
      | none =>
        rcases c.hr.own _ _ hh with ⟨-, rfl⟩ | ⟨b1, c1, vs, tt, fr, m1, -⟩
        · rw [hm, slv] at hsl'; cases hsl'; rfl
        · rw [hm] at m1; cases m1
      | some bc => obtain ⟨b, cc⟩ := bc; rw [hm, slv] at hsl'; cases hsl'; rfl
    subst hlen
    exact ⟨rfl, _, hrun _ _ ex (hsl _ _ _ (by simp [hst])), .pv _ _ (.int _ _)⟩
  · cases hr
end
end AI
end

section
namespace AI
open Go

section
variable {P : Program} {glob : Nat → Row} {G : Ghost} {w : World} {h : HF} {μ : Loc}
variable {t : List LV} {a : Array Value} {o : Oper} {S : SFn} {hl : List Blk} {res : OpR}

theorem lit_inv {x : LV} {n : Nat} {v : Value} (r : RV G w h μ x v) (e : lit? x = some n) : ∃ k, v = .int k (n : Int) := by
  unfold lit? at e
  split at e <;> cases e
  exact ⟨_, r.pv_inv.int_inv⟩

theorem r_indexAtP {ty e n sz : Nat} (h1 : tarr P ty = some (n, e)) (h2 : tsize P e = some sz) {b off : Nat} {k : IntKind} {i : Int} (hi : 0 ≤ i) (hn : i < n) :
    (Instr.indexAt ty (.pointer (some ⟨b, off, none⟩)) (.int k i)).run P w = .ok (.pointer (some ⟨b, off + i.toNat * sz, none⟩)) w := by
  unfold tarr at h1
  split at h1 <;> cases h1
  rename_i hu
  simp only [Instr.indexAt, Sem.run_bind, asIntOf_int, Result.andThen_ok, r_underlying w hu, Sem.run_pure, Instr.sureAddr]
  have hc : 0 ≤ i ∧ i < (n : Int) := ⟨hi, hn⟩
  simp [hc, r_sizeOf w h2]

theorem pidxOk_inv {p : PV} {n : Nat} (h : (prims glob).pidxOk p n = true) : ∃ k i, p = .int k i ∧ 0 ≤ i ∧ i < n := by
  simp only [prims] at h
  split at h
  · simp at h; exact ⟨_, _, rfl, h.1, h.2⟩
  · cases h

theorem o_idxP (c : Ctx P glob G w h μ t a) {ty : TypeId} {x i : Operand} {y j : RO} {d sz n e : Nat} (hop : o.op = .indexAddr ty x i) (e1 : ckRO x y = true) (e2 : ckRO i j = true)
    (h1 : tarr P ty = some (n, e)) (h2 : tsize P e = some sz)
    (hr : opRun (prims glob) S (.idxP d sz n y j) t hl = some (.ok res)) (hk : res.oks.all id = true) : res.heap = hl ∧ Val P G w h μ a o res.v := by
  have fin : ∀ {b off : Nat} {k : IntKind} {i' : Int} (z : LV), ev a x = .pointer (some ⟨b, off, none⟩) → ev a i = .int k i' → 0 ≤ i' → i' < n →
      RV G w h μ z (.pointer (some ⟨b, off + i'.toNat * sz, none⟩)) → Val P G w h μ a o z := by
    intro b off k i' z ex ei h0 hn hz
    exact ⟨_, by simp only [execOp, hop, ex, ei, Sem.run_bind, r_indexAtP h1 h2 h0 hn, Result.andThen_ok, Sem.run_pure], hz⟩
  simp only [opRun] at hr
  split at hr
  · rename_i id off k1 hs
    split at hr <;> try cases hr
    rename_i m hm
    split at hr <;> cases hr
    rename_i hlt
    simp only [List.all_append, Bool.and_eq_true] at hk
    obtain ⟨b, ex, hd, hv⟩ := (sv_rv' c.tr c.gr e1 hs hk.1).ptr_inv
    obtain ⟨kk, ei⟩ := lit_inv (sv_rv c.tr c.gr e2 hk.2) hm
    exact ⟨rfl, fin _ ex ei (by omega) (by omega) (by simpa using .ptr id _ b hd hv)⟩
  · rename_i r off k1 hs
    split at hr <;> cases hr
    rename_i q k2 hp
    simp only [List.all_append, Bool.and_eq_true, List.all_cons, List.all_nil, id, and_true] at hk
    obtain ⟨⟨hk1, hk2⟩, hk3⟩ := hk
    obtain ⟨b, base, vs, ex, m1, m2⟩ := (sv_rv' c.tr c.gr e1 hs hk1).fp_inv
    have hi := (sv_rv' c.tr c.gr e2 (pvOf_some hp) hk2).pv_inv
    obtain ⟨k, i', rfl, h0, hn⟩ := pidxOk_inv hk3
    refine ⟨rfl, fin _ ex hi.int_inv h0 hn ?_⟩
    have := RV.fp (G := G) (w := w) (h := h) (μ := μ) r (off + i'.toNat * sz) b base vs m1 m2
    simpa [prims, pNat, Nat.add_assoc] using this
  · cases hr

theorem bstr_get (s : List UInt8) (n : Nat) : (bstr s)[n]? = s[n]? := by
  by_cases h : n < s.length
  · have h' : n < (bstr s).size := by rw [bstr_size]; exact h
    rw [List.getElem?_eq_getElem h, getElem?_pos (bstr s) n h']
    rfl
  · have h' : ¬ n < (bstr s).size := by rw [bstr_size]; exact h
    rw [List.getElem?_eq_none (Nat.le_of_not_lt h), getElem?_neg (bstr s) n h']

theorem o_idx (c : Ctx P glob G w h μ t a) {ty : TypeId} {x i : Operand} {y j : RO} {d : Nat} (hop : o.op = .index ty x i) (e1 : ckRO x y = true) (e2 : ckRO i j = true)
    (h1 : isStr P ty = true)
    (hr : opRun (prims glob) S (.idx d y j) t hl = some (.ok res)) (hk : res.oks.all id = true) : res.heap = hl ∧ Val P G w h μ a o res.v := by
  simp only [opRun] at hr
  split at hr <;> cases hr
  rename_i p k1 q k2 hs hp
  simp only [List.all_append, Bool.and_eq_true, List.all_cons, List.all_nil, id, and_true] at hk
  obtain ⟨⟨hk1, hk2⟩, hk3⟩ := hk
  have hx := (sv_rv' c.tr c.gr e1 hs hk1).pv_inv
  have hi := (sv_rv' c.tr c.gr e2 hp hk2).pv_inv
  simp only [prims] at hk3
  split at hk3
  · rename_i s k n
    simp only [Bool.and_eq_true, decide_eq_true_eq] at hk3
    obtain ⟨h0, hn⟩ := hk3
    have hlt : n.toNat < s.length := by omega
    have hg : (bstr s)[n.toNat]? = some s[n.toNat] := by rw [bstr_get]; exact List.getElem?_eq_getElem hlt
    unfold isStr at h1
    split at h1 <;> try cases h1
    rename_i hu
    refine ⟨rfl, .int .u8 (s[n.toNat]).toNat, ?_, .pv _ _ ?_⟩
    · simp only [execOp, hop, hx.str_inv, hi.int_inv, Instr.index, Sem.run_bind, asIntOf_int, Result.andThen_ok, r_underlying w hu, h0, if_true, hg, Sem.run_pure]
    · have : (prims glob).sidx (.str s) (.int k n) = .int .u8 (s[n.toNat]).toNat := by simp [prims, pNat, List.getD, hlt]
      rw [this]; exact .int _ _
  · cases hk3

theorem r_indexArr {ty e n sz : Nat} (h1 : tarr P ty = some (n, e)) (h2 : tsize P e = some sz) (h3 : tagg P e = some false) {cs : Array Value} {k : IntKind} {i : Int} (hi : 0 ≤ i) (hn : i < n) (hs : sz = 1) {v : Value} (hv : cs[i.toNat]? = some v) :
    (Instr.index ty (.agg cs) (.int k i)).run P w = .ok v w := by
  subst hs
  unfold tarr at h1
  split at h1 <;> cases h1
  rename_i hu
  simp only [Instr.index, Sem.run_bind, asIntOf_int, Result.andThen_ok, r_underlying w hu]
  have hc : 0 ≤ i ∧ i < (n : Int) := ⟨hi, hn⟩
  simp only [hc, and_self, if_true, Sem.run_bind, r_sizeOf w h2, Result.andThen_ok, Nat.mul_one, part, r_isAgg w h3, Bool.false_eq_true, if_false, hv, Sem.run_pure]

theorem o_idxV (c : Ctx P glob G w h μ t a) {ty : TypeId} {x i : Operand} {y j : RO} {d sz n e : Nat} (hop : o.op = .index ty x i) (e1 : ckRO x y = true) (e2 : ckRO i j = true)
    (h1 : tarr P ty = some (n, e)) (h2 : tsize P e = some sz) (h3 : tagg P e = some false)
    (hr : opRun (prims glob) S (.idxV d sz n y j) t hl = some (.ok res)) (hk : res.oks.all id = true) : res.heap = hl ∧ Val P G w h μ a o res.v := by
  simp only [opRun] at hr
  split at hr
  · split at hr <;> cases hr
    rename_i r k1 p k2 hs hp hsz
    simp only [List.all_append, Bool.and_eq_true, List.all_cons, List.all_nil, id, and_true] at hk
    obtain ⟨⟨hk1, hk2⟩, hk3, hk4⟩ := hk
    obtain ⟨cs, ex, hl', hrr⟩ := (sv_rv' c.tr c.gr e1 hs hk1).prow_inv
    have hi := (sv_rv' c.tr c.gr e2 hp hk2).pv_inv
    obtain ⟨k, i', rfl, h0, hn⟩ := pidxOk_inv hk3
    have hlen : r.length = n := by simpa [prims] using hk4
    have hlt : i'.toNat < cs.size := by omega
    have hc : cs[i'.toNat]? = some cs[i'.toNat] := Array.getElem?_eq_getElem hlt
    have hrw : r[i'.toNat]? = some (r[i'.toNat]'(by omega)) := List.getElem?_eq_getElem _
    refine ⟨rfl, _, (by simp only [execOp, hop, ex, hi.int_inv, Sem.run_bind, r_indexArr h1 h2 h3 h0 hn hsz hc, Result.andThen_ok, Sem.run_pure]; rfl), .pv _ _ ?_⟩
    have : (prims glob).cell r ((prims glob).pidx r 0 (.int k i') 1) = r[i'.toNat]'(by omega) := by simp [prims, pNat, List.getD, hrw]
    rw [this]
    exact hrr _ _ _ hrw hc
  · rename_i l k1 i0 k2 hs hp
    split at hr <;> try cases hr
    rename_i m hm
    split at hr <;> cases hr
    rename_i hcond
    simp only [Bool.and_eq_true, decide_eq_true_eq, beq_iff_eq] at hcond
    obtain ⟨⟨hlt, hlen⟩, hsz⟩ := hcond
    simp only [List.all_append, Bool.and_eq_true] at hk
    obtain ⟨cs, ex, hl', hrr, -⟩ := (sv_rv' c.tr c.gr e1 hs hk.1).row_inv
    obtain ⟨kk, ei⟩ := lit_inv (sv_rv' c.tr c.gr e2 hp hk.2) hm
    have hlt' : m < cs.size := by rw [← hl', hlen, hsz]; omega
    have hc : cs[m]? = some cs[m] := Array.getElem?_eq_getElem hlt'
    have hrw : l[m]? = some (l[m]'(by omega)) := List.getElem?_eq_getElem _
    refine ⟨rfl, cs[m], ?_, ?_⟩
    · simp only [execOp, hop, ex, ei, Sem.run_bind, r_indexArr h1 h2 h3 (k := kk) (i := (m : Int)) (by omega) (by omega) hsz (v := cs[m]) (cs := cs) (by rw [Int.toNat_natCast]; exact hc), Result.andThen_ok, Sem.run_pure]
    · simpa [List.getD, hrw] using hrr _ _ _ hrw hc
  · cases hr

theorem pvOf?_some {x : Option RO} {p : Option PV} {k : List Bool} (h : pvOf? (prims glob) t x = some (p, k)) :
    (x = none ∧ p = none ∧ k = []) ∨ ∃ y q, x = some y ∧ p = some q ∧ pvOf (prims glob) t y = some (q, k) := by
  unfold pvOf? at h
  split at h
  · cases h; exact .inl ⟨rfl, rfl, rfl⟩
  · split at h <;> cases h
    rename_i y p' k' e
    exact .inr ⟨_, _, rfl, rfl, e⟩

/-- The bounds of a cut. -/
theorem r_bound {x : Option Operand} {y : Option RO} {p : Option PV} {k : List Bool} (c : Ctx P glob G w h μ t a) (e : ckRO? x y = true) (hs : pvOf? (prims glob) t y = some (p, k)) (hk : k.all id = true) {m : Nat} (hb : boundOk m p = true) :
    (x = none ∧ p = none) ∨ ∃ z kk n, x = some z ∧ p = some (.int kk n) ∧ ev a z = .int kk n ∧ 0 ≤ n ∧ n ≤ m := by
  rcases pvOf?_some hs with ⟨rfl, rfl, rfl⟩ | ⟨y, q, rfl, rfl, hp⟩
  · cases x with
    | none => exact .inl ⟨rfl, rfl⟩
    | some z => simp [ckRO?] at e
  · cases x with
    | none => simp [ckRO?] at e
    | some z =>
      have hz := (sv_rv' c.tr c.gr e (pvOf_some hp) hk).pv_inv
      cases q <;> simp [boundOk] at hb
      exact .inr ⟨z, _, _, rfl, rfl, hz.int_inv, hb.1, hb.2⟩

theorem r_sliceBound {k : IntKind} {n : Int} {m : Nat} {cd : BoundsCode} (h0 : 0 ≤ n) (h1 : n ≤ m) : (Instr.sliceBound (.int k n) m cd).run P w = .ok n.toNat w := by
  simp [Instr.sliceBound, asIntOf_int, h0, h1]

/-- Both bounds of a cut without a capacity. -/
theorem r_sliceBounds {b : Bool} {lo hi : Option Operand} {lo' hi' : Option RO} {pl ph : Option PV} {k1 k2 : List Bool} (c : Ctx P glob G w h μ t a) (e1 : ckRO? lo lo' = true) (e2 : ckRO? hi hi' = true)
    (h1 : pvOf? (prims glob) t lo' = some (pl, k1)) (h2 : pvOf? (prims glob) t hi' = some (ph, k2)) (hk1 : k1.all id = true) (hk2 : k2.all id = true) {len cap : Nat} (hcap : len ≤ cap)
    (hb2 : boundOk len ph = true) (hb1 : boundOk (cutAt len ph) pl = true) :
    (Instr.sliceBounds b len cap (lo.map (ev a)) (hi.map (ev a)) none).run P w = .ok (cutAt 0 pl, cutAt len ph, cap) w ∧ cutAt 0 pl ≤ cutAt len ph ∧ cutAt len ph ≤ len := by
  rcases r_bound c e2 h2 hk2 hb2 with ⟨rfl, rfl⟩ | ⟨z, kk, n, rfl, rfl, ez, z0, z1⟩
  · rcases r_bound c e1 h1 hk1 hb1 with ⟨rfl, rfl⟩ | ⟨y, kk, n, rfl, rfl, ey, y0, y1⟩
    · exact ⟨by simp [Instr.sliceBounds, cutAt], by simp [cutAt], by simp [cutAt]⟩
    · simp only [cutAt] at y1
      refine ⟨?_, by simp [cutAt, pNat]; omega, by simp [cutAt]⟩
      simp [Instr.sliceBounds, cutAt, ey, r_sliceBound y0 y1, pNat]
  · have z2 : n ≤ cap := by omega
    rcases r_bound c e1 h1 hk1 hb1 with ⟨rfl, rfl⟩ | ⟨y, kk', n', rfl, rfl, ey, y0, y1⟩
    · refine ⟨?_, by simp [cutAt], by simp [cutAt, pNat]; omega⟩
      simp [Instr.sliceBounds, cutAt, ez, r_sliceBound z0 z2, pNat]
    · simp only [cutAt, pNat] at y1
      refine ⟨?_, by simp [cutAt, pNat]; omega, by simp [cutAt, pNat]; omega⟩
      simp [Instr.sliceBounds, cutAt, ez, ey, r_sliceBound z0 z2, r_sliceBound y0 y1, pNat]

theorem r_sliceBounds3 {lo hi : Option Operand} {m : Operand} {lo' hi' : Option RO} {pl ph : Option PV} {k1 k2 : List Bool} (c : Ctx P glob G w h μ t a) (e1 : ckRO? lo lo' = true) (e2 : ckRO? hi hi' = true) (e3 : ckRO? (some m) hi' = true)
    (h1 : pvOf? (prims glob) t lo' = some (pl, k1)) (h2 : pvOf? (prims glob) t hi' = some (ph, k2)) (hk1 : k1.all id = true) (hk2 : k2.all id = true) {len cap : Nat} (hcap : len ≤ cap)
    (hb2 : boundOk len ph = true) (hb1 : boundOk (cutAt len ph) pl = true) :
    (Instr.sliceBounds true len cap (lo.map (ev a)) (hi.map (ev a)) (some (ev a m))).run P w = .ok (cutAt 0 pl, cutAt len ph, cutAt len ph) w ∧ cutAt 0 pl ≤ cutAt len ph ∧ cutAt len ph ≤ len := by
  rcases r_bound c e3 h2 hk2 hb2 with ⟨hn, -⟩ | ⟨z', kk2, n2, hz', rfl, ez', z0', z1'⟩
  · cases hn
  cases hz'
  rcases r_bound c e2 h2 hk2 hb2 with ⟨rfl, hn⟩ | ⟨z, kk, n, rfl, hq, ez, z0, z1⟩
  · cases hn
  cases hq
  have z2 : n2 ≤ cap := by omega
  have z3 : n2 ≤ (n2.toNat : Int) := by omega
  rcases r_bound c e1 h1 hk1 hb1 with ⟨rfl, rfl⟩ | ⟨y, kk', n', rfl, rfl, ey, y0, y1⟩
  · refine ⟨?_, by simp [cutAt], by simp [cutAt, pNat]; omega⟩
    simp [Instr.sliceBounds, cutAt, ez, ez', r_sliceBound z0 z2, r_sliceBound z0 z3, pNat]
  · simp only [cutAt, pNat] at y1
    refine ⟨?_, by simp [cutAt, pNat]; omega, by simp [cutAt, pNat]; omega⟩
    simp [Instr.sliceBounds, cutAt, ez, ez', ey, r_sliceBound z0 z2, r_sliceBound z0 z3, r_sliceBound y0 y1, pNat]

theorem rowsWide_spec {sz : Nat} {rows : Rows} (h : rowsWide sz rows = true) (i : Nat) (row : Row) (hr : rows[i]? = some row) : row.length = sz := by
  unfold rowsWide at h
  have := List.all_eq_true.1 h row (List.mem_of_getElem? hr)
  simpa using this

theorem cut_get {rows : Rows} {l n i : Nat} {row : Row} (h : ((rows.take n).drop l)[i]? = some row) : rows[l + i]? = some row := by
  rw [List.getElem?_drop, List.getElem?_take] at h
  split at h
  · exact h
  · cases h

/-- A cut of a list. -/
theorem cut_rv {rows : Rows} {ad : Option Addr} {c sz l n m : Nat} (hx : RP G w (.list rows) (.slice ad rows.length c)) (hw : ∀ (i : Nat) (row : Row), rows[i]? = some row → row.length = sz) (h1 : l ≤ n) (h2 : n ≤ rows.length) (h3 : n ≤ m) :
    RP G w (.list ((rows.take n).drop l)) (.slice (if m = l then ad else ad.map (·.add (l * sz))) (n - l) (m - l)) := by
  obtain ⟨a', c', e, hc, hh⟩ := hx.list_inv
  cases e
  have hlen : ((rows.take n).drop l).length = n - l := by simp; omega
  rcases hh with ⟨rfl, hs⟩ | ⟨b, off, sz', vs, rfl, m1, m2, m3⟩
  · simp at h2; subst h2
    obtain rfl : l = 0 := by omega
    simp only [List.take_nil, List.drop_nil, Nat.sub_self]
    refine .list0 _ _ (fun x hx => ?_)
    split at hx
    · exact hs x hx
    · cases ad with
      | none => cases hx
      | some y => simp [Addr.add] at hx; subst hx; exact hs y rfl
  · by_cases hn : n - l = 0
    · have : (rows.take n).drop l = [] := List.eq_nil_of_length_eq_zero (by omega)
      rw [this, hn]
      refine .list0 _ _ (fun x hx => ?_)
      split at hx <;> (simp at hx; subst hx; rfl)
    · have hml : m ≠ l := by omega
      rw [if_neg hml]
      have hs : sz' = sz := by
        have h0 : rows[0]? = some (rows[0]'(by omega)) := List.getElem?_eq_getElem _
        rw [← m1 _ _ h0, hw _ _ h0]
      subst hs
      have key := RP.list (G := G) (w := w) ((rows.take n).drop l) b (off + l * sz') (m - l) sz' (fun i => vs (l + i)) (by omega) (fun i row hr => m1 _ _ (cut_get hr))
        (fun i row j p hr hp => by
          have := m2 _ _ j p (cut_get hr) hp
          rw [show off + l * sz' + i * sz' + j = off + (l + i) * sz' + j by rw [Nat.add_mul]; omega]
          exact this)
        (fun i row j p hr hp => m3 _ _ j p (cut_get hr) hp)
      rw [hlen] at key
      simpa using key

theorem r_sliceAt_list {ty e sz : Nat} (h1 : telem P ty = some e) (h2 : tsize P e = some sz) {ad : Option Addr} {len cap l n m : Nat} {lo hi mx : Option Value} (hb : (Instr.sliceBounds true len cap lo hi mx).run P w = .ok (l, n, m) w) :
    (Instr.sliceAt ty (.slice ad len cap) lo hi mx).run P w = .ok (.slice (if m = l then ad else ad.map (·.add (l * sz))) (n - l) (m - l)) w := by
  unfold telem at h1
  split at h1 <;> cases h1
  rename_i hu
  simp only [Instr.sliceAt, Instr.slice, Sem.run_bind, r_underlying w hu, Result.andThen_ok, hb, r_sizeOf w h2, Sem.run_pure]

theorem r_sliceAt_str {ty : Nat} (h1 : isStr P ty = true) {s : ByteArray} {l n m : Nat} {lo hi : Option Value} (hb : (Instr.sliceBounds false s.size s.size lo hi none).run P w = .ok (l, n, m) w) :
    (Instr.sliceAt ty (.string s) lo hi none).run P w = .ok (.string (s.extract l n)) w := by
  unfold isStr at h1
  split at h1 <;> try cases h1
  rename_i hu
  simp [Instr.sliceAt, Instr.slice, r_underlying w hu, hb]

theorem bstr_extract (s : List UInt8) (l n : Nat) : (bstr s).extract l n = bstr ((s.take n).drop l) := by
  apply ByteArray.ext
  rw [ByteArray.data_extract]
  simp [bstr, List.drop_take]

/-- A cut of what never changes (and of nothing): the world stays. -/
theorem o_sub (c : Ctx P glob G w h μ t a) {ty : TypeId} {x : Operand} {lo hi : Option Operand} {y : RO} {lo' hi' : Option RO} {d sz : Nat} {str : Bool} (hop : o.op = .slice ty x lo hi none) (e1 : ckRO x y = true) (e2 : ckRO? lo lo' = true) (e3 : ckRO? hi hi' = true)
    (ht : (if str then isStr P ty else (match telem P ty with | some e => tsize P e == some sz | none => false)) = true)
    (hr : opRun (prims glob) S (.sub d str sz y lo' hi') t hl = some (.ok res)) (hk : res.oks.all id = true)
    (hn : ∀ id ver k, sv (prims glob) t y = (.ref id ver, k) → lo' = none ∧ hi' = none) : res.heap = hl ∧ Val P G w h μ a o res.v := by
  simp only [opRun] at hr
  split at hr
  · cases hr
    rename_i p k pl k1 ph k2 hs hp1 hp2
    simp only [List.all_append, Bool.and_eq_true, List.all_cons, List.all_nil, id, and_true] at hk
    obtain ⟨⟨⟨hk0, hk1⟩, hk2⟩, hk3, hk4⟩ := hk
    have hx := (sv_rv' c.tr c.gr e1 hs hk0).pv_inv
    refine ⟨rfl, ?_⟩
    have hk3' : pCutOk str p pl ph = true := hk3
    unfold pCutOk at hk3'
    split at hk3'
    · rename_i s
      simp only [Bool.and_eq_true] at hk3'
      obtain ⟨⟨rfl, hb2⟩, hb1⟩ := hk3'
      rw [if_pos rfl] at ht
      have hsz : (bstr s).size = s.length := bstr_size s
      obtain ⟨hb, -, -⟩ := r_sliceBounds (b := false) (len := s.length) (cap := s.length) c e2 e3 hp1 hp2 hk1 hk2 (Nat.le_refl _) hb2 hb1
      rw [← hsz] at hb
      refine ⟨_, by simp only [execOp, hop, hx.str_inv, Option.map_none, Sem.run_bind, r_sliceAt_str ht hb, Result.andThen_ok, Sem.run_pure]; rfl, .pv _ _ ?_⟩
      rw [bstr_extract, hsz]
      exact .str _
    · rename_i rows
      simp only [Bool.and_eq_true, Bool.not_eq_true'] at hk3'
      obtain ⟨⟨rfl, hb2⟩, hb1⟩ := hk3'
      rw [if_neg (by simp)] at ht
      cases hte : telem P ty with
      | none => simp [hte] at ht
      | some e =>
        simp only [hte, beq_iff_eq] at ht
        obtain ⟨ad, cc, ex, hc, -⟩ := hx.list_inv
        obtain ⟨hb, hle1, hle2⟩ := r_sliceBounds (b := true) c e2 e3 hp1 hp2 hk1 hk2 hc hb2 hb1
        have hw : rowsWide sz rows = true := by simpa [prims] using hk4
        refine ⟨_, by simp only [execOp, hop, ex, Option.map_none, Sem.run_bind, r_sliceAt_list hte ht hb, Result.andThen_ok, Sem.run_pure]; rfl, .pv _ _ ?_⟩
        rw [ex] at hx
        exact cut_rv hx (rowsWide_spec hw) hle1 hle2 (by omega)
    · cases hk3'
  · split at hr
    · cases hr
    · rename_i id0 ver k pl k1 ph k2 hs hp1 hp2 hst
      obtain ⟨rfl, rfl⟩ := hn _ _ _ hs
      simp only [pvOf?] at hp1 hp2
      cases hp1; cases hp2
      cases hr
      have hx := sv_rv' c.tr c.gr e1 hs hk
      obtain ⟨ad, n, cc, ex, hd, hv⟩ := hx.ref_inv
      cases lo <;> simp [ckRO?] at e2
      cases hi <;> simp [ckRO?] at e3
      rw [if_neg hst] at ht
      cases hte : telem P ty with
      | none => simp [hte] at ht
      | some e =>
        simp only [hte, beq_iff_eq] at ht
        have hb : (Instr.sliceBounds true n cc none none none).run P w = .ok (0, n, cc) w := by simp [Instr.sliceBounds]
        refine ⟨rfl, _, by simp only [execOp, hop, ex, Option.map_none, Sem.run_bind, r_sliceAt_list hte ht hb, Result.andThen_ok, Sem.run_pure]; rfl, ?_⟩
        have : (if cc = 0 then ad else Option.map (fun x => x.add (0 * sz)) ad) = ad := by
          split
          · rfl
          · cases ad <;> simp [Addr.add]
        rw [this, Nat.sub_zero, Nat.sub_zero, ← ex]
        exact hx
  · cases hr

theorem o_subF (c : Ctx P glob G w h μ t a) {ty : TypeId} {x m : Operand} {lo hi : Option Operand} {y : RO} {lo' hi' : Option RO} {d sz e : Nat} (hop : o.op = .slice ty x lo hi (some m)) (e1 : ckRO x y = true) (e2 : ckRO? lo lo' = true) (e3 : ckRO? hi hi' = true) (e4 : ckRO? (some m) hi' = true)
    (h1 : telem P ty = some e) (h2 : tsize P e = some sz)
    (hr : opRun (prims glob) S (.subF d sz y lo' hi') t hl = some (.ok res)) (hk : res.oks.all id = true) : res.heap = hl ∧ Val P G w h μ a o res.v := by
  simp only [opRun] at hr
  split at hr <;> cases hr
  rename_i p k pl k1 ph k2 hs hp1 hp2
  simp only [List.all_append, Bool.and_eq_true, List.all_cons, List.all_nil, id, and_true] at hk
  obtain ⟨⟨⟨hk0, hk1⟩, hk2⟩, hk3, hk4⟩ := hk
  have hx := (sv_rv' c.tr c.gr e1 hs hk0).pv_inv
  refine ⟨rfl, ?_⟩
  have hk3' : pCutOk false p pl ph = true := hk3
  unfold pCutOk at hk3'
  split at hk3'
  · simp at hk3'
  · rename_i rows
    simp only [Bool.and_eq_true, Bool.not_eq_true'] at hk3'
    obtain ⟨⟨-, hb2⟩, hb1⟩ := hk3'
    obtain ⟨ad, cc, ex, hc, -⟩ := hx.list_inv
    obtain ⟨hb, hle1, hle2⟩ := r_sliceBounds3 c e2 e3 e4 hp1 hp2 hk1 hk2 hc hb2 hb1
    have hw : rowsWide sz rows = true := by simpa [prims] using hk4
    refine ⟨_, by simp only [execOp, hop, ex, Option.map_some, Sem.run_bind, r_sliceAt_list h1 h2 hb, Result.andThen_ok, Sem.run_pure]; rfl, ?_⟩
    rw [ex] at hx
    have key := cut_rv hx (rowsWide_spec hw) hle1 hle2 (Nat.le_refl _)
    have hlen : ((rows.take (cutAt rows.length ph)).drop (cutAt 0 pl)).length = cutAt rows.length ph - cutAt 0 pl := by simp; omega
    have := RV.full (G := G) (w := w) (h := h) (μ := μ) ((rows.take (cutAt rows.length ph)).drop (cutAt 0 pl)) _ (by rw [hlen]; exact key)
    rw [hlen] at this
    exact this
  · cases hk3'
end
end AI
end

section
namespace AI
open Go

structure Rel2 (G : Ghost) (w : World) (h : HF) (μ : Loc) (zs : List LV) (cs : Array Value) : Prop where
  size : zs.length = cs.size
  rel : ∀ (j : Nat) (x : LV) (c : Value), zs[j]? = some x → cs[j]? = some c → RV G w h μ x c ∧ one c = true

def spliceA (cur : Array Value) (off : Nat) : List Value → Array Value
  | [] => cur
  | v :: l => spliceA (cur.setIfInBounds off v) (off + 1) l

theorem spliceA_size : ∀ (vs : List Value) (off : Nat) (cur : Array Value), (spliceA cur off vs).size = cur.size
  | [], _, _ => rfl
  | v :: l, off, cur => by rw [spliceA, spliceA_size l]; simp

theorem splice_length : ∀ (l : List LV) (off : Nat) (z : List LV), (splice z off l).length = z.length
  | [], _, _ => rfl
  | x :: l, off, z => by rw [splice, splice_length l]; simp

theorem spliceA_fill (off : Nat) : ∀ (vs : List Value) (k : Nat) (cur : Array Value), (vs.zipIdx k).foldl (fun cs (c, j) => cs.setIfInBounds (off + j) c) cur = spliceA cur (off + k) vs
  | [], _, _ => rfl
  | v :: l, k, cur => by rw [List.zipIdx_cons, List.foldl_cons, spliceA_fill off l (k + 1)]; rfl

section
variable {P : Program} {glob : Nat → Row} {G : Ghost} {w : World} {h : HF} {μ : Loc}
variable {t : List LV} {a : Array Value} {o : Oper} {S : SFn} {hl : List Blk} {res : OpR}

theorem Rel2.set {zs : List LV} {cs : Array Value} (r : Rel2 G w h μ zs cs) {x : LV} {v : Value} (hx : RV G w h μ x v) (h1 : one v = true) (i : Nat) : Rel2 G w h μ (zs.set i x) (cs.setIfInBounds i v) where
  size := by simp [r.size]
  rel j y c hy hc := by
    rw [List.getElem?_set] at hy
    rw [Array.getElem?_setIfInBounds] at hc
    by_cases hij : i = j
    · subst hij
      simp only [if_true] at hy hc
      split at hy <;> split at hc <;> simp_all
    · simp only [hij, if_false] at hy hc
      exact r.rel j y c hy hc

theorem Rel2.splice : ∀ {l : List LV} {vs : List Value} {zs : List LV} {cs : Array Value} {off : Nat}, Rel2 G w h μ zs cs → l.length = vs.length →
    (∀ (j : Nat) (x : LV) (c : Value), l[j]? = some x → vs[j]? = some c → RV G w h μ x c ∧ one c = true) → Rel2 G w h μ (splice zs off l) (spliceA cs off vs)
  | [], [], _, _, _, r, _, _ => r
  | x :: l, v :: vs, zs, cs, off, r, hl, hr => by
    rw [AI.splice, spliceA]
    have h0 := hr 0 x v rfl rfl
    exact Rel2.splice (r.set h0.1 h0.2 off) (by simpa using hl) (fun j y c hy hc => hr (j + 1) y c (by simpa using hy) (by simpa using hc))
  | [], _ :: _, _, _, _, _, hl, _ => by simp at hl
  | _ :: _, [], _, _, _, _, hl, _ => by simp at hl

theorem zero_rel {ty : TypeId} {z : List LV} (e : tzero P ty z = true) : ∃ i v, P.info? ty = some i ∧ i.zero = some v ∧ i.size = v.cells.size ∧ Rel2 G w h μ z v.cells := by
  unfold tzero at e
  split at e <;> try cases e
  rename_i i hi
  split at e <;> try cases e
  rename_i v hv
  simp only [Bool.and_eq_true, beq_iff_eq] at e
  obtain ⟨h1, h2⟩ := eqCs_get e.2
  refine ⟨i, v, hi, hv, e.1, by simpa using h1.symm, fun j x c hx hc => ?_⟩
  have := h2 j c x (by simpa using hc) hx
  exact ⟨eqC1_rv this, eqC1_one this⟩

theorem places_get : ∀ {fs : List Field} {places : List (Nat × Nat)}, fs.mapM (fun f => (P.info? f.type).map fun i => (f.offset, i.size)) = some places →
    ∀ (i : Nat) (f : Field), fs[i]? = some f → ∃ ti, P.info? f.type = some ti ∧ places[i]? = some (f.offset, ti.size)
  | [], _, _, i, f, hf => by simp at hf
  | f0 :: fs, places, hm, i, f, hf => by
    simp only [List.mapM_cons, Option.bind_eq_bind, Option.pure_def] at hm
    cases hi : P.info? f0.type with
    | none => simp [hi] at hm
    | some i0 =>
      cases hr : fs.mapM (fun f => (P.info? f.type).map fun i => (f.offset, i.size)) with
      | none => simp [hi, hr] at hm
      | some rest =>
        simp [hi, hr] at hm
        subst hm
        cases i with
        | zero => simp at hf; subst hf; exact ⟨i0, hi, rfl⟩
        | succ i => simp at hf; simpa using places_get hr i f hf

theorem sizeOf_info {e n : Nat} {i : TypeInfo} (h : tsize P e = some n) (hi : P.info? e = some i) : i.size = n := by
  simp [tsize, hi] at h; exact h

/-- The parts of a row are laid. -/
theorem fill_rv (c : Ctx P glob G w h μ t a) {place : Nat → Option (Nat × Nat)} : ∀ {ps : List (Nat × Operand)} {qs : List (Nat × Nat × RO)} {zs : List LV} {cells : Array Value} {cs : List LV} {ks : List Bool} {ty : TypeId},
    ckParts P ty ps qs = true → (∀ (i off n : Nat), (match tarr P ty with | some (_, e) => tsize P e == some n && off == i * n | none => match tfield P ty i with | some (o, e) => tsize P e == some n && off == o | none => false) = true → place i = some (off, n)) →
    Rel2 G w h μ zs cells → (qs.all fun q => decide (q.1 + q.2.1 ≤ zs.length)) = true → buildParts (prims glob) t zs qs = some (cs, ks) → ks.all id = true →
    ∃ cells', Instr.fill place cells (ps.map fun (i, x) => (i, ev a x)) = some cells' ∧ Rel2 G w h μ cs cells'
  | [], [], zs, cells, cs, ks, ty, _, _, r, _, hb, _ => by
    simp [buildParts] at hb; obtain ⟨rfl, rfl⟩ := hb
    exact ⟨cells, rfl, r⟩
  | (i, x) :: ps, (off, n, y) :: qs, zs, cells, cs, ks, ty, hck, hpl, r, hq, hb, hk => by
    simp only [ckParts, Bool.and_eq_true] at hck
    obtain ⟨⟨e1, e2⟩, e3⟩ := hck
    have hp := hpl i off n e2
    simp only [buildParts] at hb
    split at hb <;> try cases hb
    rename_i c0 hc0
    split at hb <;> cases hb
    rename_i rr ks' hrec
    simp only [List.all_append, Bool.and_eq_true] at hk
    simp only [List.all_cons, Bool.and_eq_true, decide_eq_true_eq] at hq
    obtain ⟨s1, s2, s3⟩ := cellsOf_rv (sv_rv c.tr c.gr e1 hk.1.1) hc0 hk.1.2
    have hfit : ¬ (off + n > cells.size) := by have := r.size; omega
    have r' : Rel2 G w h μ (AI.splice zs off c0) (spliceA cells off (ev a x).cells.toList) :=
      r.splice (by rw [s2, Array.length_toList, s1]) (fun j y c hy hc => s3 j y c hy (by simpa using hc))
    obtain ⟨cells', f1, f2⟩ := fill_rv c e3 hpl r' (by rw [splice_length]; exact hq.2) hrec hk.2
    refine ⟨cells', ?_, f2⟩
    rw [← f1]
    have hz : (ev a x).cells.zipIdx.foldl (fun cs (c, j) => cs.setIfInBounds (off + j) c) cells = spliceA cells off (ev a x).cells.toList := by
      have := spliceA_fill off (ev a x).cells.toList 0 cells
      rw [Nat.add_zero] at this
      rw [← this, ← Array.foldl_toList]
      simp
    simp only [List.map_cons, Instr.fill, hp, s1, ne_eq, not_true_eq_false, decide_false, Bool.false_or, hfit, Bool.false_eq_true, if_false, hz]
  | [], _ :: _, _, _, _, _, _, hck, _, _, _, _, _ => by simp [ckParts] at hck
  | _ :: _, [], _, _, _, _, _, hck, _, _, _, _, _ => by simp [ckParts] at hck

theorem o_build (c : Ctx P glob G w h μ t a) {ty : TypeId} {ps : Array (Nat × Operand)} {z : List LV} {qs : List (Nat × Nat × RO)} {d : Nat} (hop : o.op = .build ty ps)
    (e1 : tzero P ty z = true) (e2 : tplaces P ty = true) (e3 : ckParts P ty ps.toList qs = true) (e4 : (qs.all fun q => decide (q.1 + q.2.1 ≤ z.length)) = true)
    (hr : opRun (prims glob) S (.build d z qs) t hl = some (.ok res)) (hk : res.oks.all id = true) : res.heap = hl ∧ Val P G w h μ a o res.v := by
  simp only [opRun] at hr
  split at hr <;> cases hr
  rename_i cs ks hb
  refine ⟨rfl, ?_⟩
  obtain ⟨it, v, hi, hv, hsz, r0⟩ := zero_rel (G := G) (w := w) (h := h) (μ := μ) e1
  have key : ∃ cells', P.built ty (ps.map fun (i, x) => (i, ev a x)).toList = some cells' ∧ Rel2 G w h μ cs cells' := by
    have e2' := e2
    unfold tplaces at e2
    split at e2
    · rename_i n e hu
      obtain ⟨ie, hie⟩ := Option.isSome_iff_exists.1 e2
      have ha : tarr P ty = some (n, e) := by simp [tarr, hu]
      obtain ⟨cells', f1, f2⟩ := fill_rv c (place := fun i => some (i * ie.size, ie.size)) e3 (fun i off n h => by
        simp only [ha, Bool.and_eq_true, beq_iff_eq] at h
        rw [sizeOf_info h.1 hie, h.2]) r0 e4 hb hk
      refine ⟨cells', ?_, f2⟩
      simp only [Program.built, hi, hu, hv, hie, Array.toList_map]
      exact f1
    · rename_i fields hu
      obtain ⟨places, hp⟩ := Option.isSome_iff_exists.1 e2
      have ha : tarr P ty = none := by simp [tarr, hu]
      obtain ⟨cells', f1, f2⟩ := fill_rv c (place := fun i => places.toArray[i]?) e3 (fun i off n h => by
        simp only [ha] at h
        split at h
        · rename_i o' e' hf
          simp only [Bool.and_eq_true, beq_iff_eq] at h
          simp only [tfield, hu, Option.map_eq_some_iff] at hf
          obtain ⟨f, hf1, hf2⟩ := hf
          cases hf2
          obtain ⟨ti, k1, k2⟩ := places_get hp i f (by simpa using hf1)
          rw [sizeOf_info h.1 k1] at k2
          rw [h.2]; simpa using k2
        · cases h) r0 e4 hb hk
      refine ⟨cells', ?_, f2⟩
      simp only [Program.built, hi, hu, hv, hp, Array.toList_map]
      exact f1
    · cases e2
  obtain ⟨cells', k1, k2⟩ := key
  exact ⟨_, by simp only [execOp, hop, Sem.run_bind, run_build w ty _ _ k1, Result.andThen_ok, Sem.run_pure], mkAgg_rv k2.size k2.rel⟩

theorem okAll_get : ∀ {l : List RO} {i : Nat} {x : RO}, (okAll (prims glob) t l).all id = true → l[i]? = some x → (sv (prims glob) t x).2.all id = true
  | [], _, _, _, h => by simp at h
  | y :: l, i, x, hk, h => by
    simp only [okAll, List.all_append, Bool.and_eq_true] at hk
    cases i with
    | zero => simp at h; subst h; exact hk.1
    | succ i => simp at h; exact okAll_get hk.2 h

theorem ckROs_get : ∀ {xs : List Operand} {ys : List RO}, ckROs xs ys = true → xs.length = ys.length ∧ ∀ (i : Nat) (x : Operand) (y : RO), xs[i]? = some x → ys[i]? = some y → ckRO x y = true
  | [], [], _ => ⟨rfl, fun i x y h => by simp at h⟩
  | x :: xs, y :: ys, e => by
    simp only [ckROs, Bool.and_eq_true] at e
    obtain ⟨h1, h2⟩ := ckROs_get e.2
    refine ⟨by simp [h1], fun i x' y' hx hy => ?_⟩
    cases i with
    | zero => simp at hx hy; subst hx; subst hy; exact e.1
    | succ i => simp at hx hy; exact h2 i x' y' hx hy
  | [], _ :: _, e => by simp [ckROs] at e
  | _ :: _, [], e => by simp [ckROs] at e

theorem ros_rv (c : Ctx P glob G w h μ t a) {xs : List Operand} {ys : List RO} (e : ckROs xs ys = true) (hk : (okAll (prims glob) t ys).all id = true) (j : Nat) (z : LV) (v : Value)
    (hz : (ys.map fun o => (sv (prims glob) t o).1)[j]? = some z) (hv : (xs.map (ev a))[j]? = some v) : RV G w h μ z v := by
  obtain ⟨h1, h2⟩ := ckROs_get e
  simp only [List.getElem?_map, Option.map_eq_some_iff] at hz hv
  obtain ⟨y, hy, rfl⟩ := hz
  obtain ⟨x, hx, rfl⟩ := hv
  exact sv_rv c.tr c.gr (h2 j x y hx hy) (okAll_get hk hy)

theorem o_clo (c : Ctx P glob G w h μ t a) {f : Nat} {fs cs : Array Operand} {fs' cs' : List RO} {d : Nat} (hop : o.op = .makeFunc (.func f) fs cs) (e1 : ckROs fs.toList fs' = true) (e2 : ckROs cs.toList cs' = true)
    (hr : opRun (prims glob) S (.clo d f fs' cs') t hl = some (.ok res)) (hk : res.oks.all id = true) : res.heap = hl ∧ Val P G w h μ a o res.v := by
  simp only [opRun] at hr
  cases hr
  simp only [List.all_append, Bool.and_eq_true] at hk
  refine ⟨rfl, .func (.func f) (fs.map (ev a)) (cs.map (ev a)), by simp [execOp, hop, Instr.makeFunc], .clo _ _ _ _ _ ?_ ?_ (fun j z v hz hv => ?_) (fun j z v hz hv => ?_)⟩
  · simp [← (ckROs_get e1).1]
  · simp [← (ckROs_get e2).1]
  · exact ros_rv c e1 hk.1 j z v hz (by simpa using hv)
  · exact ros_rv c e2 hk.2 j z v hz (by simpa using hv)

theorem nilOp_inv {op : BinOp} {b : Bool} {v : LV} (e : nilOp op b = some v) : (op = .eql ∨ op = .neq) ∧ v = .pv (.bool (if op = .eql then b else !b)) := by
  unfold nilOp at e
  split at e <;> cases e <;> simp

theorem o_binNil (c : Ctx P glob G w h μ t a) {op : BinOp} {ty yt : TypeId} {x y : Operand} {x' y' : RO} {cls : Nat} (hop : o.op = .binOp op ty x y yt)
    (e1 : ckRO x x' = true) (e2 : ckRO y y' = true) (e4 : tcls P ty = cls)
    {p q : LV} {k1 k2 : List Bool} (hs1 : sv (prims glob) t x' = (p, k1)) (hs2 : sv (prims glob) t y' = (q, k2)) (hk1 : k1.all id = true) (hk2 : k2.all id = true)
    {b : Bool} {v : LV} (he : eqNil cls p q = some b) (hv : nilOp op b = some v) : Val P G w h μ a o v := by
  have hx := sv_rv' c.tr c.gr e1 hs1 hk1
  have hy := sv_rv' c.tr c.gr e2 hs2 hk2
  obtain ⟨ho, rfl⟩ := nilOp_inv hv
  unfold eqNil at he
  split at he <;> cases he
  · obtain ⟨d, hu, -, -, -, hd⟩ := tcls_spec e4 (by omega)
    obtain ⟨_, _, _, rfl⟩ := hd rfl
    exact ⟨_, v_eq hop hx.nilf_inv hy.nilf_inv ho (guard_none (by simp) (by simp)) (by simp) (r_equalFn0 hu), .pv _ _ (.bool _)⟩
  · obtain ⟨d, hu, -, -, -, hd⟩ := tcls_spec e4 (by omega)
    obtain ⟨_, _, _, rfl⟩ := hd rfl
    obtain ⟨fs, cs, ex, -⟩ := hx.clo_inv
    exact ⟨_, v_eq hop ex hy.nilf_inv ho (guard_none (by simp) (by simp)) (by simp) (r_equalFn1 hu _ _ _), .pv _ _ (.bool _)⟩
  · obtain ⟨d, hu, -, -, -, hd⟩ := tcls_spec e4 (by omega)
    obtain ⟨_, _, _, rfl⟩ := hd rfl
    obtain ⟨b, ex, -⟩ := hx.yld_inv
    exact ⟨_, v_eq hop ex hy.nilf_inv ho (guard_none (by simp) (by simp)) (by simp) (r_equalFn1 hu _ _ _), .pv _ _ (.bool _)⟩
  · obtain ⟨d, hu, -, -, -, hd⟩ := tcls_spec e4 (by omega)
    obtain ⟨_, _, _, rfl⟩ := hd rfl
    obtain ⟨fs, cs, ey, -⟩ := hy.clo_inv
    exact ⟨_, v_eq hop hx.nilf_inv ey ho (guard_none (by simp) (by simp)) (by simp) (r_equalFn2 hu _ _ _), .pv _ _ (.bool _)⟩
  · obtain ⟨d, hu, -, -, -, hd⟩ := tcls_spec e4 (by omega)
    obtain ⟨_, _, _, rfl⟩ := hd rfl
    obtain ⟨b, ey, -⟩ := hy.yld_inv
    exact ⟨_, v_eq hop hx.nilf_inv ey ho (guard_none (by simp) (by simp)) (by simp) (r_equalFn2 hu _ _ _), .pv _ _ (.bool _)⟩
  · obtain ⟨d, hu, -, hd, -⟩ := tcls_spec e4 (by omega)
    obtain ⟨_, rfl⟩ := hd rfl
    obtain ⟨b, ex, -⟩ := hx.ptr_inv
    exact ⟨_, v_eq hop ex hy.pv_inv.nilp_inv ho (guard_none (by simp) (by simp)) (by simp) (r_equalPtrR hu _), .pv _ _ (.bool _)⟩
  · obtain ⟨d, hu, -, hd, -⟩ := tcls_spec e4 (by omega)
    obtain ⟨_, rfl⟩ := hd rfl
    obtain ⟨b, _, _, ex, -⟩ := hx.fp_inv
    exact ⟨_, v_eq hop ex hy.pv_inv.nilp_inv ho (guard_none (by simp) (by simp)) (by simp) (r_equalPtrR hu _), .pv _ _ (.bool _)⟩
  · obtain ⟨d, hu, -, hd, -⟩ := tcls_spec e4 (by omega)
    obtain ⟨_, rfl⟩ := hd rfl
    obtain ⟨b, _, ex, -⟩ := hx.elt_inv
    exact ⟨_, v_eq hop ex hy.pv_inv.nilp_inv ho (guard_none (by simp) (by simp)) (by simp) (r_equalPtrR hu _), .pv _ _ (.bool _)⟩
  · obtain ⟨d, hu, -, -, hd, -⟩ := tcls_spec e4 (by omega)
    obtain ⟨ms, rfl⟩ := hd rfl
    obtain ⟨u, ex⟩ := hx.ifc_inv
    exact ⟨_, v_eq hop ex hy.pv_inv.nili_inv ho (guard_none (by simp) (by simp)) (by simp) (r_equalIf1 hu _ _), .pv _ _ (.bool _)⟩

/-- The rows of a list that is read. -/
theorem rowsOf_rv {str : Bool} {sz : Nat} {x : LV} {v : Value} {rows : Rows} {k : List Bool} (hh : HRel P G w h μ) (r : RV G w h μ x v) (hA : ∀ id ∈ rowIds x, h id = hl[id]?)
    (e : rowsOf (prims glob) hl str sz x = some (rows, k)) (hk : k.all id = true) :
    (str = true ∧ sz = 1 ∧ ∃ s, v = .string (bstr s) ∧ rows = s.map byteRow) ∨
    (str = false ∧ (∀ (i : Nat) (row : Row), rows[i]? = some row → row.length = sz) ∧ ∃ ad c, v = .slice ad rows.length c ∧ rows.length ≤ c ∧ ((rows = [] ∧ ∀ x, ad = some x → x.spot = none) ∨ ∃ (b off : Nat) (vs : Nat → Nat → Value), ad = some ⟨b, off, none⟩ ∧
      (∀ (i : Nat) (row : Row) (j : Nat) (p : PV), rows[i]? = some row → row[j]? = some p → w.cell? ⟨b, off + i * sz + j, none⟩ = some (vs i j)) ∧
      (∀ (i : Nat) (row : Row) (j : Nat) (p : PV), rows[i]? = some row → row[j]? = some p → RP G w p (vs i j)))) := by
  have lst : ∀ {rows : Rows} {v : Value}, RP G w (.list rows) v → rowsWide sz rows = true → (∀ (i : Nat) (row : Row), rows[i]? = some row → row.length = sz) ∧ ∃ ad c, v = .slice ad rows.length c ∧ rows.length ≤ c ∧ ((rows = [] ∧ ∀ x, ad = some x → x.spot = none) ∨ ∃ (b off : Nat) (vs : Nat → Nat → Value), ad = some ⟨b, off, none⟩ ∧
      (∀ (i : Nat) (row : Row) (j : Nat) (p : PV), rows[i]? = some row → row[j]? = some p → w.cell? ⟨b, off + i * sz + j, none⟩ = some (vs i j)) ∧
      (∀ (i : Nat) (row : Row) (j : Nat) (p : PV), rows[i]? = some row → row[j]? = some p → RP G w p (vs i j))) := by
    intro rows v hp hw
    refine ⟨rowsWide_spec hw, ?_⟩
    obtain ⟨ad, c, ex, hc, hh⟩ := hp.list_inv
    refine ⟨ad, c, ex, hc, ?_⟩
    rcases hh with hh | ⟨b, off, sz', vs, rfl, m1, m2, m3⟩
    · exact .inl hh
    · refine .inr ⟨b, off, vs, rfl, fun i row j p h1 h2 => ?_, m3⟩
      rw [← rowsWide_spec hw i row h1, m1 i row h1]
      exact (m2 i row j p h1 h2).1
  unfold rowsOf at e
  split at e
  · cases e
    rename_i p
    have hp := r.pv_inv
    simp only [List.all_cons, List.all_nil, Bool.and_true, id] at hk
    simp only [prims] at hk
    split at hk
    · simp only [Bool.and_eq_true, Bool.not_eq_true'] at hk
      exact .inr ⟨hk.1, lst hp hk.2⟩
    · simp only [Bool.and_eq_true, beq_iff_eq] at hk
      exact .inl ⟨hk.1, hk.2, _, hp.str_inv, rfl⟩
    · cases hk
  · split at e <;> cases e
    rename_i hst
    have := r.nils_inv
    exact .inr ⟨by simpa using hst, by simp, none, 0, this, Nat.le_refl _, .inl ⟨rfl, by simp⟩⟩
  · split at e <;> cases e
    rename_i hst
    obtain ⟨ad, ex, hp⟩ := r.full_inv
    simp only [List.all_cons, List.all_nil, Bool.and_true, id] at hk
    have hw : rowsWide sz rows = true := by simpa [prims] using hk
    exact .inr ⟨by simpa using hst, lst hp hw⟩
  · rename_i id0 ver
    split at e <;> try cases e
    rename_i s v' ff rows' hc
    split at e <;> cases e
    rename_i hcond
    simp only [Bool.and_eq_true, decide_eq_true_eq, beq_iff_eq, Bool.not_eq_true'] at hcond
    obtain ⟨⟨rfl, rfl⟩, hst⟩ := hcond
    obtain ⟨ad, n, c, ex, hd, hv⟩ := r.ref_inv
    have hb : h id0 = some (.arr s v' ff rows) := (hA id0 (by simp [rowIds])).trans hc
    have hsl := (hv _ _ _ _ hb).2 rfl
    refine .inr ⟨hst, ?_⟩
    rcases hh.own _ _ hb with ⟨m1, rfl⟩ | ⟨b1, c1, vs, tt, fr, m1, m2, m3, m4, m5, m7, m8, m9, m10⟩
    · rw [m1, slv] at hsl; cases hsl
      exact ⟨by simp, none, 0, ex, Nat.le_refl _, .inl ⟨rfl, by simp⟩⟩
    · rw [m1, slv] at hsl; cases hsl
      refine ⟨m8, _, _, ex, m7, .inr ⟨b1, 0, fun i j => vs.getD (i * s + j) undef, rfl, fun i row j p h1 h2 => ?_, fun i row j p h1 h2 => ?_⟩⟩
      · obtain ⟨u, hu, -⟩ := m9 i row j p h1 h2
        rw [blk_cell m2, Nat.zero_add, hu]; simp [Array.getD_eq_getD_getElem?, hu]
      · obtain ⟨u, hu, hp⟩ := m9 i row j p h1 h2
        simpa [Array.getD_eq_getD_getElem?, hu] using hp
  · cases e

theorem byteOf_inv {row : Row} {b : UInt8} (e : byteOf? row = some b) : ∃ n : Int, row = [.int .u8 n] ∧ b = UInt8.ofNat n.toNat ∧ 0 ≤ n ∧ n < 256 := by
  unfold byteOf? at e
  split at e
  · split at e <;> cases e
    rename_i n hn
    exact ⟨n, rfl, rfl, hn.1, hn.2⟩
  · cases e

theorem o_b2s (c : Ctx P glob G w h μ t a) {s ty : TypeId} {x : Operand} {y : RO} {d : Nat} (hop : o.op = .convert s ty x) (e1 : ckRO x y = true) (e2 : isBytes P s = true) (e3 : isStr P ty = true)
    (hA : ∀ id ∈ rowIds (sv (prims glob) t y).1, h id = hl[id]?)
    (hr : opRun (prims glob) S (.b2s d y) t hl = some (.ok res)) (hk : res.oks.all id = true) : res.heap = hl ∧ Val P G w h μ a o res.v := by
  simp only [opRun] at hr
  split at hr <;> cases hr
  rename_i rows k hro
  simp only [List.all_append, Bool.and_eq_true, List.all_cons, List.all_nil, id, and_true] at hk
  obtain ⟨⟨hk1, hk2⟩, hk3⟩ := hk
  have hx := sv_rv c.tr c.gr e1 hk1
  refine ⟨rfl, ?_⟩
  unfold isBytes at e2
  split at e2 <;> try cases e2
  rename_i e hte
  unfold telem at hte
  split at hte <;> cases hte
  rename_i hu
  unfold isKind at e2
  split at e2 <;> try cases e2
  rename_i kk hku
  simp only [beq_iff_eq] at e2; subst e2
  unfold isStr at e3
  split at e3 <;> try cases e3
  rename_i hus
  rcases rowsOf_rv c.hr hx hA hro hk2 with ⟨hf, -⟩ | ⟨-, hw, ad, cc, ex, hc, hh⟩
  · cases hf
  rcases hh with ⟨rfl, hsp⟩ | ⟨b, off, vs, rfl, m2, m3⟩
  · refine ⟨.string (bstr []), ?_, .pv _ _ (.str [])⟩
    have hb : (convert s ty (.slice ad 0 cc)).run P w = .ok (.string (bstr [])) w := by
      cases ad with
      | none => exact run_convert_bytes_nil w s e hu hku 0 cc ty hus
      | some ad =>
        have := run_convert_bytes_string (P := P) w s ty e (some ad) 0 cc hu hku hus
        rw [this]
        have h0 := run_bytesToString (P := P) w ad 0 cc [] rfl
        have e0 : bstr [] = ByteArray.empty := rfl
        rw [e0]; exact h0
    simp only [execOp, hop, ex, Sem.run_bind, List.length_nil, hb, Result.andThen_ok, Sem.run_pure]
  · have hstr : ∀ row ∈ rows, (byteOf? row).isSome = true := by simpa [prims] using hk3
    have hrow : ∀ (i : Nat) (hi : i < rows.length), ∃ n : Int, rows[i] = [.int .u8 n] ∧ byteOf? rows[i] = some (UInt8.ofNat n.toNat) := by
      intro i hi
      obtain ⟨b0, hb0⟩ := Option.isSome_iff_exists.1 (hstr rows[i] (List.getElem_mem hi))
      obtain ⟨n, h1, h2, -⟩ := byteOf_inv hb0
      exact ⟨n, h1, by rw [hb0, h2]⟩
    let xs : List Int := rows.map fun r => match r with | [.int .u8 n] => n | _ => 0
    have hconv := run_convert_bytes_arg (P := P) w s e hu hku b off rows.length cc xs (by simp [xs]) (fun i hi => by
      obtain ⟨n, h1, h2⟩ := hrow i hi
      have hri : rows[i]? = some rows[i] := List.getElem?_eq_getElem hi
      have hp := m3 i _ 0 (.int .u8 n) hri (by rw [h1]; rfl)
      have := m2 i _ 0 (.int .u8 n) hri (by rw [h1]; rfl)
      rw [hp.int_inv] at this
      simp only [Nat.mul_one, Nat.add_zero] at this
      rw [this]
      simp [xs, List.getD, hri, h1]) ty hus
    refine ⟨_, by simp only [execOp, hop, ex, Sem.run_bind, hconv, Result.andThen_ok, Sem.run_pure]; rfl, .pv _ _ ?_⟩
    have : strOfNums xs = bstr (rows.map fun r => (byteOf? r).getD 0) := by
      unfold strOfNums bstr
      congr 2
      apply List.ext_getElem
      · simp [xs]
      · intro i h1 h2
        have hi : i < rows.length := by simpa using h2
        obtain ⟨n, h3, h4⟩ := hrow i hi
        have h5 : (byteOf? rows[i]).getD 0 = UInt8.ofNat n.toNat := by rw [h4]; rfl
        simp only [xs, List.getElem_map, h5]
        simp [h3]
    rw [this]
    exact .str _
end
end AI
end
