/-
  ALL FUNCTIONS TOGETHER: decoding, the program's literals, the sequence, the law.
  THE LAW's STATEMENT, from a run of the machine.
  THE LAW: all functions together, and the statement.
-/
import Derived.Test.YthkidjlemhgnfaaDoorTsU
import Derived.Test.YthkidjlemhgnfaaDoorCards
import Derived.Test.YthkidjlemhgnfaaDoorTie
import Derived.WalkKit
import Derived.ProofKit
import Derived.OpenShut
import Derived.Deep.DeepHandedRow
import Derived.Lib.LaidU8T
import Derived.Lib.LaidIn
set_option linter.unusedVariables false
set_option linter.unusedSimpArgs false
set_option linter.unusedSectionVars false
section
namespace AI.Tok
open Go AI
set_option maxRecDepth 100000
set_option linter.unusedSectionVars false

theorem g1_get (b : Nat) (h : b < 256) : (globT 1)[b]? = some (.int .u8 (Lib.firstT b : Nat)) := by
  simp [globT, rowOf, h]
theorem g1_len : (globT 1).length = 256 := by simp [globT, rowOf]
theorem g2_len : (globT 2).length = 32 := by kernel_rfl

theorem q54 {k : Nat} (h : Lv 1 k) {t : List UInt8} (hn : 0 < t.length) (hb : ¬ (bt t 0).toNat < 128) : R k (.fn 54) [sV t] [] = some (.ret (.tup [.pv (.int .i32 (decD t).1), .pv (.int .i64 (decD t).2)]), []) := by
  rw [R_at h.pos rfl rfl, decD, if_neg hb]
  have hx := g1_get (bt t 0).toNat (bt t 0).toNat_lt
  rcases firstT_cls (bt t 0).toNat (by omega) with ⟨_, e⟩ | ⟨_, _, e⟩ | ⟨_, e⟩ | ⟨_, e⟩ | ⟨_, _, _, e⟩ | ⟨_, e⟩ | ⟨_, e⟩ | ⟨_, _, e⟩
  · rw [e] at hx ⊢
    rw [if_pos (by omega)]
    exact w54_bad pm rfl g1_len hn hx
  · rw [e] at hx ⊢; rw [if_neg (by omega)]
    exact w54 pm (acc := 0) (g1 := globT 1) (g2 := globT 2) rfl g1_len rfl g2_len hn hx (by omega) (by decide) (by decide) (by decide) (by kernel_rfl) (by kernel_rfl) (by decide) (by decide)
  · rw [e] at hx ⊢; rw [if_neg (by omega)]
    exact w54 pm (acc := 1) (g1 := globT 1) (g2 := globT 2) rfl g1_len rfl g2_len hn hx (by omega) (by decide) (by decide) (by decide) (by kernel_rfl) (by kernel_rfl) (by decide) (by decide)
  · rw [e] at hx ⊢; rw [if_neg (by omega)]
    exact w54 pm (acc := 2) (g1 := globT 1) (g2 := globT 2) rfl g1_len rfl g2_len hn hx (by omega) (by decide) (by decide) (by decide) (by kernel_rfl) (by kernel_rfl) (by decide) (by decide)
  · rw [e] at hx ⊢; rw [if_neg (by omega)]
    exact w54 pm (acc := 0) (g1 := globT 1) (g2 := globT 2) rfl g1_len rfl g2_len hn hx (by omega) (by decide) (by decide) (by decide) (by kernel_rfl) (by kernel_rfl) (by decide) (by decide)
  · rw [e] at hx ⊢; rw [if_neg (by omega)]
    exact w54 pm (acc := 3) (g1 := globT 1) (g2 := globT 2) rfl g1_len rfl g2_len hn hx (by omega) (by decide) (by decide) (by decide) (by kernel_rfl) (by kernel_rfl) (by decide) (by decide)
  · rw [e] at hx ⊢; rw [if_neg (by omega)]
    exact w54 pm (acc := 4) (g1 := globT 1) (g2 := globT 2) rfl g1_len rfl g2_len hn hx (by omega) (by decide) (by decide) (by decide) (by kernel_rfl) (by kernel_rfl) (by decide) (by decide)
  · rw [e] at hx ⊢; rw [if_neg (by omega)]
    exact w54 pm (acc := 0) (g1 := globT 1) (g2 := globT 2) rfl g1_len rfl g2_len hn hx (by omega) (by decide) (by decide) (by decide) (by kernel_rfl) (by kernel_rfl) (by decide) (by decide)
theorem q45 {k : Nat} (h : Lv 2 k) {t : List UInt8} (hn : 0 < t.length) : R k (.fn 45) [sV t] [] = some (.ret (.tup [.pv (.int .i32 (decD t).1), .pv (.int .i64 (decD t).2)]), []) := by
  rw [R_at h.pos rfl rfl]
  have := w45 (Lp := loopAt M0 (k - 1)) (S := R (k - 1)) (r := (decD t).1) (z := (decD t).2) pm hn (fun hb => q54 h.pred hn hb)
  rw [this]
  by_cases hb : (bt t 0).toNat < 128
  · simp only [decD, if_pos hb]; rfl
  · simp only [if_neg hb]

theorem flat_len (zs : List Int) : (zs.flatMap encZ).length ≤ 4 * zs.length := by
  induction zs with
  | nil => simp
  | cons z zs ih => have := encZ_len z; simp only [List.flatMap_cons, List.length_append, List.length_cons]; omega
theorem encP_ne (z : Int) : encZ z ≠ [] := by unfold encZ; split <;> simp
theorem bsOf_len {zs l : List Int} (h : bsOf zs = some l) (hl : zs.length ≤ 1048576) : l.length + 4 ≤ 1099511627776 := by
  unfold bsOf at h
  split at h
  · cases h
  · cases h
    have := flat_len zs; omega
theorem q60 {k : Nat} (h : Lv 2 k) {n : Int} {bs : Option (List Int)} (hl : ∀ l, bs = some l → l.length + 4 ≤ 17592186044416) :
    R k (.fn 60) [(bufIn bs).1, .pv (.int .i32 n)] (bufIn bs).2 = some (.ret (bufOut bs (encP n)).1, (bufOut bs (encP n)).2) := by
  rw [R_at h.pos rfl rfl]; exact w60 pm hl (fun h1 => q63 h.pred h1 hl)
theorem q48 {k : Nat} (h : Lv 3 k) {n : Int} {zs : List Int} (hl : zs.length ≤ 1048576) :
    ∃ x, R k (.fn 48) [.ptr 0 0, .pv (.int .i32 n)] (bldH (bsOf zs)) = some (.ret (.tup [.pv (.int .i64 x), .pv .nili]), bldH1 (bsOf zs) (encP n)) := by
  rw [R_at h.pos rfl rfl]
  exact w48 pm (fun l e => bsOf_len e hl) (by rw [R_ovAt h.pred.pos rfl]; rfl) (fun rows => by rw [R_ovAt h.pred.pos rfl]; rfl) (q60 h.pred (fun l e => by have := bsOf_len e hl; omega))
theorem q46 {k : Nat} (h : Lv 0 k) {zs : List Int} (hl : zs.length ≤ 1048576) : R k (.fn 46) [.ptr 0 0] (bldH (bsOf zs)) = some (.ret (.pv (.str (bsText (bsOf zs)))), bldD (bsOf zs)) := by
  rw [R_ovAt h.pos rfl]
  unfold bsOf
  split
  · rfl
  · rename_i hz
    have h1 : (zs.flatMap encZ).map rowB ≠ [] := by
      cases zs with
      | nil => exact (hz rfl).elim
      | cons z zs => simp [encP_ne]
    have h2 := strOk_enc zs
    have h3 : ((zs.flatMap encZ).map rowB).length ≤ 9223372036854775807 := by
      have := flat_len zs
      simp only [List.length_map]; omega
    unfold strOkR at h2
    simp only [bldH, ovString, List.getElem?_cons_zero, List.getElem?_cons_succ]
    rw [if_pos ⟨⟨trivial, trivial⟩, ⟨h1, h2⟩, h3⟩]
    rfl
section
variable {s : List UInt8} (hs : s.length ≤ 1048576)
include hs
theorem q38 {k f : Nat} (h : Lv 4 k) (hf : f < s.length) : R k (.fn 38) [sV s, iV f] [] = some (.ret (.tup [.pv (.str (unquoteN s f).1), .pv (.int .i64 (unquoteN s f).2.1), .pv (.int .i64 (unquoteN s f).2.2)]), []) := by
  rw [R_at h.pos rfl rfl]
  exact w38 pm (fun f hf => q45 (h.pred.down (by omega)) (by simp; omega)) (fun f hf => q47 hs (h.pred.down (by omega)) hf) (fun zs hl => q46 (h.pred.down (by omega)) hl) (fun zs r hl => q48 h.pred hl) hs hf (by have := h.n; omega)

/-! ### What takes a token -/
omit hs in
theorem q_none (c : UInt8) : (0 ≤ Lib.indexByte [] c) = ((fun _ => false) c = true) := by simp [Lib.indexByte]
omit hs in
theorem q_signs (c : UInt8) : (0 ≤ Lib.indexByte [43, 45, 46] c) = ((fun c : UInt8 => c.toNat == 43 || c.toNat == 45 || c.toNat == 46) c = true) := by
  have all : ∀ c : Fin 256, decide (0 ≤ Lib.indexByte [43, 45, 46] (UInt8.ofNat c.val)) = (fun c : UInt8 => c.toNat == 43 || c.toNat == 45 || c.toNat == 46) (UInt8.ofNat c.val) := by decide +kernel
  have := all ⟨c.toNat, c.toNat_lt⟩
  simp only [UInt8.ofNat_toNat] at this
  have h2 := this
  rw [eq_iff_iff]
  show _ ↔ (c.toNat == 43 || c.toNat == 45 || c.toNat == 46) = true
  rw [← h2, decide_eq_true_eq]
omit hs in
theorem markN_range (c : UInt8) : 0 ≤ markN c ∧ markN c ≤ 6 := by
  unfold markN
  split
  · decide
  split
  · decide
  split
  · decide
  split
  · decide
  split
  · decide
  split <;> decide
theorem q25 {k f q : Nat} (h : Lv 5 k) (hf : f < s.length) : R k (.fn (25 + pickN (bt s f))) [.ptr 0 0] (cutH 0 s f q) = some (.ret (.tup [.prow (nextN s f).1, .pv (.int .i64 (nextN s f).2.1)]), cutH 0 s f (if (nextN s f).2.1 = 0 then q else (nextN s f).2.2)) := by
  have e1 : f ≤ runEnd wordB s f := runEnd_ge
  have e2 : runEnd wordB s f ≤ s.length := runEnd_le (by omega)
  have e3 : f ≤ runEnd numB s f := runEnd_ge
  have e4 : runEnd numB s f ≤ s.length := runEnd_le (by omega)
  have w : (fun c => letterB c || digitB c || (fun _ => false) c) = wordB := by funext c; simp [wordB]
  have n : (fun c => letterB c || digitB c || (fun c : UInt8 => c.toNat == 43 || c.toNat == 45 || c.toNat == 46) c) = numB := by funext c; simp [numB, Bool.or_assoc]
  apply taken
  · rw [R_at h.pos rfl rfl]; exact w25 pm
  · rw [R_at h.pos rfl rfl]
    have hm := markN_range (bt s f)
    have := w26 (Lp := loopAt M0 (k - 1)) (S := R (k - 1)) (p := q) (ty := 0) (g := markN (bt s f) - 1) pm hf hs (wrap64 (by omega) (by omega)) (q30m (h.pred.down (by omega)) (bt s f))
    rw [this, Int.sub_add_cancel]
  · rw [R_at h.pos rfl rfl]
    have := q36 (pl := .int .i64 q) (a := f) hs (h.pred.down (d := 3) (by omega)) [] q_none
    rw [w] at this
    exact w27 pm this e1 e2
  · rw [R_at h.pos rfl rfl]
    have := q36 (pl := .int .i64 q) (a := f) hs (h.pred.down (d := 3) (by omega)) [43, 45, 46] q_signs
    rw [n] at this
    have hu : (says s f).length ≤ 1048576 := by
      unfold says
      split
      · decide
      · simp; omega
    have k37 := q37 (s := says s f) hu (h.pred.down (d := 1) (by omega))
    rw [formed_eq] at k37
    exact w28 pm rfl this k37 e3 e4
  · rw [R_at h.pos rfl rfl]
    exact w29 pm (q38 hs h.pred hf)
end
end AI.Tok
end

section
namespace AI.Tok
open Go AI

def gT (b : Nat) : Nat := if b = 1 then 256 else if b = 2 then 32 else 0

theorem row_get {l : List Nat} {j : Nat} {p : PV} (h : (rowOf l)[j]? = some p) : ∃ n, l[j]? = some n ∧ p = .int .u8 n := by
  simp only [rowOf, List.getElem?_map, Option.map_eq_some_iff] at h
  obtain ⟨n, h1, h2⟩ := h
  exact ⟨n, h1, h2.symm⟩

theorem acc_get {j n : Nat} (h : ((List.range 16).flatMap fun i => [Lib.accLo i, Lib.accHi i])[j]? = some n) : j < 32 ∧ n = (if j % 2 = 0 then Lib.accLo (j / 2) else Lib.accHi (j / 2)) := by
  have hj : j < 32 := by
    have := (List.getElem?_eq_some_iff.1 h).1
    rw [show ((List.range 16).flatMap fun i => [Lib.accLo i, Lib.accHi i]).length = 32 by decide] at this
    exact this
  refine ⟨hj, ?_⟩
  have all : ∀ j : Fin 32, ((List.range 16).flatMap fun i => [Lib.accLo i, Lib.accHi i])[j.val]? = some (if j.val % 2 = 0 then Lib.accLo (j.val / 2) else Lib.accHi (j.val / 2)) := by decide
  have := all ⟨j, hj⟩
  rw [h] at this
  simpa using this

theorem globT_rel {W : World} (h : Lib.Utf8Tabs 1 2 W) : GlobRel gT W globT := by
  obtain ⟨h1, h2⟩ := h
  intro g j p hp
  match g with
  | 1 =>
    obtain ⟨n, e, rfl⟩ := row_get hp
    have hj : j < 256 := by have := (List.getElem?_eq_some_iff.1 e).1; rw [List.length_map, List.length_range] at this; exact this
    simp [List.getElem?_map, List.getElem?_range hj] at e
    subst e
    exact ⟨_, h1 j hj, by simp [gT, hj], .int _ _⟩
  | 2 =>
    obtain ⟨n, e, rfl⟩ := row_get hp
    obtain ⟨hj, rfl⟩ := acc_get e
    obtain ⟨q1, q2⟩ := h2 (j / 2) (by omega)
    by_cases hm : j % 2 = 0
    · rw [if_pos hm]
      refine ⟨_, ?_, by simp [gT, hj], .int _ _⟩
      rw [show j = 2 * (j / 2) by omega, q1, show 2 * (j / 2) / 2 = j / 2 by omega]
    · rw [if_neg hm]
      refine ⟨_, ?_, by simp [gT, hj], .int _ _⟩
      rw [show j = 2 * (j / 2) + 1 by omega, q2, show (2 * (j / 2) + 1) / 2 = j / 2 by omega]
  | 0 => simp [globT] at hp
  | _ + 3 => simp [globT] at hp

/-- What is left to show: a run. -/
def Law (S : SFn) : Prop := ∀ (s : List UInt8) (m : Int), s.length ≤ 1048576 → ∃ h', S (.fn 3) [.pv (.str s), .pv (.int .i64 m)] [] = some (.ret (.pv (.bool true)), h')
end AI.Tok

namespace Go.Proofs.YthkidjlemhgnfaaDoor.tokenSeq
open Go.ChangeShapes Go.WideShapes Go.ChangeAt Go.RowKit AI AI.Tok
open Go.ChangeMaps (open_string shut_string)

theorem own : ownKnob Tryd.prog.godebug = none := by kernel_rfl
def ren : Shelf.Ren := ⟨id, fun n => if n = 5 then 5 else if n = 119 then 90 else if n = 138 then 92 else 93, fun n => if n = 3 then 1 else 2⟩
theorem firstEq : Rows.laid_unicode_utf8_first = Lib.firstData := by kernel_rfl
theorem acceptEq : (Rows.laid_unicode_utf8_acceptRanges : DataW Unit) = Lib.acceptData := by kernel_rfl

theorem tabs {W : World} (h : laidMetH Tryd.prog Rows.tokenSeqRow.laid W) : Lib.Utf8Tabs 1 2 W := by
  have h' : laidMet Tryd.prog [("unicode/utf8.acceptRanges", Lib.acceptData), ("unicode/utf8.first", Lib.firstData)] W := by
    rw [← firstEq, ← acceptEq]; exact h
  exact utf8Tabs_of_readsT (ρ := ren) ⟨Tryd.underlying5, Tryd.underlying90, Tryd.underlying92, Tryd.underlying93⟩
    ⟨by kernel_rfl, by kernel_rfl, by kernel_rfl, by kernel_rfl, by kernel_rfl, by kernel_rfl, by kernel_rfl⟩ (Lib.laidMet.reads h' (.tail _ (.head _))) (Lib.laidMet.reads h' (.head _))

variable {S : SFn} (hS : SoundFn Tryd.prog globT S) (law : Law S)
include hS law

theorem walk (s : ByteArray) (m : Int) (hs : s.size ≤ 1048576) (W : World) (hT : Lib.Utf8Tabs 1 2 W) :
    Calls Tryd.prog 3 #[.string s, .int .i64 m] W fun e W' => e = .returned (.bool true) ∧ Below W.heap.size W W' := by
  obtain ⟨h', e⟩ := law s.data.toList m (by simpa using hs)
  refine law_calls (P := Tryd.prog) hS e (by kernel_rfl) (globT_rel hT) (fun b hb => ?_) ?_
  · have h2 := (hT.2 0 (by decide)).1
    have := cell_lt h2
    simp only [gT]
    rw [if_neg (by omega), if_neg (by omega)]
  · refine .cons (.pv _ _ ?_) (.cons (.pv _ _ (.int _ _)) ⟨rfl, fun j x c h => by simp at h⟩)
    have : s = bstr s.data.toList := by cases s; simp [bstr]
    conv => rhs; rw [this]
    exact .str _

theorem contract (H : Type) (enc : TypeId × Value → H) (W : World) (base : Nat) (args : Array Value) (ds gs : List (DataW H)) (before : List MemPlace)
    (hval : ∀ (j : Nat) t v, Tryd.f3.params[j]? = some t → args[j]? = some v → Value.okWide Tryd.prog W .any base t v)
    (hW : DataW.Whole enc Tryd.prog Tryd.f3.params.toList Rows.tokenSeqSpec.vars false W args.toList ds gs before) (hL : laidMetH Tryd.prog Rows.tokenSeqRow.laid W)
    (hsmall : Rows.uptoBulkAll ds ≤ 1048576) :
    Calls Tryd.prog 3 args W fun e W' => ∃ v, e = .returned v ∧ Rows.tokenSeqSpec.post enc Tryd.prog Tryd.f3 false true false false W args v W' := by
  have hW' := hW
  obtain ⟨p, q, hA0, hV, rfl, hfz, hnd⟩ := hW
  have hA : DataW.TrodAll enc Tryd.prog W 0 (fun _ => true) true Tryd.f3.params.toList args.toList ds p := hA0
  rw [Tryd.params3] at hA hval
  obtain ⟨v0, vs0, d0, ds0, p0, q0, hargs, rfl, rfl, h0, r0⟩ := trodAll_cons hA
  obtain ⟨v1, vs1, d1, ds1, p1, q1, hargs1, rfl, rfl, h1, r1⟩ := trodAll_cons r0
  obtain ⟨rfl, rfl, rfl⟩ := trodAll_nil r1
  subst hargs1
  obtain rfl : args = #[v0, v1] := by cases args; simp_all
  obtain ⟨rfl, rfl⟩ := trodVars_none hV
  obtain ⟨s, rfl, rfl, rfl, ws⟩ := open_string Tryd.underlying9 (hval 0 9 v0 rfl rfl) h0
  obtain ⟨m, rfl, rfl, rfl, wm⟩ := open_int Tryd.underlying3 (hval 1 3 v1 rfl rfl) h1
  clear hA0
  simp only [List.append_nil] at hW'
  have hs : s.size ≤ 1048576 := by
    simp [Rows.uptoBulkAll, Rows.uptoBulk] at hsmall
    omega
  refine (walk hS law s m hs W (tabs hL)).mono fun e W' h => ?_
  obtain ⟨rfl, bel⟩ := h
  refine ⟨_, rfl, _, _, _, [], [], [], hW', ?_, ?_, ?_, bel.frame _, fun h => by cases h⟩
  · exact trodAll_cons_mk (shut_bool Tryd.underlying4 _) trodAll_mk0
  · exact trodAll_cons_mk (shut_string Tryd.underlying9 ws) (trodAll_cons_mk (shut_int Tryd.underlying3 wm) trodAll_mk0)
  · rfl

omit hS law in
/-- A WORLD FOR THE WITNESS. -/
noncomputable def laidWorld (os : Os) : World :=
  let w0 := World.holding Tryd.prog os ⟨#[], #[], []⟩
  let put (h : Array Obj) (g : Nat) (cs : Array Value) : Array Obj := h.modify g fun
    | .cells _ t frozen => .cells cs t frozen
    | o => o
  let h1 := put w0.heap 1 (Lib.firstTab.map fun z => Value.int .u8 z).toArray
  let h2 := put h1 2 ((List.range 16).flatMap fun i => [Value.int .u8 (Lib.accLo i), Value.int .u8 (Lib.accHi i)]).toArray
  { w0 with heap := h2 }

omit hS law in
theorem piece0 (os : Os) (args : Array Value) : LaidIn Tryd.prog ((laidWorld os).forCall (fun _ _ => 0) ⟨#[], args, []⟩).memory [("unicode/utf8.acceptRanges", Lib.acceptData), ("unicode/utf8.first", Lib.firstData)] [1, 2] :=
  LaidIn.of_run [1, 2] 8 (by kernel_rfl) (by kernel_rfl) (by kernel_rfl) (by kernel_rfl)
omit hS law in
theorem laid_met (os : Os) (args : Array Value) : laidMet Tryd.prog Rows.tokenSeqUptoRow.laid ((laidWorld os).forCall (fun _ _ => 0) ⟨#[], args, []⟩).memory := by
  have := (piece0 os args).met
  rw [← firstEq, ← acceptEq] at this
  exact this
omit hS law in
theorem reads (os : Os) {H : Type} (enc : TypeId × Value → H) : ∃ places, DataW.whole enc Tryd.prog ((laidWorld os).forCall (fun _ _ => 0) ⟨#[], #[.string ⟨#[]⟩, .int .i64 0], []⟩).memory Tryd.f3.params.toList Rows.tokenSeqSpec.vars false #[Value.string ⟨#[]⟩, .int .i64 0].toList 8 = some ([.lit (.string []), .lit (.int .i64 0)], [], places) :=
  ⟨[], by kernel_rfl⟩

set_option maxRecDepth 100000 in
theorem lifted (os : Os) (started : os.Started) (H : Type) (enc : TypeId × Value → H) (F : Stop.Interp) :
    ReturnsInHanded {} Tryd.checked os 3 .any ((Rows.OpenSpec.upto Rows.tokenSeqSpec).preRow enc Tryd.prog Tryd.f3 Rows.tokenSeqUptoRow.domain false Rows.tokenSeqUptoRow.laid) (((Rows.OpenSpec.upto Rows.tokenSeqSpec).at F).post enc Tryd.prog Tryd.f3 false true false false) := by
  obtain ⟨places, hx⟩ := reads os enc
  refine returnsInHanded_of_row (C := Tryd.checked) (s := Rows.OpenSpec.upto Rows.tokenSeqSpec) own started (by kernel_rfl) Tryd.func3
    (witness_row_at (enc := enc) (C := Tryd.checked) false (laidWorld os) #[.string ⟨#[]⟩, .int .i64 0] rfl (by kernel_rfl) (by kernel_rfl) (by kernel_rfl)
      (OpenSpec.preRow_of_cond 8 hx (by kernel_rfl) (fun k hk => by cases hk; kernel_rfl) (by kernel_rfl) (laid_met os _))) ?_
  intro W base args ds gs before hval hW _ hcond _ hL _ _
  have hds : ds.length = 2 := by
    obtain ⟨p, q, hA0, -⟩ := hW
    have hA : DataW.TrodAll enc Tryd.prog W 0 (fun _ => true) true Tryd.f3.params.toList args.toList ds p := hA0
    rw [Tryd.params3] at hA
    obtain ⟨v0, vs0, d0, ds0, p0, q0, hargs, rfl, rfl, h0, r0⟩ := trodAll_cons hA
    obtain ⟨v1, vs1, d1, ds1, p1, q1, hargs1, rfl, rfl, h1, r1⟩ := trodAll_cons r0
    obtain ⟨rfl, rfl, rfl⟩ := trodAll_nil r1
    rfl
  have hgs : gs = [] := by
    obtain ⟨p, q, hA0, hV, -⟩ := hW
    exact (trodVars_none hV).1
  have hk := hcond _ rfl
  subst hgs
  simp only [Rows.uptoSmall, List.append_nil, decide_eq_true_eq] at hk
  exact contract hS law H enc W base args ds [] before hval hW hL hk

theorem said : Rows.TokenSeqUptoSaid :=
  OpenClaim.holds_of_cond 3 Tryd.f3 rfl rfl rfl rfl rfl rfl rfl ⟨rfl, rfl, rfl, rfl, rfl⟩ rfl rfl rfl rfl rfl (by kernel_rfl) Tryd.func3 (by kernel_rfl)
    (of_decide_eq_true (by kernel_rfl)) (by unfold Func.isWrapper; first | (rw [if_pos (by decide +kernel)]; kernel_rfl) | (rw [if_neg (by decide +kernel)]; exact ⟨rfl, rfl⟩))
    (fun os started H enc _ F => by rw [OpenClaim.pre_eq_preRow]; exact lifted hS law os started H enc F)

omit hS law in
theorem plain (f : FuncId) (fn : Func) (hf : Tryd.pinned.checked.prog.funcNamed "hallmark/hallmarklaw04.TokenSeq" = some f) (hfn : Tryd.pinned.checked.prog.funcs[f]? = some fn) :
    false = Tryd.pinned.checked.prog.looks [] ∧ ∀ (j : Nat) t, fn.params[j]? = some t → Tryd.pinned.checked.prog.wantsStandIn t = false := by
  obtain rfl : f = 3 := Option.some.inj ((show Tryd.prog.funcNamed "hallmark/hallmarklaw04.TokenSeq" = some 3 by kernel_rfl).symm.trans hf) |>.symm
  obtain rfl : fn = Tryd.f3 := (Option.some.inj (Tryd.func3.symm.trans hfn)).symm
  refine ⟨by kernel_rfl, fun j t ht => ?_⟩
  rw [Tryd.params3] at ht
  have ht' : t = 9 ∨ t = 3 := by simpa using Array.mem_of_getElem? ht
  rcases ht' with rfl | rfl
  · exact (show Tryd.prog.wantsStandIn 9 = false by kernel_rfl)
  · exact (show Tryd.prog.wantsStandIn 3 = false by kernel_rfl)

theorem card : Rows.TokenSeqUptoCardSaid :=
  Claim7.holds_tied_plain_at .later [] _ _ _ _ (said hS law) (fun _ h => by cases h) (by kernel_rfl) (fun _ h => by cases h) tokenSeqUpto_row_tie rfl ⟨rfl, rfl⟩ (by kernel_rfl) rfl plain (by kernel_rfl)
end Go.Proofs.YthkidjlemhgnfaaDoor.tokenSeq
end

section
namespace AI.Tok
open Go AI
set_option maxRecDepth 100000
set_option linter.unusedSectionVars false

theorem seq_rows {s : List UInt8} : ∀ (k f : Nat), ∀ r ∈ (seqN s k f).1, ∃ (kd : Int) (a e : Nat) (t : List UInt8), r = tokR kd a e t
  | 0, _, r, h => by simp [seqN] at h
  | k + 1, f, r, h => by
    simp only [seqN] at h
    by_cases hf : f < s.length
    · rw [if_pos hf] at h
      by_cases hb : blankB (bt s f) = true
      · rw [if_pos hb] at h; exact seq_rows k _ r h
      · rw [if_neg hb] at h
        by_cases he : (nextN s f).2.1 = 0
        · rw [if_neg (by simpa using he)] at h
          rcases List.mem_cons.1 h with rfl | h
          · obtain ⟨kd, e, t, e1, _⟩ := nextN_ok hf he
            exact ⟨kd, f, e, t, by rw [e1]⟩
          · exact seq_rows k _ r h
        · rw [if_pos he] at h; simp at h
    · rw [if_neg hf] at h; simp at h
theorem seq_len {s : List UInt8} : ∀ (k f : Nat), (seqN s k f).1.length ≤ k
  | 0, _ => by simp [seqN]
  | k + 1, f => by
    simp only [seqN]
    split
    · split
      · exact Nat.le_succ_of_le (seq_len k _)
      · split
        · simp
        · simp only [List.length_cons]
          exact Nat.succ_le_succ (seq_len k _)
    · simp

theorem items_get {l : List Row} {e : Int} {p : Nat} (hl : ∀ r ∈ l, ∃ (kd : Int) (a e : Nat) (t : List UInt8), r = tokR kd a e t) {a : Nat} {r : Row} {x : Int} (h : (items (l, e, p))[a]? = some (r, x)) :
    (∃ (kd : Int) (a e : Nat) (t : List UInt8), r = tokR kd a e t) ∧ a < (items (l, e, p)).length ∧ x = if a + 1 = (items (l, e, p)).length then e else 0 := by
  have hlt := (List.getElem?_eq_some_iff.1 h).1
  refine ⟨?_, hlt, ?_⟩
  · have hm := List.mem_of_getElem? h
    unfold items at hm
    rcases List.mem_append.1 hm with hm | hm
    · obtain ⟨r', h1, h2⟩ := List.mem_map.1 hm
      injection h2 with h2 _
      subst h2
      exact hl _ h1
    · by_cases he : e = 0
      · simp [he] at hm
      · simp only [he, if_false, List.mem_singleton] at hm
        injection hm with h1 _
        exact ⟨0, p, 0, [], h1⟩
  · by_cases he : e = 0
    · subst he
      simp only [items, if_true, List.append_nil, List.getElem?_map, Option.map_eq_some_iff] at h
      obtain ⟨_, _, h2⟩ := h
      injection h2 with _ h2
      rw [← h2]; simp
    · have hlen : (items (l, e, p)).length = l.length + 1 := by simp [items, he]
      rw [hlen] at hlt ⊢
      simp only [items, he, if_false] at h
      by_cases ha : a < l.length
      · rw [List.getElem?_append_left (by simpa using ha), List.getElem?_map] at h
        obtain ⟨_, _, h2⟩ := Option.map_eq_some_iff.1 h
        injection h2 with _ h2
        rw [if_neg (by omega), ← h2]
      · have : a = l.length := by omega
        subst this
        rw [List.getElem?_append_right (by simp)] at h
        simp at h
        rw [if_pos rfl, h.2]

section
variable {s : List UInt8} (hs : s.length ≤ 1048576)
include hs
theorem q10s {k : Nat} (h : Lv 7 k) {most rd : Int} {l : List Row} {e : Int} {p : Nat} (hq : seqN s (s.length + 1) 0 = (l, e, p)) (hr : wantL (items (l, e, p)) = some ((items (l, e, p)).map (·.1))) :
    ∃ a' p', R k (.fn 10) [.yld 0, .ptr 1 0] (hGn s most e rd (some ((items (l, e, p)).map (·.1))) 0 none) = some (.ret (.tup []), hGn s most e rd (some ((items (l, e, p)).map (·.1))) a' p') ∧
      ((p' = none ∧ a' = (items (l, e, p)).length) ∨ (goB rd most a' = false ∧ p' = some (.exit 2))) := by
  have hl : ∀ r ∈ l, ∃ (kd : Int) (a e : Nat) (t : List UInt8), r = tokR kd a e t := by
    have := seq_rows (s := s) (s.length + 1) 0
    rw [hq] at this; exact this
  have hn : l.length ≤ s.length + 1 := by
    have := seq_len (s := s) (s.length + 1) 0
    rw [hq] at this; exact this
  have hlen : (items (l, e, p)).length ≤ l.length + 1 := by
    simp only [items, List.length_append, List.length_map]
    split <;> simp
  rw [R_at h.pos rfl rfl]
  refine w10 pm frS (fun c => q12 (h.pred.down (by omega)) c) (fun f q hf => q25 hs (h.pred.down (by omega)) hf) (go := goB rd most) ?_ ?_ hs (by have := h.n; omega) (by rw [hq])
  · intro a r x hg
    obtain ⟨⟨kd, i, j, t, rfl⟩, h2, h3⟩ := items_get hl hg
    rw [R_yld h.pred.pos]
    refine wY pm rfl ?_ (by simpa using h2) (by simp; omega) ?_ (by simpa using h3)
    · rw [R_at h.pred.pred.pos rfl rfl]; exact w6 pm
    · rw [List.getElem?_map, hg]; rfl
  · rw [R_at h.pred.pos rfl rfl]; exact w11 pm
theorem q10n {k : Nat} (h : Lv 7 k) {most rd : Int} {l : List Row} {e : Int} {p : Nat} (hq : seqN s (s.length + 1) 0 = (l, e, p)) (hr : items (l, e, p) = []) :
    ∃ a' p', R k (.fn 10) [.yld 0, .ptr 1 0] (hGn s most e rd none 0 none) = some (.ret (.tup []), hGn s most e rd none a' p') ∧
      ((p' = none ∧ a' = 0) ∨ (goB rd most a' = false ∧ p' = some (.exit 2))) := by
  rw [R_at h.pos rfl rfl]
  have := w10 (ws := []) (G := hGn s most e rd none) (S := R (k - 1)) (N := k - 1) pm frN (fun c => q12 (h.pred.down (by omega)) c) (fun f q hf => q25 hs (h.pred.down (by omega)) hf) (go := goB rd most) ?_ ?_ hs (by have := h.n; omega) (by rw [hq, hr])
  · exact this
  · intro a r x hg; simp at hg
  · rw [R_at h.pred.pos rfl rfl]; exact w11 pm

omit hs in
theorem go_no {rd most : Int} {a : Nat} (h : goB rd most a = false) : rd = 0 ∧ (a : Int) = most := by
  simpa [goB] using h

theorem law_run {k : Nat} (h : Lv 8 k) (m : Int) : R k (.fn 3) [.pv (.str s), .pv (.int .i64 m)] [] = some (.ret (.pv (.bool true)), []) := by
  have hx : ∃ l e p, seqN s (s.length + 1) 0 = (l, e, p) := ⟨_, _, _, rfl⟩
  obtain ⟨l, e, p, hq⟩ := hx
  have hn : l.length ≤ s.length + 1 := by
    have := seq_len (s := s) (s.length + 1) 0
    rw [hq] at this; exact this
  have hlen : (items (l, e, p)).length ≤ l.length + 1 := by
    simp only [items, List.length_append, List.length_map]
    split <;> simp
  have k4 := q4 hs (h.pred.down (d := 6) (by omega))
  rw [hq] at k4
  rw [R_at h.pos rfl rfl]
  refine w3 (l := l) (p := p) (e := e) pm (by omega) k4 ?_ (q7 (h.pred.down (by omega))) ?_
  · rw [R_at h.pred.pos rfl rfl]; exact w5 pm
  · refine w3_loop pm (by have := h.n; omega) (fun rd h0 h2 => ?_)
    cases hi : items (l, e, p) with
    | nil =>
      obtain ⟨a', p', e1, e2⟩ := q10n (k := k - 1) (most := m) (rd := rd) hs h.pred hq hi
      refine w3_roundN pm h0 h2 e1 (e2.imp id ?_)
      rintro ⟨h3, h4⟩
      exact ⟨h4, go_no h3⟩
    | cons x y =>
      have hw : wantL (items (l, e, p)) = some ((items (l, e, p)).map (·.1)) := by rw [hi]; rfl
      obtain ⟨a', p', e1, e2⟩ := q10s (k := k - 1) (most := m) (rd := rd) hs h.pred hq hw
      rw [hi] at hw e1 e2 hlen
      rw [hw]
      refine w3_round pm _ h0 h2 (by rw [List.length_map]; omega) e1 ?_
      rcases e2 with ⟨h3, h4⟩ | ⟨h3, h4⟩
      · exact .inl ⟨h3, by rw [List.length_map]; exact h4⟩
      · exact .inr ⟨h4, go_no h3⟩
end
theorem law : Law (R 1200000) := fun _ m hs => ⟨[], law_run hs (by unfold Lv; omega) m⟩
end AI.Tok

namespace Go.Proofs.YthkidjlemhgnfaaDoor.tokenSeq
open AI AI.Tok
theorem proved : Rows.TokenSeqUptoCardSaid := card (S := R 1200000) (AI.Tok.sound 1200000) AI.Tok.law
end Go.Proofs.YthkidjlemhgnfaaDoor.tokenSeq
end
