/-
  THE SEQUENCE of tokens, of the reference.
  WHAT TAKES A TOKEN, in the program.
  THE SEQUENCE, as the program goes through it.
-/
import Derived.Test.YthkidjlemhgnfaaDoorTsN
set_option linter.unusedVariables false
set_option linter.unusedSimpArgs false
set_option linter.unusedSectionVars false
section
namespace AI.Tok
open Go AI
set_option maxRecDepth 100000
set_option maxHeartbeats 4000000
set_option linter.unusedSimpArgs false
set_option linter.unusedVariables false

def tokEnd (r : Row) : Int := match r with
  | [_, _, .int _ e, _] => e
  | _ => 0
/-- The tokens from a place on; the fault and its place. -/
def seqN (s : List UInt8) : Nat → Nat → List Row × Int × Nat
  | 0, _ => ([], 0, 0)
  | k + 1, f =>
    if f < s.length then
      if blankB (bt s f) = true then seqN s k (f + 1)
      else if ¬ (nextN s f).2.1 = 0 then ([], (nextN s f).2.1, (nextN s f).2.2)
      else ((nextN s f).1 :: (seqN s k (tokEnd (nextN s f).1).toNat).1, (seqN s k (tokEnd (nextN s f).1).toNat).2)
    else ([], 0, 0)

theorem unqR_gt {s : List UInt8} : ∀ (k f : Nat) (zs : List Int), (unqR s k f zs).2.2 = 0 → f < (unqR s k f zs).2.1
  | 0, f, zs, h => by simp [unqR] at h
  | k + 1, f, zs, h => by
    obtain ⟨g1, g2, g3⟩ := atFrom_ok (s := s) (f := f) 5 1 (by omega)
    have g1' : f < (atN s f).1 := g1
    simp only [unqR] at h ⊢
    split
    · rename_i h1
      rw [if_pos h1] at h
      split
      · exact g1'
      · rename_i h2
        rw [if_neg h2] at h
        split
        · rename_i h3; rw [if_pos h3] at h; simp at h
        · rename_i h3
          rw [if_neg h3] at h
          split
          · rename_i h4; rw [if_pos h4] at h; simp at h
          · rename_i h4
            rw [if_neg h4] at h
            split
            · rename_i h5
              rw [if_pos h5] at h
              exact Nat.lt_trans g1' (unqR_gt k _ _ h)
            · rename_i h5
              rw [if_neg h5] at h
              split
              · rename_i h6; rw [if_pos h6] at h; exact (h6 h).elim
              · rename_i h6
                rw [if_neg h6] at h
                have h6' : (escN s f).2.2 = 0 := by simpa using h6
                exact Nat.lt_trans (escN_ok h6').2.1 (unqR_gt k _ _ h)
    · rename_i h1; rw [if_neg h1] at h; simp at h
theorem runEnd_gt {p : UInt8 → Bool} {s : List UInt8} {f : Nat} (hf : f < s.length) (hp : p (bt s f) = true) : f < runEnd p s f := by
  rw [← runEnd_step hf hp]
  exact Nat.lt_of_lt_of_le (Nat.lt_succ_self f) runEnd_ge
theorem nextN_ok {s : List UInt8} {f : Nat} (hf : f < s.length) (h : (nextN s f).2.1 = 0) : ∃ k e t, nextN s f = (tokR k f e t, 0, 0) ∧ f < e := by
  unfold nextN at h ⊢
  split
  · exact ⟨_, _, _, rfl, by omega⟩
  · rename_i h1
    rw [if_neg h1] at h
    split
    · rename_i h2
      rw [if_pos h2] at h
      split
      · rename_i h3; rw [if_pos h3] at h; exact (h3 h).elim
      · rename_i h3
        have h3' : (unquoteN s f).2.2 = 0 := by simpa using h3
        refine ⟨_, _, _, rfl, ?_⟩
        unfold unquoteN at h3' ⊢
        rw [if_pos h2] at h3' ⊢
        have := unqR_gt _ _ _ h3'
        omega
    · rename_i h2
      rw [if_neg h2] at h
      split
      · rename_i h3
        rw [if_pos h3] at h
        split
        · rename_i h4; rw [if_pos h4] at h; simp at h
        · exact ⟨_, _, _, rfl, runEnd_gt hf (by simp [wordB, h3])⟩
      · rename_i h3
        rw [if_neg h3] at h
        split
        · rename_i h4; rw [if_pos h4] at h; simp at h
        · rename_i h4
          rw [if_neg h4] at h
          split
          · rename_i h5; rw [if_pos h5] at h; simp at h
          · refine ⟨_, _, _, rfl, runEnd_gt hf ?_⟩
            cases hd : digitB (bt s f)
            · have : (bt s f).toNat = 45 := by
                by_cases h : (bt s f).toNat = 45
                · exact h
                · exact (h4 ⟨hd, h⟩).elim
              simp [numB, this]
            · simp [numB, hd]
theorem nextN_err {s : List UInt8} {f : Nat} : (nextN s f).1.length = 4 := by
  unfold nextN
  split
  · rfl
  · split
    · split <;> rfl
    · split
      · split <;> rfl
      · split
        · rfl
        · split <;> rfl

/-- What is there of a list that begins as nil. -/
def toksV (l : List Row) : LV × List Blk := match l with
  | [] => (.nils, [])
  | l => (.ref 0 0, [.arr 4 0 (false, 27) l])
def toksIn (l : List Row) : LV × List Blk := match l with
  | [] => (.nils, [])
  | l => (.ref 0 0, [.arr 4 0 (false, 27) l])

section
variable {M : Prims} (pm : PM M) {S : SFn} {Lp : (St → St) → (St → Option (AI.Exit × St)) → St → Option (AI.Exit × St)} {N : Nat} {s : List UInt8} {f : Nat} {l : List Row}
include pm
variable (h8 : ∀ c : UInt8, S (.fn 8) [.pv (.int .u8 c.toNat)] [] = some (.ret (.pv (.bool (blankB c))), []))
include h8
theorem w4_blank (hf : f < s.length) (hs : s.length ≤ 1048576) (hb : blankB (bt s f) = true) :
    tell M (head 0 rf4_a0) (exec M S Lp 0 rf4_b0 ⟨sV s :: bads 4 ++ (toksV l).1 :: iV f :: bads 32, (toksV l).2, []⟩) =
      some (.normal, true, ⟨sV s :: bads 4 ++ (toksV l).1 :: iV ((f + 1 : Nat)) :: bads 32, (toksV l).2, []⟩) := by
  have hw : IntKind.i64.wrap ((f : Int) + 1) = f + 1 := wrap64 (by omega) (by omega)
  cases l <;> simp [hf, hw, h8, hb, toksV, rf4_b0, exec, runOps, stepG, opRun, sv, strip, evalO, sV, iV, bV, bads, put, ROp.dst, ROp.quiet, guardOf, impAll, pvOf, pvOf?, callRun, callFn, prep, argOf, handOver, behind, takeBack, List.replicate, reachable, reach, addNew, idsOfs, idsOf, Blk.ids, rens, ren, renBlks, renBlk, layOld, layNew, posIn, AM.lent, tell, head, openAll, forget, tidy, List.range, List.range.loop, backR, backV, backId, backVer, toZero, verOf, cellsOf, widOk, mkAgg, splice, resOne, resAll, resVal, runFn, freeze, freezeAll, depth, allPV, isRow, lit?, eqNil, nilOp, flatL, flatLs, headVer, rowsOf, isRow, freezeRow, LV.sc, rowParts, buildParts, okAll, touch, meets, apart, apartAll, runDraw, argIds, rowIds, List.range', rowsWide, byteOf?, byteRow, lendP, Nat.testBit_eq_decide_div_mod_eq, pm.chk, pm.isB, pm.truth, pm.gd, pm.imp, pm.and, pm.pickT, pm.pickF, pm.not, pm.notOk, pm.len, pm.lenL, pm.lenOk, pm.lenOkL, pm.sidx, pm.sidxOk, pm.add, pm.sub, pm.mul, pm.quo, pm.rem, pm.eql, pm.neq, pm.lss, pm.leq, pm.gtr, pm.geq, pm.addOk, pm.subOk, pm.mulOk, pm.quoOk, pm.remOk, pm.eqlOk, pm.neqOk, pm.lssOk, pm.leqOk, pm.gtrOk, pm.geqOk, pm.seql, pm.sneq, pm.seqlOk, pm.sneqOk, pm.beql, pm.bneq, pm.beqlOk, pm.bneqOk, pm.conv, pm.convOk, pm.cut, pm.cutA, pm.cutOk, pm.cutAOk, pm.rowsOk, pm.rlen, pm.cell, pm.wid, pm.widGe, pm.repl, pm.replOk, pm.nat, pm.natOk, pm.rget, pm.rput, pm.sub2, pm.lidx, pm.lidxOk, pm.lim, pm.rapp, pm.rowsL, pm.rowsS, pm.rowsOkL, pm.str, pm.strOk, pm.flatI, pm.flatB, pm.flatS, pm.join, pm.joinOk, pm.pidx, pm.pidxOk, pm.shl, pm.shr, pm.shlOk, pm.shrOk, pm.orI, pm.andI, pm.orOk, pm.andOk, pm.andNI, pm.andNOk]
theorem w4_err (hf : f < s.length) (hb : blankB (bt s f) = false) {r : Row} {e : Int} {p : Nat} (hr : r.length = 4)
    (h9 : S (.fn 9) [.pv (.str s), .pv (.int .i64 f)] [] = some (.ret (.tup [.prow r, .pv (.int .i64 e), .pv (.int .i64 p)]), [])) (he : ¬ e = 0) :
    tell M (head 0 ⟨[2, 3, 4, 5], [], [], []⟩) (exec M S Lp 0 rf4_b0 ⟨sV s :: bads 4 ++ (toksV l).1 :: iV f :: bads 32, (toksV l).2, []⟩) =
      some (.ret, true, ⟨bads 2 ++ (toksV l).1 :: iV e :: iV p :: (toksV l).1 :: bads 33, (toksV l).2, []⟩) := by
  match r, hr with
  | [r0, r1, r2, r3], _ => cases l <;> simp [hf, h8, hb, h9, he, toksV, rf4_b0, exec, runOps, stepG, opRun, sv, strip, evalO, sV, iV, bV, bads, put, ROp.dst, ROp.quiet, guardOf, impAll, pvOf, pvOf?, callRun, callFn, prep, argOf, handOver, behind, takeBack, List.replicate, reachable, reach, addNew, idsOfs, idsOf, Blk.ids, rens, ren, renBlks, renBlk, layOld, layNew, posIn, AM.lent, tell, head, openAll, forget, tidy, List.range, List.range.loop, backR, backV, backId, backVer, toZero, verOf, cellsOf, widOk, mkAgg, splice, resOne, resAll, resVal, runFn, freeze, freezeAll, depth, allPV, isRow, lit?, eqNil, nilOp, flatL, flatLs, headVer, rowsOf, isRow, freezeRow, LV.sc, rowParts, buildParts, okAll, touch, meets, apart, apartAll, runDraw, argIds, rowIds, List.range', rowsWide, byteOf?, byteRow, lendP, Nat.testBit_eq_decide_div_mod_eq, pm.chk, pm.isB, pm.truth, pm.gd, pm.imp, pm.and, pm.pickT, pm.pickF, pm.not, pm.notOk, pm.len, pm.lenL, pm.lenOk, pm.lenOkL, pm.sidx, pm.sidxOk, pm.add, pm.sub, pm.mul, pm.quo, pm.rem, pm.eql, pm.neq, pm.lss, pm.leq, pm.gtr, pm.geq, pm.addOk, pm.subOk, pm.mulOk, pm.quoOk, pm.remOk, pm.eqlOk, pm.neqOk, pm.lssOk, pm.leqOk, pm.gtrOk, pm.geqOk, pm.seql, pm.sneq, pm.seqlOk, pm.sneqOk, pm.beql, pm.bneq, pm.beqlOk, pm.bneqOk, pm.conv, pm.convOk, pm.cut, pm.cutA, pm.cutOk, pm.cutAOk, pm.rowsOk, pm.rlen, pm.cell, pm.wid, pm.widGe, pm.repl, pm.replOk, pm.nat, pm.natOk, pm.rget, pm.rput, pm.sub2, pm.lidx, pm.lidxOk, pm.lim, pm.rapp, pm.rowsL, pm.rowsS, pm.rowsOkL, pm.str, pm.strOk, pm.flatI, pm.flatB, pm.flatS, pm.join, pm.joinOk, pm.pidx, pm.pidxOk, pm.shl, pm.shr, pm.shlOk, pm.shrOk, pm.orI, pm.andI, pm.orOk, pm.andOk, pm.andNI, pm.andNOk]
theorem w4_tok (hf : f < s.length) (hb : blankB (bt s f) = false) {k : Int} {a e : Nat} {t : List UInt8} (hl : l.length + 1 ≤ 439804651110)
    (h9 : S (.fn 9) [.pv (.str s), .pv (.int .i64 f)] [] = some (.ret (.tup [.prow (tokR k a e t), .pv (.int .i64 0), .pv (.int .i64 0)]), [])) :
    tell M (head 0 rf4_a0) (exec M S Lp 0 rf4_b0 ⟨sV s :: bads 4 ++ (toksV l).1 :: iV f :: bads 32, (toksV l).2, []⟩) =
      some (.normal, true, ⟨sV s :: bads 4 ++ (toksV (l ++ [tokR k a e t])).1 :: iV e :: bads 32, (toksV (l ++ [tokR k a e t])).2, []⟩) := by
  have hl' : (l.length + 1) * 40 ≤ 17592186044416 := by omega
  simp only [tokR] at h9
  cases l with
  | nil => simp [hf, h8, hb, h9, toksV, tokR, fxApp, rf4_b0, exec, runOps, stepG, opRun, sv, strip, evalO, sV, iV, bV, bads, put, ROp.dst, ROp.quiet, guardOf, impAll, pvOf, pvOf?, callRun, callFn, prep, argOf, handOver, behind, takeBack, List.replicate, reachable, reach, addNew, idsOfs, idsOf, Blk.ids, rens, ren, renBlks, renBlk, layOld, layNew, posIn, AM.lent, tell, head, openAll, forget, tidy, List.range, List.range.loop, backR, backV, backId, backVer, toZero, verOf, cellsOf, widOk, mkAgg, splice, resOne, resAll, resVal, runFn, freeze, freezeAll, depth, allPV, isRow, lit?, eqNil, nilOp, flatL, flatLs, headVer, rowsOf, isRow, freezeRow, LV.sc, rowParts, buildParts, okAll, touch, meets, apart, apartAll, runDraw, argIds, rowIds, List.range', rowsWide, byteOf?, byteRow, lendP, Nat.testBit_eq_decide_div_mod_eq, pm.chk, pm.isB, pm.truth, pm.gd, pm.imp, pm.and, pm.pickT, pm.pickF, pm.not, pm.notOk, pm.len, pm.lenL, pm.lenOk, pm.lenOkL, pm.sidx, pm.sidxOk, pm.add, pm.sub, pm.mul, pm.quo, pm.rem, pm.eql, pm.neq, pm.lss, pm.leq, pm.gtr, pm.geq, pm.addOk, pm.subOk, pm.mulOk, pm.quoOk, pm.remOk, pm.eqlOk, pm.neqOk, pm.lssOk, pm.leqOk, pm.gtrOk, pm.geqOk, pm.seql, pm.sneq, pm.seqlOk, pm.sneqOk, pm.beql, pm.bneq, pm.beqlOk, pm.bneqOk, pm.conv, pm.convOk, pm.cut, pm.cutA, pm.cutOk, pm.cutAOk, pm.rowsOk, pm.rlen, pm.cell, pm.wid, pm.widGe, pm.repl, pm.replOk, pm.nat, pm.natOk, pm.rget, pm.rput, pm.sub2, pm.lidx, pm.lidxOk, pm.lim, pm.rapp, pm.rowsL, pm.rowsS, pm.rowsOkL, pm.str, pm.strOk, pm.flatI, pm.flatB, pm.flatS, pm.join, pm.joinOk, pm.pidx, pm.pidxOk, pm.shl, pm.shr, pm.shlOk, pm.shrOk, pm.orI, pm.andI, pm.orOk, pm.andOk, pm.andNI, pm.andNOk]
  | cons x y =>
    have hl2 : (y.length + 1 + 1) * 40 ≤ 17592186044416 := by simpa using hl'
    simp [hf, h8, hb, h9, toksV, tokR, hl2, fxApp, rf4_b0, exec, runOps, stepG, opRun, sv, strip, evalO, sV, iV, bV, bads, put, ROp.dst, ROp.quiet, guardOf, impAll, pvOf, pvOf?, callRun, callFn, prep, argOf, handOver, behind, takeBack, List.replicate, reachable, reach, addNew, idsOfs, idsOf, Blk.ids, rens, ren, renBlks, renBlk, layOld, layNew, posIn, AM.lent, tell, head, openAll, forget, tidy, List.range, List.range.loop, backR, backV, backId, backVer, toZero, verOf, cellsOf, widOk, mkAgg, splice, resOne, resAll, resVal, runFn, freeze, freezeAll, depth, allPV, isRow, lit?, eqNil, nilOp, flatL, flatLs, headVer, rowsOf, isRow, freezeRow, LV.sc, rowParts, buildParts, okAll, touch, meets, apart, apartAll, runDraw, argIds, rowIds, List.range', rowsWide, byteOf?, byteRow, lendP, Nat.testBit_eq_decide_div_mod_eq, pm.chk, pm.isB, pm.truth, pm.gd, pm.imp, pm.and, pm.pickT, pm.pickF, pm.not, pm.notOk, pm.len, pm.lenL, pm.lenOk, pm.lenOkL, pm.sidx, pm.sidxOk, pm.add, pm.sub, pm.mul, pm.quo, pm.rem, pm.eql, pm.neq, pm.lss, pm.leq, pm.gtr, pm.geq, pm.addOk, pm.subOk, pm.mulOk, pm.quoOk, pm.remOk, pm.eqlOk, pm.neqOk, pm.lssOk, pm.leqOk, pm.gtrOk, pm.geqOk, pm.seql, pm.sneq, pm.seqlOk, pm.sneqOk, pm.beql, pm.bneq, pm.beqlOk, pm.bneqOk, pm.conv, pm.convOk, pm.cut, pm.cutA, pm.cutOk, pm.cutAOk, pm.rowsOk, pm.rlen, pm.cell, pm.wid, pm.widGe, pm.repl, pm.replOk, pm.nat, pm.natOk, pm.rget, pm.rput, pm.sub2, pm.lidx, pm.lidxOk, pm.lim, pm.rapp, pm.rowsL, pm.rowsS, pm.rowsOkL, pm.str, pm.strOk, pm.flatI, pm.flatB, pm.flatS, pm.join, pm.joinOk, pm.pidx, pm.pidxOk, pm.shl, pm.shr, pm.shlOk, pm.shrOk, pm.orI, pm.andI, pm.orOk, pm.andOk, pm.andNI, pm.andNOk]
omit h8 in
theorem w4_end (hf : ¬ f < s.length) :
    tell M (head 0 ⟨[2, 3, 4, 5], [], [], []⟩) (exec M S Lp 0 rf4_b0 ⟨sV s :: bads 4 ++ (toksV l).1 :: iV f :: bads 32, (toksV l).2, []⟩) =
      some (.exit 0, true, ⟨bads 5 ++ (toksV l).1 :: bads 33, (toksV l).2, []⟩) := by
  cases l <;> simp [hf, toksV, rf4_b0, exec, runOps, stepG, opRun, sv, strip, evalO, sV, iV, bV, bads, put, ROp.dst, ROp.quiet, guardOf, impAll, pvOf, pvOf?, callRun, callFn, prep, argOf, handOver, behind, takeBack, List.replicate, reachable, reach, addNew, idsOfs, idsOf, Blk.ids, rens, ren, renBlks, renBlk, layOld, layNew, posIn, AM.lent, tell, head, openAll, forget, tidy, List.range, List.range.loop, backR, backV, backId, backVer, toZero, verOf, cellsOf, widOk, mkAgg, splice, resOne, resAll, resVal, runFn, freeze, freezeAll, depth, allPV, isRow, lit?, eqNil, nilOp, flatL, flatLs, headVer, rowsOf, isRow, freezeRow, LV.sc, rowParts, buildParts, okAll, touch, meets, apart, apartAll, runDraw, argIds, rowIds, List.range', rowsWide, byteOf?, byteRow, lendP, Nat.testBit_eq_decide_div_mod_eq, pm.chk, pm.isB, pm.truth, pm.gd, pm.imp, pm.and, pm.pickT, pm.pickF, pm.not, pm.notOk, pm.len, pm.lenL, pm.lenOk, pm.lenOkL, pm.sidx, pm.sidxOk, pm.add, pm.sub, pm.mul, pm.quo, pm.rem, pm.eql, pm.neq, pm.lss, pm.leq, pm.gtr, pm.geq, pm.addOk, pm.subOk, pm.mulOk, pm.quoOk, pm.remOk, pm.eqlOk, pm.neqOk, pm.lssOk, pm.leqOk, pm.gtrOk, pm.geqOk, pm.seql, pm.sneq, pm.seqlOk, pm.sneqOk, pm.beql, pm.bneq, pm.beqlOk, pm.bneqOk, pm.conv, pm.convOk, pm.cut, pm.cutA, pm.cutOk, pm.cutAOk, pm.rowsOk, pm.rlen, pm.cell, pm.wid, pm.widGe, pm.repl, pm.replOk, pm.nat, pm.natOk, pm.rget, pm.rput, pm.sub2, pm.lidx, pm.lidxOk, pm.lim, pm.rapp, pm.rowsL, pm.rowsS, pm.rowsOkL, pm.str, pm.strOk, pm.flatI, pm.flatB, pm.flatS, pm.join, pm.joinOk, pm.pidx, pm.pidxOk, pm.shl, pm.shr, pm.shlOk, pm.shrOk, pm.orI, pm.andI, pm.orOk, pm.andOk, pm.andNI, pm.andNOk]

/-- Where the reference's loop leaves. -/
def out4 (l : List Row) (r : Int × Nat) (x : Option (AI.Exit × St)) : Prop :=
  x = some (.ret, ⟨bads 2 ++ (toksV l).1 :: iV r.1 :: iV r.2 :: (toksV l).1 :: bads 33, (toksV l).2, []⟩) ∨ (r = (0, 0) ∧ x = some (.exit 0, ⟨bads 5 ++ (toksV l).1 :: bads 33, (toksV l).2, []⟩))
theorem w4_loop (hs : s.length ≤ 1048576)
    (h9 : ∀ f : Nat, f < s.length → S (.fn 9) [.pv (.str s), .pv (.int .i64 f)] [] = some (.ret (.tup [.prow (nextN s f).1, .pv (.int .i64 (nextN s f).2.1), .pv (.int .i64 (nextN s f).2.2)]), [])) :
    ∀ (k N f : Nat) (l : List Row), s.length - f < k → k ≤ N → l.length ≤ f → out4 (l ++ (seqN s k f).1) (seqN s k f).2
      (outOf (head 0 ⟨[2, 3, 4, 5], [], [], []⟩) (loopAt M N (head 0 rf4_a0) (exec M S Lp 0 rf4_b0) ⟨sV s :: bads 4 ++ (toksV l).1 :: iV f :: bads 32, (toksV l).2, []⟩))
  | 0, _, f, l, h, _, _ => by omega
  | k + 1, 0, _, _, _, h, _ => by omega
  | k + 1, N + 1, f, l, h, hN, hl => by
    simp only [seqN]
    by_cases hf : f < s.length
    · rw [if_pos hf]
      cases hb : blankB (bt s f) with
      | true =>
        rw [if_pos rfl]
        have st := w4_blank (Lp := Lp) (l := l) pm h8 hf hs hb
        rcases w4_loop hs h9 k N (f + 1) l (by omega) (by omega) (by omega) with ih | ⟨ih1, ih⟩
        · exact .inl (loop_next st ih)
        · exact .inr ⟨ih1, loop_next st ih⟩
      | false =>
        rw [if_neg (by simp)]
        have e9 := h9 f hf
        by_cases he : (nextN s f).2.1 = 0
        · obtain ⟨kd, e, t, e1, e2⟩ := nextN_ok hf he
          rw [e1] at e9 ⊢
          rw [if_neg (by simp)]
          have hte : (tokEnd (tokR kd f e t)).toNat = e := by simp [tokEnd, tokR]
          simp only [hte]
          have st := w4_tok (Lp := Lp) (l := l) pm h8 hf hb (by omega) e9
          have ih := w4_loop hs h9 k N e (l ++ [tokR kd f e t]) (by omega) (by omega) (by simp; omega)
          rw [List.append_assoc, List.singleton_append] at ih
          rcases ih with ih | ⟨ih1, ih⟩
          · exact .inl (loop_next st ih)
          · exact .inr ⟨ih1, loop_next st ih⟩
        · rw [if_pos he]
          simp only [List.append_nil]
          exact .inl (loop_out (w4_err pm h8 hf hb nextN_err e9 he) (by simp) (fun _ _ => head_oks _ _))
    · rw [if_neg hf]
      simp only [List.append_nil]
      exact .inr ⟨rfl, loop_out (w4_end pm hf) (by simp) (fun _ _ => head_oks _ _)⟩
theorem w4 (hs : s.length ≤ 1048576) (hN : s.length + 10 < N)
    (h9 : ∀ f : Nat, f < s.length → S (.fn 9) [.pv (.str s), .pv (.int .i64 f)] [] = some (.ret (.tup [.prow (nextN s f).1, .pv (.int .i64 (nextN s f).2.1), .pv (.int .i64 (nextN s f).2.2)]), [])) :
    runFn M S (loopAt M N) rf4 [sV s] [] = some (.ret (.tup [(toksV (seqN s (s.length + 1) 0).1).1, iV (seqN s (s.length + 1) 0).2.1, iV (seqN s (s.length + 1) 0).2.2]), (toksV (seqN s (s.length + 1) 0).1).2) := by
  have hlp := w4_loop (Lp := loopAt M N) pm h8 hs h9 (s.length + 1) N 0 [] (by omega) (by omega) (by simp)
  rw [List.nil_append] at hlp
  generalize seqN s (s.length + 1) 0 = r at *
  obtain ⟨l, e, p⟩ := r
  cases l with
  | nil =>
    simp only [out4, toksV, sV, iV, bads, List.replicate, List.cons_append, List.nil_append, Int.natCast_zero] at hlp
    rcases hlp with hlp | ⟨h0, hlp⟩
    · simp [rf4, toksV, hlp, exec, runOps, stepG, opRun, sv, strip, evalO, sV, iV, bV, bads, put, ROp.dst, ROp.quiet, guardOf, impAll, pvOf, pvOf?, callRun, callFn, prep, argOf, handOver, behind, takeBack, List.replicate, reachable, reach, addNew, idsOfs, idsOf, Blk.ids, rens, ren, renBlks, renBlk, layOld, layNew, posIn, AM.lent, tell, head, openAll, forget, tidy, List.range, List.range.loop, backR, backV, backId, backVer, toZero, verOf, cellsOf, widOk, mkAgg, splice, resOne, resAll, resVal, runFn, freeze, freezeAll, depth, allPV, isRow, lit?, eqNil, nilOp, flatL, flatLs, headVer, rowsOf, isRow, freezeRow, LV.sc, rowParts, buildParts, okAll, touch, meets, apart, apartAll, runDraw, argIds, rowIds, List.range', rowsWide, byteOf?, byteRow, lendP, Nat.testBit_eq_decide_div_mod_eq, pm.chk, pm.isB, pm.truth, pm.gd, pm.imp, pm.and, pm.pickT, pm.pickF, pm.not, pm.notOk, pm.len, pm.lenL, pm.lenOk, pm.lenOkL, pm.sidx, pm.sidxOk, pm.add, pm.sub, pm.mul, pm.quo, pm.rem, pm.eql, pm.neq, pm.lss, pm.leq, pm.gtr, pm.geq, pm.addOk, pm.subOk, pm.mulOk, pm.quoOk, pm.remOk, pm.eqlOk, pm.neqOk, pm.lssOk, pm.leqOk, pm.gtrOk, pm.geqOk, pm.seql, pm.sneq, pm.seqlOk, pm.sneqOk, pm.beql, pm.bneq, pm.beqlOk, pm.bneqOk, pm.conv, pm.convOk, pm.cut, pm.cutA, pm.cutOk, pm.cutAOk, pm.rowsOk, pm.rlen, pm.cell, pm.wid, pm.widGe, pm.repl, pm.replOk, pm.nat, pm.natOk, pm.rget, pm.rput, pm.sub2, pm.lidx, pm.lidxOk, pm.lim, pm.rapp, pm.rowsL, pm.rowsS, pm.rowsOkL, pm.str, pm.strOk, pm.flatI, pm.flatB, pm.flatS, pm.join, pm.joinOk, pm.pidx, pm.pidxOk, pm.shl, pm.shr, pm.shlOk, pm.shrOk, pm.orI, pm.andI, pm.orOk, pm.andOk, pm.andNI, pm.andNOk]
    · simp only [Prod.mk.injEq] at h0
      obtain ⟨rfl, rfl⟩ := h0
      simp [rf4, toksV, hlp, exec, runOps, stepG, opRun, sv, strip, evalO, sV, iV, bV, bads, put, ROp.dst, ROp.quiet, guardOf, impAll, pvOf, pvOf?, callRun, callFn, prep, argOf, handOver, behind, takeBack, List.replicate, reachable, reach, addNew, idsOfs, idsOf, Blk.ids, rens, ren, renBlks, renBlk, layOld, layNew, posIn, AM.lent, tell, head, openAll, forget, tidy, List.range, List.range.loop, backR, backV, backId, backVer, toZero, verOf, cellsOf, widOk, mkAgg, splice, resOne, resAll, resVal, runFn, freeze, freezeAll, depth, allPV, isRow, lit?, eqNil, nilOp, flatL, flatLs, headVer, rowsOf, isRow, freezeRow, LV.sc, rowParts, buildParts, okAll, touch, meets, apart, apartAll, runDraw, argIds, rowIds, List.range', rowsWide, byteOf?, byteRow, lendP, Nat.testBit_eq_decide_div_mod_eq, pm.chk, pm.isB, pm.truth, pm.gd, pm.imp, pm.and, pm.pickT, pm.pickF, pm.not, pm.notOk, pm.len, pm.lenL, pm.lenOk, pm.lenOkL, pm.sidx, pm.sidxOk, pm.add, pm.sub, pm.mul, pm.quo, pm.rem, pm.eql, pm.neq, pm.lss, pm.leq, pm.gtr, pm.geq, pm.addOk, pm.subOk, pm.mulOk, pm.quoOk, pm.remOk, pm.eqlOk, pm.neqOk, pm.lssOk, pm.leqOk, pm.gtrOk, pm.geqOk, pm.seql, pm.sneq, pm.seqlOk, pm.sneqOk, pm.beql, pm.bneq, pm.beqlOk, pm.bneqOk, pm.conv, pm.convOk, pm.cut, pm.cutA, pm.cutOk, pm.cutAOk, pm.rowsOk, pm.rlen, pm.cell, pm.wid, pm.widGe, pm.repl, pm.replOk, pm.nat, pm.natOk, pm.rget, pm.rput, pm.sub2, pm.lidx, pm.lidxOk, pm.lim, pm.rapp, pm.rowsL, pm.rowsS, pm.rowsOkL, pm.str, pm.strOk, pm.flatI, pm.flatB, pm.flatS, pm.join, pm.joinOk, pm.pidx, pm.pidxOk, pm.shl, pm.shr, pm.shlOk, pm.shrOk, pm.orI, pm.andI, pm.orOk, pm.andOk, pm.andNI, pm.andNOk]
  | cons x y =>
    simp only [out4, toksV, sV, iV, bads, List.replicate, List.cons_append, List.nil_append, Int.natCast_zero] at hlp
    rcases hlp with hlp | ⟨h0, hlp⟩
    · simp [rf4, toksV, hlp, exec, runOps, stepG, opRun, sv, strip, evalO, sV, iV, bV, bads, put, ROp.dst, ROp.quiet, guardOf, impAll, pvOf, pvOf?, callRun, callFn, prep, argOf, handOver, behind, takeBack, List.replicate, reachable, reach, addNew, idsOfs, idsOf, Blk.ids, rens, ren, renBlks, renBlk, layOld, layNew, posIn, AM.lent, tell, head, openAll, forget, tidy, List.range, List.range.loop, backR, backV, backId, backVer, toZero, verOf, cellsOf, widOk, mkAgg, splice, resOne, resAll, resVal, runFn, freeze, freezeAll, depth, allPV, isRow, lit?, eqNil, nilOp, flatL, flatLs, headVer, rowsOf, isRow, freezeRow, LV.sc, rowParts, buildParts, okAll, touch, meets, apart, apartAll, runDraw, argIds, rowIds, List.range', rowsWide, byteOf?, byteRow, lendP, Nat.testBit_eq_decide_div_mod_eq, pm.chk, pm.isB, pm.truth, pm.gd, pm.imp, pm.and, pm.pickT, pm.pickF, pm.not, pm.notOk, pm.len, pm.lenL, pm.lenOk, pm.lenOkL, pm.sidx, pm.sidxOk, pm.add, pm.sub, pm.mul, pm.quo, pm.rem, pm.eql, pm.neq, pm.lss, pm.leq, pm.gtr, pm.geq, pm.addOk, pm.subOk, pm.mulOk, pm.quoOk, pm.remOk, pm.eqlOk, pm.neqOk, pm.lssOk, pm.leqOk, pm.gtrOk, pm.geqOk, pm.seql, pm.sneq, pm.seqlOk, pm.sneqOk, pm.beql, pm.bneq, pm.beqlOk, pm.bneqOk, pm.conv, pm.convOk, pm.cut, pm.cutA, pm.cutOk, pm.cutAOk, pm.rowsOk, pm.rlen, pm.cell, pm.wid, pm.widGe, pm.repl, pm.replOk, pm.nat, pm.natOk, pm.rget, pm.rput, pm.sub2, pm.lidx, pm.lidxOk, pm.lim, pm.rapp, pm.rowsL, pm.rowsS, pm.rowsOkL, pm.str, pm.strOk, pm.flatI, pm.flatB, pm.flatS, pm.join, pm.joinOk, pm.pidx, pm.pidxOk, pm.shl, pm.shr, pm.shlOk, pm.shrOk, pm.orI, pm.andI, pm.orOk, pm.andOk, pm.andNI, pm.andNOk]
    · simp only [Prod.mk.injEq] at h0
      obtain ⟨rfl, rfl⟩ := h0
      simp [rf4, toksV, hlp, exec, runOps, stepG, opRun, sv, strip, evalO, sV, iV, bV, bads, put, ROp.dst, ROp.quiet, guardOf, impAll, pvOf, pvOf?, callRun, callFn, prep, argOf, handOver, behind, takeBack, List.replicate, reachable, reach, addNew, idsOfs, idsOf, Blk.ids, rens, ren, renBlks, renBlk, layOld, layNew, posIn, AM.lent, tell, head, openAll, forget, tidy, List.range, List.range.loop, backR, backV, backId, backVer, toZero, verOf, cellsOf, widOk, mkAgg, splice, resOne, resAll, resVal, runFn, freeze, freezeAll, depth, allPV, isRow, lit?, eqNil, nilOp, flatL, flatLs, headVer, rowsOf, isRow, freezeRow, LV.sc, rowParts, buildParts, okAll, touch, meets, apart, apartAll, runDraw, argIds, rowIds, List.range', rowsWide, byteOf?, byteRow, lendP, Nat.testBit_eq_decide_div_mod_eq, pm.chk, pm.isB, pm.truth, pm.gd, pm.imp, pm.and, pm.pickT, pm.pickF, pm.not, pm.notOk, pm.len, pm.lenL, pm.lenOk, pm.lenOkL, pm.sidx, pm.sidxOk, pm.add, pm.sub, pm.mul, pm.quo, pm.rem, pm.eql, pm.neq, pm.lss, pm.leq, pm.gtr, pm.geq, pm.addOk, pm.subOk, pm.mulOk, pm.quoOk, pm.remOk, pm.eqlOk, pm.neqOk, pm.lssOk, pm.leqOk, pm.gtrOk, pm.geqOk, pm.seql, pm.sneq, pm.seqlOk, pm.sneqOk, pm.beql, pm.bneq, pm.beqlOk, pm.bneqOk, pm.conv, pm.convOk, pm.cut, pm.cutA, pm.cutOk, pm.cutAOk, pm.rowsOk, pm.rlen, pm.cell, pm.wid, pm.widGe, pm.repl, pm.replOk, pm.nat, pm.natOk, pm.rget, pm.rput, pm.sub2, pm.lidx, pm.lidxOk, pm.lim, pm.rapp, pm.rowsL, pm.rowsS, pm.rowsOkL, pm.str, pm.strOk, pm.flatI, pm.flatB, pm.flatS, pm.join, pm.joinOk, pm.pidx, pm.pidxOk, pm.shl, pm.shr, pm.shlOk, pm.shrOk, pm.orI, pm.andI, pm.orOk, pm.andOk, pm.andNI, pm.andNOk]
end
end AI.Tok
end

section
namespace AI.Tok
open Go AI
set_option maxRecDepth 100000
set_option maxHeartbeats 4000000
set_option linter.unusedSimpArgs false
set_option linter.unusedVariables false

/-- The cutter. -/
def cutH (ty : Nat) (s : List UInt8) (a p : Nat) : List Blk := [.data [.pv (.str s), .pv (.int .i64 a), .pv (.int .i64 p)] ty]

section
variable {M : Prims} (pm : PM M) {S : SFn} {Lp : (St → St) → (St → Option (AI.Exit × St)) → St → Option (AI.Exit × St)} {N : Nat} {s : List UInt8} {f p ty : Nat}
include pm
theorem w25 : runFn M S Lp rf25 [.ptr 0 0] (cutH ty s f p) = some (.ret (.tup [.prow zeroR, .pv (.int .i64 40)]), cutH ty s f f) := by
  simp [rf25, cutH, zeroR, exec, runOps, stepG, opRun, sv, strip, evalO, sV, iV, bV, bads, put, ROp.dst, ROp.quiet, guardOf, impAll, pvOf, pvOf?, callRun, callFn, prep, argOf, handOver, behind, takeBack, List.replicate, reachable, reach, addNew, idsOfs, idsOf, Blk.ids, rens, ren, renBlks, renBlk, layOld, layNew, posIn, AM.lent, tell, head, openAll, forget, tidy, List.range, List.range.loop, backR, backV, backId, backVer, toZero, verOf, cellsOf, widOk, mkAgg, splice, resOne, resAll, resVal, runFn, freeze, freezeAll, depth, allPV, isRow, lit?, eqNil, nilOp, flatL, flatLs, headVer, rowsOf, isRow, freezeRow, LV.sc, rowParts, buildParts, okAll, touch, meets, apart, apartAll, runDraw, argIds, rowIds, List.range', rowsWide, byteOf?, byteRow, lendP, Nat.testBit_eq_decide_div_mod_eq, pm.chk, pm.isB, pm.truth, pm.gd, pm.imp, pm.and, pm.pickT, pm.pickF, pm.not, pm.notOk, pm.len, pm.lenL, pm.lenOk, pm.lenOkL, pm.sidx, pm.sidxOk, pm.add, pm.sub, pm.mul, pm.quo, pm.rem, pm.eql, pm.neq, pm.lss, pm.leq, pm.gtr, pm.geq, pm.addOk, pm.subOk, pm.mulOk, pm.quoOk, pm.remOk, pm.eqlOk, pm.neqOk, pm.lssOk, pm.leqOk, pm.gtrOk, pm.geqOk, pm.seql, pm.sneq, pm.seqlOk, pm.sneqOk, pm.beql, pm.bneq, pm.beqlOk, pm.bneqOk, pm.conv, pm.convOk, pm.cut, pm.cutA, pm.cutOk, pm.cutAOk, pm.rowsOk, pm.rlen, pm.cell, pm.wid, pm.widGe, pm.repl, pm.replOk, pm.nat, pm.natOk, pm.rget, pm.rput, pm.sub2, pm.lidx, pm.lidxOk, pm.lim, pm.rapp, pm.rowsL, pm.rowsS, pm.rowsOkL, pm.str, pm.strOk, pm.flatI, pm.flatB, pm.flatS, pm.join, pm.joinOk, pm.pidx, pm.pidxOk, pm.shl, pm.shr, pm.shlOk, pm.shrOk, pm.orI, pm.andI, pm.orOk, pm.andOk, pm.andNI, pm.andNOk]
theorem w26 {g : Int} (hf : f < s.length) (hs : s.length ≤ 1048576) (hg : IntKind.i64.wrap (g + 1) = g + 1) (h30 : S (.fn 30) [.pv (.str [123, 125, 91, 93, 58, 44]), .pv (.int .u8 (bt s f).toNat)] [] = some (.ret (.pv (.int .i64 g)), [])) :
    runFn M S Lp rf26 [.ptr 0 0] (cutH ty s f p) = some (.ret (.tup [.prow (tokR (g + 1) f (f + 1) []), .pv (.int .i64 0)]), cutH ty s f p) := by
  have hw : IntKind.i64.wrap ((f : Int) + 1) = f + 1 := wrap64 (by omega) (by omega)
  simp [rf26, cutH, hf, hw, hg, h30, tokR, exec, runOps, stepG, opRun, sv, strip, evalO, sV, iV, bV, bads, put, ROp.dst, ROp.quiet, guardOf, impAll, pvOf, pvOf?, callRun, callFn, prep, argOf, handOver, behind, takeBack, List.replicate, reachable, reach, addNew, idsOfs, idsOf, Blk.ids, rens, ren, renBlks, renBlk, layOld, layNew, posIn, AM.lent, tell, head, openAll, forget, tidy, List.range, List.range.loop, backR, backV, backId, backVer, toZero, verOf, cellsOf, widOk, mkAgg, splice, resOne, resAll, resVal, runFn, freeze, freezeAll, depth, allPV, isRow, lit?, eqNil, nilOp, flatL, flatLs, headVer, rowsOf, isRow, freezeRow, LV.sc, rowParts, buildParts, okAll, touch, meets, apart, apartAll, runDraw, argIds, rowIds, List.range', rowsWide, byteOf?, byteRow, lendP, Nat.testBit_eq_decide_div_mod_eq, pm.chk, pm.isB, pm.truth, pm.gd, pm.imp, pm.and, pm.pickT, pm.pickF, pm.not, pm.notOk, pm.len, pm.lenL, pm.lenOk, pm.lenOkL, pm.sidx, pm.sidxOk, pm.add, pm.sub, pm.mul, pm.quo, pm.rem, pm.eql, pm.neq, pm.lss, pm.leq, pm.gtr, pm.geq, pm.addOk, pm.subOk, pm.mulOk, pm.quoOk, pm.remOk, pm.eqlOk, pm.neqOk, pm.lssOk, pm.leqOk, pm.gtrOk, pm.geqOk, pm.seql, pm.sneq, pm.seqlOk, pm.sneqOk, pm.beql, pm.bneq, pm.beqlOk, pm.bneqOk, pm.conv, pm.convOk, pm.cut, pm.cutA, pm.cutOk, pm.cutAOk, pm.rowsOk, pm.rlen, pm.cell, pm.wid, pm.widGe, pm.repl, pm.replOk, pm.nat, pm.natOk, pm.rget, pm.rput, pm.sub2, pm.lidx, pm.lidxOk, pm.lim, pm.rapp, pm.rowsL, pm.rowsS, pm.rowsOkL, pm.str, pm.strOk, pm.flatI, pm.flatB, pm.flatS, pm.join, pm.joinOk, pm.pidx, pm.pidxOk, pm.shl, pm.shr, pm.shlOk, pm.shrOk, pm.orI, pm.andI, pm.orOk, pm.andOk, pm.andNI, pm.andNOk]
theorem w27 {e : Nat} (h36 : S (.fn 36) [.fp [.str s, .int .i64 f, .int .i64 p] 0, .pv (.str [])] [] = some (.ret (.pv (.int .i64 e)), [])) (e1 : f ≤ e) (e2 : e ≤ s.length) :
    runFn M S Lp rf27 [.ptr 0 0] (cutH ty s f p) = some (.ret (.tup [.prow (if wordN ((s.take e).drop f) = 0 then zeroR else tokR (wordN ((s.take e).drop f)) f e []), .pv (.int .i64 (if wordN ((s.take e).drop f) = 0 then 41 else 0))]),
      cutH ty s f (if wordN ((s.take e).drop f) = 0 then f else p)) := by
  by_cases h1 : (s.take e).drop f = [110, 117, 108, 108]
  · simp [rf27, cutH, h36, e1, e2, h1, wordN, tokR, zeroR, exec, runOps, stepG, opRun, sv, strip, evalO, sV, iV, bV, bads, put, ROp.dst, ROp.quiet, guardOf, impAll, pvOf, pvOf?, callRun, callFn, prep, argOf, handOver, behind, takeBack, List.replicate, reachable, reach, addNew, idsOfs, idsOf, Blk.ids, rens, ren, renBlks, renBlk, layOld, layNew, posIn, AM.lent, tell, head, openAll, forget, tidy, List.range, List.range.loop, backR, backV, backId, backVer, toZero, verOf, cellsOf, widOk, mkAgg, splice, resOne, resAll, resVal, runFn, freeze, freezeAll, depth, allPV, isRow, lit?, eqNil, nilOp, flatL, flatLs, headVer, rowsOf, isRow, freezeRow, LV.sc, rowParts, buildParts, okAll, touch, meets, apart, apartAll, runDraw, argIds, rowIds, List.range', rowsWide, byteOf?, byteRow, lendP, Nat.testBit_eq_decide_div_mod_eq, pm.chk, pm.isB, pm.truth, pm.gd, pm.imp, pm.and, pm.pickT, pm.pickF, pm.not, pm.notOk, pm.len, pm.lenL, pm.lenOk, pm.lenOkL, pm.sidx, pm.sidxOk, pm.add, pm.sub, pm.mul, pm.quo, pm.rem, pm.eql, pm.neq, pm.lss, pm.leq, pm.gtr, pm.geq, pm.addOk, pm.subOk, pm.mulOk, pm.quoOk, pm.remOk, pm.eqlOk, pm.neqOk, pm.lssOk, pm.leqOk, pm.gtrOk, pm.geqOk, pm.seql, pm.sneq, pm.seqlOk, pm.sneqOk, pm.beql, pm.bneq, pm.beqlOk, pm.bneqOk, pm.conv, pm.convOk, pm.cut, pm.cutA, pm.cutOk, pm.cutAOk, pm.rowsOk, pm.rlen, pm.cell, pm.wid, pm.widGe, pm.repl, pm.replOk, pm.nat, pm.natOk, pm.rget, pm.rput, pm.sub2, pm.lidx, pm.lidxOk, pm.lim, pm.rapp, pm.rowsL, pm.rowsS, pm.rowsOkL, pm.str, pm.strOk, pm.flatI, pm.flatB, pm.flatS, pm.join, pm.joinOk, pm.pidx, pm.pidxOk, pm.shl, pm.shr, pm.shlOk, pm.shrOk, pm.orI, pm.andI, pm.orOk, pm.andOk, pm.andNI, pm.andNOk]
  by_cases h2 : (s.take e).drop f = [102, 97, 108, 115, 101]
  · simp [rf27, cutH, h36, e1, e2, h2, wordN, tokR, zeroR, exec, runOps, stepG, opRun, sv, strip, evalO, sV, iV, bV, bads, put, ROp.dst, ROp.quiet, guardOf, impAll, pvOf, pvOf?, callRun, callFn, prep, argOf, handOver, behind, takeBack, List.replicate, reachable, reach, addNew, idsOfs, idsOf, Blk.ids, rens, ren, renBlks, renBlk, layOld, layNew, posIn, AM.lent, tell, head, openAll, forget, tidy, List.range, List.range.loop, backR, backV, backId, backVer, toZero, verOf, cellsOf, widOk, mkAgg, splice, resOne, resAll, resVal, runFn, freeze, freezeAll, depth, allPV, isRow, lit?, eqNil, nilOp, flatL, flatLs, headVer, rowsOf, isRow, freezeRow, LV.sc, rowParts, buildParts, okAll, touch, meets, apart, apartAll, runDraw, argIds, rowIds, List.range', rowsWide, byteOf?, byteRow, lendP, Nat.testBit_eq_decide_div_mod_eq, pm.chk, pm.isB, pm.truth, pm.gd, pm.imp, pm.and, pm.pickT, pm.pickF, pm.not, pm.notOk, pm.len, pm.lenL, pm.lenOk, pm.lenOkL, pm.sidx, pm.sidxOk, pm.add, pm.sub, pm.mul, pm.quo, pm.rem, pm.eql, pm.neq, pm.lss, pm.leq, pm.gtr, pm.geq, pm.addOk, pm.subOk, pm.mulOk, pm.quoOk, pm.remOk, pm.eqlOk, pm.neqOk, pm.lssOk, pm.leqOk, pm.gtrOk, pm.geqOk, pm.seql, pm.sneq, pm.seqlOk, pm.sneqOk, pm.beql, pm.bneq, pm.beqlOk, pm.bneqOk, pm.conv, pm.convOk, pm.cut, pm.cutA, pm.cutOk, pm.cutAOk, pm.rowsOk, pm.rlen, pm.cell, pm.wid, pm.widGe, pm.repl, pm.replOk, pm.nat, pm.natOk, pm.rget, pm.rput, pm.sub2, pm.lidx, pm.lidxOk, pm.lim, pm.rapp, pm.rowsL, pm.rowsS, pm.rowsOkL, pm.str, pm.strOk, pm.flatI, pm.flatB, pm.flatS, pm.join, pm.joinOk, pm.pidx, pm.pidxOk, pm.shl, pm.shr, pm.shlOk, pm.shrOk, pm.orI, pm.andI, pm.orOk, pm.andOk, pm.andNI, pm.andNOk]
  by_cases h3 : (s.take e).drop f = [116, 114, 117, 101]
  · simp [rf27, cutH, h36, e1, e2, h3, wordN, tokR, zeroR, exec, runOps, stepG, opRun, sv, strip, evalO, sV, iV, bV, bads, put, ROp.dst, ROp.quiet, guardOf, impAll, pvOf, pvOf?, callRun, callFn, prep, argOf, handOver, behind, takeBack, List.replicate, reachable, reach, addNew, idsOfs, idsOf, Blk.ids, rens, ren, renBlks, renBlk, layOld, layNew, posIn, AM.lent, tell, head, openAll, forget, tidy, List.range, List.range.loop, backR, backV, backId, backVer, toZero, verOf, cellsOf, widOk, mkAgg, splice, resOne, resAll, resVal, runFn, freeze, freezeAll, depth, allPV, isRow, lit?, eqNil, nilOp, flatL, flatLs, headVer, rowsOf, isRow, freezeRow, LV.sc, rowParts, buildParts, okAll, touch, meets, apart, apartAll, runDraw, argIds, rowIds, List.range', rowsWide, byteOf?, byteRow, lendP, Nat.testBit_eq_decide_div_mod_eq, pm.chk, pm.isB, pm.truth, pm.gd, pm.imp, pm.and, pm.pickT, pm.pickF, pm.not, pm.notOk, pm.len, pm.lenL, pm.lenOk, pm.lenOkL, pm.sidx, pm.sidxOk, pm.add, pm.sub, pm.mul, pm.quo, pm.rem, pm.eql, pm.neq, pm.lss, pm.leq, pm.gtr, pm.geq, pm.addOk, pm.subOk, pm.mulOk, pm.quoOk, pm.remOk, pm.eqlOk, pm.neqOk, pm.lssOk, pm.leqOk, pm.gtrOk, pm.geqOk, pm.seql, pm.sneq, pm.seqlOk, pm.sneqOk, pm.beql, pm.bneq, pm.beqlOk, pm.bneqOk, pm.conv, pm.convOk, pm.cut, pm.cutA, pm.cutOk, pm.cutAOk, pm.rowsOk, pm.rlen, pm.cell, pm.wid, pm.widGe, pm.repl, pm.replOk, pm.nat, pm.natOk, pm.rget, pm.rput, pm.sub2, pm.lidx, pm.lidxOk, pm.lim, pm.rapp, pm.rowsL, pm.rowsS, pm.rowsOkL, pm.str, pm.strOk, pm.flatI, pm.flatB, pm.flatS, pm.join, pm.joinOk, pm.pidx, pm.pidxOk, pm.shl, pm.shr, pm.shlOk, pm.shrOk, pm.orI, pm.andI, pm.orOk, pm.andOk, pm.andNI, pm.andNOk]
  · simp [rf27, cutH, h36, e1, e2, h1, h2, h3, wordN, tokR, zeroR, exec, runOps, stepG, opRun, sv, strip, evalO, sV, iV, bV, bads, put, ROp.dst, ROp.quiet, guardOf, impAll, pvOf, pvOf?, callRun, callFn, prep, argOf, handOver, behind, takeBack, List.replicate, reachable, reach, addNew, idsOfs, idsOf, Blk.ids, rens, ren, renBlks, renBlk, layOld, layNew, posIn, AM.lent, tell, head, openAll, forget, tidy, List.range, List.range.loop, backR, backV, backId, backVer, toZero, verOf, cellsOf, widOk, mkAgg, splice, resOne, resAll, resVal, runFn, freeze, freezeAll, depth, allPV, isRow, lit?, eqNil, nilOp, flatL, flatLs, headVer, rowsOf, isRow, freezeRow, LV.sc, rowParts, buildParts, okAll, touch, meets, apart, apartAll, runDraw, argIds, rowIds, List.range', rowsWide, byteOf?, byteRow, lendP, Nat.testBit_eq_decide_div_mod_eq, pm.chk, pm.isB, pm.truth, pm.gd, pm.imp, pm.and, pm.pickT, pm.pickF, pm.not, pm.notOk, pm.len, pm.lenL, pm.lenOk, pm.lenOkL, pm.sidx, pm.sidxOk, pm.add, pm.sub, pm.mul, pm.quo, pm.rem, pm.eql, pm.neq, pm.lss, pm.leq, pm.gtr, pm.geq, pm.addOk, pm.subOk, pm.mulOk, pm.quoOk, pm.remOk, pm.eqlOk, pm.neqOk, pm.lssOk, pm.leqOk, pm.gtrOk, pm.geqOk, pm.seql, pm.sneq, pm.seqlOk, pm.sneqOk, pm.beql, pm.bneq, pm.beqlOk, pm.bneqOk, pm.conv, pm.convOk, pm.cut, pm.cutA, pm.cutOk, pm.cutAOk, pm.rowsOk, pm.rlen, pm.cell, pm.wid, pm.widGe, pm.repl, pm.replOk, pm.nat, pm.natOk, pm.rget, pm.rput, pm.sub2, pm.lidx, pm.lidxOk, pm.lim, pm.rapp, pm.rowsL, pm.rowsS, pm.rowsOkL, pm.str, pm.strOk, pm.flatI, pm.flatB, pm.flatS, pm.join, pm.joinOk, pm.pidx, pm.pidxOk, pm.shl, pm.shr, pm.shlOk, pm.shrOk, pm.orI, pm.andI, pm.orOk, pm.andOk, pm.andNI, pm.andNOk]
theorem w28 {e : Nat} {u : List UInt8} (hu : u = if (s.take e).drop f = [45, 48] then [48] else (s.take e).drop f) (h36 : S (.fn 36) [.fp [.str s, .int .i64 f, .int .i64 p] 0, .pv (.str [43, 45, 46])] [] = some (.ret (.pv (.int .i64 e)), []))
    (h37 : S (.fn 37) [.pv (.str u)] [] = some (.ret (.pv (.bool (formed u))), [])) (e1 : f ≤ e) (e2 : e ≤ s.length) :
    runFn M S Lp rf28 [.ptr 0 0] (cutH ty s f p) = some (.ret (.tup [.prow (if formed u = false then zeroR else tokR 10 f e u), .pv (.int .i64 (if formed u = false then 42 else 0))]), cutH ty s f (if formed u = false then f else p)) := by
  by_cases h1 : (s.take e).drop f = [45, 48]
  · rw [if_pos h1] at hu
    subst hu
    cases hd : formed [48]
    · exact absurd hd (by decide)
    · rw [hd] at h37
      simp [rf28, cutH, h36, e1, e2, h1, h37, tokR, zeroR, exec, runOps, stepG, opRun, sv, strip, evalO, sV, iV, bV, bads, put, ROp.dst, ROp.quiet, guardOf, impAll, pvOf, pvOf?, callRun, callFn, prep, argOf, handOver, behind, takeBack, List.replicate, reachable, reach, addNew, idsOfs, idsOf, Blk.ids, rens, ren, renBlks, renBlk, layOld, layNew, posIn, AM.lent, tell, head, openAll, forget, tidy, List.range, List.range.loop, backR, backV, backId, backVer, toZero, verOf, cellsOf, widOk, mkAgg, splice, resOne, resAll, resVal, runFn, freeze, freezeAll, depth, allPV, isRow, lit?, eqNil, nilOp, flatL, flatLs, headVer, rowsOf, isRow, freezeRow, LV.sc, rowParts, buildParts, okAll, touch, meets, apart, apartAll, runDraw, argIds, rowIds, List.range', rowsWide, byteOf?, byteRow, lendP, Nat.testBit_eq_decide_div_mod_eq, pm.chk, pm.isB, pm.truth, pm.gd, pm.imp, pm.and, pm.pickT, pm.pickF, pm.not, pm.notOk, pm.len, pm.lenL, pm.lenOk, pm.lenOkL, pm.sidx, pm.sidxOk, pm.add, pm.sub, pm.mul, pm.quo, pm.rem, pm.eql, pm.neq, pm.lss, pm.leq, pm.gtr, pm.geq, pm.addOk, pm.subOk, pm.mulOk, pm.quoOk, pm.remOk, pm.eqlOk, pm.neqOk, pm.lssOk, pm.leqOk, pm.gtrOk, pm.geqOk, pm.seql, pm.sneq, pm.seqlOk, pm.sneqOk, pm.beql, pm.bneq, pm.beqlOk, pm.bneqOk, pm.conv, pm.convOk, pm.cut, pm.cutA, pm.cutOk, pm.cutAOk, pm.rowsOk, pm.rlen, pm.cell, pm.wid, pm.widGe, pm.repl, pm.replOk, pm.nat, pm.natOk, pm.rget, pm.rput, pm.sub2, pm.lidx, pm.lidxOk, pm.lim, pm.rapp, pm.rowsL, pm.rowsS, pm.rowsOkL, pm.str, pm.strOk, pm.flatI, pm.flatB, pm.flatS, pm.join, pm.joinOk, pm.pidx, pm.pidxOk, pm.shl, pm.shr, pm.shlOk, pm.shrOk, pm.orI, pm.andI, pm.orOk, pm.andOk, pm.andNI, pm.andNOk]
  · rw [if_neg h1] at hu
    subst hu
    cases hd : formed ((s.take e).drop f) <;> rw [hd] at h37 <;> simp [rf28, cutH, h36, e1, e2, h1, h37, tokR, zeroR, exec, runOps, stepG, opRun, sv, strip, evalO, sV, iV, bV, bads, put, ROp.dst, ROp.quiet, guardOf, impAll, pvOf, pvOf?, callRun, callFn, prep, argOf, handOver, behind, takeBack, List.replicate, reachable, reach, addNew, idsOfs, idsOf, Blk.ids, rens, ren, renBlks, renBlk, layOld, layNew, posIn, AM.lent, tell, head, openAll, forget, tidy, List.range, List.range.loop, backR, backV, backId, backVer, toZero, verOf, cellsOf, widOk, mkAgg, splice, resOne, resAll, resVal, runFn, freeze, freezeAll, depth, allPV, isRow, lit?, eqNil, nilOp, flatL, flatLs, headVer, rowsOf, isRow, freezeRow, LV.sc, rowParts, buildParts, okAll, touch, meets, apart, apartAll, runDraw, argIds, rowIds, List.range', rowsWide, byteOf?, byteRow, lendP, Nat.testBit_eq_decide_div_mod_eq, pm.chk, pm.isB, pm.truth, pm.gd, pm.imp, pm.and, pm.pickT, pm.pickF, pm.not, pm.notOk, pm.len, pm.lenL, pm.lenOk, pm.lenOkL, pm.sidx, pm.sidxOk, pm.add, pm.sub, pm.mul, pm.quo, pm.rem, pm.eql, pm.neq, pm.lss, pm.leq, pm.gtr, pm.geq, pm.addOk, pm.subOk, pm.mulOk, pm.quoOk, pm.remOk, pm.eqlOk, pm.neqOk, pm.lssOk, pm.leqOk, pm.gtrOk, pm.geqOk, pm.seql, pm.sneq, pm.seqlOk, pm.sneqOk, pm.beql, pm.bneq, pm.beqlOk, pm.bneqOk, pm.conv, pm.convOk, pm.cut, pm.cutA, pm.cutOk, pm.cutAOk, pm.rowsOk, pm.rlen, pm.cell, pm.wid, pm.widGe, pm.repl, pm.replOk, pm.nat, pm.natOk, pm.rget, pm.rput, pm.sub2, pm.lidx, pm.lidxOk, pm.lim, pm.rapp, pm.rowsL, pm.rowsS, pm.rowsOkL, pm.str, pm.strOk, pm.flatI, pm.flatB, pm.flatS, pm.join, pm.joinOk, pm.pidx, pm.pidxOk, pm.shl, pm.shr, pm.shlOk, pm.shrOk, pm.orI, pm.andI, pm.orOk, pm.andOk, pm.andNI, pm.andNOk]
theorem w29 {u : List UInt8 × Nat × Int} (h38 : S (.fn 38) [.pv (.str s), .pv (.int .i64 f)] [] = some (.ret (.tup [.pv (.str u.1), .pv (.int .i64 u.2.1), .pv (.int .i64 u.2.2)]), [])) :
    runFn M S Lp rf29 [.ptr 0 0] (cutH ty s f p) = some (.ret (.tup [.prow (if ¬ u.2.2 = 0 then zeroR else tokR 11 f u.2.1 u.1), .pv (.int .i64 (if ¬ u.2.2 = 0 then u.2.2 else 0))]), cutH ty s f (if ¬ u.2.2 = 0 then u.2.1 else p)) := by
  by_cases h : u.2.2 = 0
  · simp [rf29, cutH, h38, h, tokR, zeroR, exec, runOps, stepG, opRun, sv, strip, evalO, sV, iV, bV, bads, put, ROp.dst, ROp.quiet, guardOf, impAll, pvOf, pvOf?, callRun, callFn, prep, argOf, handOver, behind, takeBack, List.replicate, reachable, reach, addNew, idsOfs, idsOf, Blk.ids, rens, ren, renBlks, renBlk, layOld, layNew, posIn, AM.lent, tell, head, openAll, forget, tidy, List.range, List.range.loop, backR, backV, backId, backVer, toZero, verOf, cellsOf, widOk, mkAgg, splice, resOne, resAll, resVal, runFn, freeze, freezeAll, depth, allPV, isRow, lit?, eqNil, nilOp, flatL, flatLs, headVer, rowsOf, isRow, freezeRow, LV.sc, rowParts, buildParts, okAll, touch, meets, apart, apartAll, runDraw, argIds, rowIds, List.range', rowsWide, byteOf?, byteRow, lendP, Nat.testBit_eq_decide_div_mod_eq, pm.chk, pm.isB, pm.truth, pm.gd, pm.imp, pm.and, pm.pickT, pm.pickF, pm.not, pm.notOk, pm.len, pm.lenL, pm.lenOk, pm.lenOkL, pm.sidx, pm.sidxOk, pm.add, pm.sub, pm.mul, pm.quo, pm.rem, pm.eql, pm.neq, pm.lss, pm.leq, pm.gtr, pm.geq, pm.addOk, pm.subOk, pm.mulOk, pm.quoOk, pm.remOk, pm.eqlOk, pm.neqOk, pm.lssOk, pm.leqOk, pm.gtrOk, pm.geqOk, pm.seql, pm.sneq, pm.seqlOk, pm.sneqOk, pm.beql, pm.bneq, pm.beqlOk, pm.bneqOk, pm.conv, pm.convOk, pm.cut, pm.cutA, pm.cutOk, pm.cutAOk, pm.rowsOk, pm.rlen, pm.cell, pm.wid, pm.widGe, pm.repl, pm.replOk, pm.nat, pm.natOk, pm.rget, pm.rput, pm.sub2, pm.lidx, pm.lidxOk, pm.lim, pm.rapp, pm.rowsL, pm.rowsS, pm.rowsOkL, pm.str, pm.strOk, pm.flatI, pm.flatB, pm.flatS, pm.join, pm.joinOk, pm.pidx, pm.pidxOk, pm.shl, pm.shr, pm.shlOk, pm.shrOk, pm.orI, pm.andI, pm.orOk, pm.andOk, pm.andNI, pm.andNOk]
  · simp [rf29, cutH, h38, h, tokR, zeroR, exec, runOps, stepG, opRun, sv, strip, evalO, sV, iV, bV, bads, put, ROp.dst, ROp.quiet, guardOf, impAll, pvOf, pvOf?, callRun, callFn, prep, argOf, handOver, behind, takeBack, List.replicate, reachable, reach, addNew, idsOfs, idsOf, Blk.ids, rens, ren, renBlks, renBlk, layOld, layNew, posIn, AM.lent, tell, head, openAll, forget, tidy, List.range, List.range.loop, backR, backV, backId, backVer, toZero, verOf, cellsOf, widOk, mkAgg, splice, resOne, resAll, resVal, runFn, freeze, freezeAll, depth, allPV, isRow, lit?, eqNil, nilOp, flatL, flatLs, headVer, rowsOf, isRow, freezeRow, LV.sc, rowParts, buildParts, okAll, touch, meets, apart, apartAll, runDraw, argIds, rowIds, List.range', rowsWide, byteOf?, byteRow, lendP, Nat.testBit_eq_decide_div_mod_eq, pm.chk, pm.isB, pm.truth, pm.gd, pm.imp, pm.and, pm.pickT, pm.pickF, pm.not, pm.notOk, pm.len, pm.lenL, pm.lenOk, pm.lenOkL, pm.sidx, pm.sidxOk, pm.add, pm.sub, pm.mul, pm.quo, pm.rem, pm.eql, pm.neq, pm.lss, pm.leq, pm.gtr, pm.geq, pm.addOk, pm.subOk, pm.mulOk, pm.quoOk, pm.remOk, pm.eqlOk, pm.neqOk, pm.lssOk, pm.leqOk, pm.gtrOk, pm.geqOk, pm.seql, pm.sneq, pm.seqlOk, pm.sneqOk, pm.beql, pm.bneq, pm.beqlOk, pm.bneqOk, pm.conv, pm.convOk, pm.cut, pm.cutA, pm.cutOk, pm.cutAOk, pm.rowsOk, pm.rlen, pm.cell, pm.wid, pm.widGe, pm.repl, pm.replOk, pm.nat, pm.natOk, pm.rget, pm.rput, pm.sub2, pm.lidx, pm.lidxOk, pm.lim, pm.rapp, pm.rowsL, pm.rowsS, pm.rowsOkL, pm.str, pm.strOk, pm.flatI, pm.flatB, pm.flatS, pm.join, pm.joinOk, pm.pidx, pm.pidxOk, pm.shl, pm.shr, pm.shlOk, pm.shrOk, pm.orI, pm.andI, pm.orOk, pm.andOk, pm.andNI, pm.andNOk]
end
end AI.Tok
end

section
namespace AI.Tok
open Go AI
set_option maxRecDepth 100000
set_option maxHeartbeats 4000000
set_option linter.unusedSimpArgs false
set_option linter.unusedVariables false

/-- Which taker takes it. -/
def pickN (c : UInt8) : Nat := if 0 < markN c then 1 else if letterB c then 2 else if digitB c || c.toNat == 45 then 3 else if c.toNat == 34 then 4 else 0
theorem pickN_lt (c : UInt8) : pickN c < 5 := by unfold pickN; split; omega; split; omega; split; omega; split <;> omega
theorem letter_34 {c : UInt8} (h : c.toNat = 34) : letterB c = false ∧ digitB c = false := by
  have : c = 34 := UInt8.toNat_inj.1 (by simpa using h)
  subst this; decide

section
variable {S : SFn} {s : List UInt8} {f p : Nat}
theorem taken (h25 : S (.fn 25) [.ptr 0 0] (cutH 0 s f p) = some (.ret (.tup [.prow zeroR, .pv (.int .i64 40)]), cutH 0 s f f))
    (h26 : S (.fn 26) [.ptr 0 0] (cutH 0 s f p) = some (.ret (.tup [.prow (tokR (markN (bt s f)) f (f + 1) []), .pv (.int .i64 0)]), cutH 0 s f p))
    (h27 : S (.fn 27) [.ptr 0 0] (cutH 0 s f p) = some (.ret (.tup [.prow (if wordN ((s.take (runEnd wordB s f)).drop f) = 0 then zeroR else tokR (wordN ((s.take (runEnd wordB s f)).drop f)) f (runEnd wordB s f) []), .pv (.int .i64 (if wordN ((s.take (runEnd wordB s f)).drop f) = 0 then 41 else 0))]),
      cutH 0 s f (if wordN ((s.take (runEnd wordB s f)).drop f) = 0 then f else p)))
    (h28 : S (.fn 28) [.ptr 0 0] (cutH 0 s f p) = some (.ret (.tup [.prow (if formed (says s f) = false then zeroR else tokR 10 f (runEnd numB s f) (says s f)), .pv (.int .i64 (if formed (says s f) = false then 42 else 0))]), cutH 0 s f (if formed (says s f) = false then f else p)))
    (h29 : S (.fn 29) [.ptr 0 0] (cutH 0 s f p) = some (.ret (.tup [.prow (if ¬ (unquoteN s f).2.2 = 0 then zeroR else tokR 11 f (unquoteN s f).2.1 (unquoteN s f).1), .pv (.int .i64 (if ¬ (unquoteN s f).2.2 = 0 then (unquoteN s f).2.2 else 0))]), cutH 0 s f (if ¬ (unquoteN s f).2.2 = 0 then (unquoteN s f).2.1 else p))) :
    S (.fn (25 + pickN (bt s f))) [.ptr 0 0] (cutH 0 s f p) = some (.ret (.tup [.prow (nextN s f).1, .pv (.int .i64 (nextN s f).2.1)]), cutH 0 s f (if (nextN s f).2.1 = 0 then p else (nextN s f).2.2)) := by
  unfold nextN pickN
  by_cases h1 : 0 < markN (bt s f)
  · rw [if_pos h1, if_pos h1, h26]; rfl
  rw [if_neg h1, if_neg h1]
  by_cases h2 : (bt s f).toNat = 34
  · obtain ⟨l1, l2⟩ := letter_34 h2
    rw [if_neg (by simp [l1]), if_neg (by simp [l2, h2]), if_pos (by simp [h2]), if_pos h2, h29]
    by_cases h3 : (unquoteN s f).2.2 = 0 <;> simp [h3]
  rw [if_neg h2]
  by_cases h3 : letterB (bt s f) = true
  · rw [if_pos h3, if_pos h3, h27]
    by_cases h4 : wordN ((s.take (runEnd wordB s f)).drop f) = 0 <;> simp [h4]
  rw [if_neg h3, if_neg h3]
  by_cases h4 : digitB (bt s f) = false ∧ ¬ (bt s f).toNat = 45
  · rw [if_neg (by simp [h4.1, h4.2]), if_neg (by simp [h2]), if_pos h4, h25]; rfl
  · have h4' : (digitB (bt s f) || (bt s f).toNat == 45) = true := by
      cases hd : digitB (bt s f)
      · by_cases h : (bt s f).toNat = 45
        · simp [h]
        · exact (h4 ⟨hd, h⟩).elim
      · rfl
    rw [if_pos h4', if_neg h4, h28]
    by_cases h5 : formed (says s f) = false <;> simp [h5]
end

/-! ### Blocks -/
def cutB (s : List UInt8) (f p : Nat) : Blk := .data [.pv (.str s), .pv (.int .i64 f), .pv (.int .i64 p)] 0
def takL : List LV := [.clo 25 [] [], .clo 26 [] [], .clo 27 [] [], .clo 28 [] [], .clo 29 [] []]
theorem takL_len : takL.length = 5 := rfl
theorem takL_get {i : Nat} (h : i < 5) : takL[i]?.getD .bad = .clo (25 + i) [] [] := by
  match i, h with
  | 0, _ | 1, _ | 2, _ | 3, _ | 4, _ => rfl
def takB : Blk := .data takL 42
def tokB (a b c d : PV) : Blk := .data [.pv a, .pv b, .pv c, .pv d] 27
theorem lit_cast (k : IntKind) (n : Nat) : lit? (.pv (.int k (n : Int))) = some n := rfl
theorem ho0 (h : List Blk) (p : PV) : handOver h [.pv p] = ([], [.pv p], []) := rfl
theorem hoN (h : List Blk) : handOver h [] = ([], [], []) := rfl
theorem layOld0 (h : List Blk) : ∀ (i : Nat) (l : List Blk), layOld h [] [] i l = l
  | _, [] => rfl
  | i, b :: l => by simp only [layOld, posIn, layOld0 h (i + 1) l]
theorem tb0 (h : List Blk) (p : PV) : takeBack h [] [] (.pv p) = (.pv p, h) := by
  show (LV.pv p, layOld h [] [] 0 h ++ []) = _
  rw [layOld0, List.append_nil]
theorem tbT0 (h : List Blk) : takeBack h [] [] (.row takL) = (.row takL, h) := by
  show (LV.row takL, layOld h [] [] 0 h ++ []) = _
  rw [layOld0, List.append_nil]

/-- What the sequence's function is handed: blocks that only the loop's body changes. -/
structure Fr (m : Nat) (G HY : Nat → Option Jump → List Blk) (RY : List Nat) (s : List UInt8) : Prop where
  m2 : 2 ≤ m
  len : ∀ a p, (G a p).length = m
  sb : ∀ a p, (G a p)[1]? = some (.data [.pv (.str s)] 0)
  td : ∀ a p f q, tidy m [] (G a p ++ [cutB s f q, takB]) (.yld 0 :: .ptr 1 0 :: .bad :: .ptr m 0 :: .ptr (m + 1) 0 :: bads 64) = (.yld 0 :: .ptr 1 0 :: .bad :: .ptr m 0 :: .ptr (m + 1) 0 :: bads 64, G a p ++ [cutB s f q, takB])
  td1 : ∀ a p f q x y z w, tidy m [] (G a p ++ [cutB s f q, takB, tokB x y z w]) (.yld 0 :: .ptr 1 0 :: .bad :: .ptr m 0 :: .ptr (m + 1) 0 :: bads 64) = (.yld 0 :: .ptr 1 0 :: .bad :: .ptr m 0 :: .ptr (m + 1) 0 :: bads 64, G a p ++ [cutB s f q, takB])
  te : ∀ a p f q, tidy m [] (G a p ++ [cutB s f q, takB]) (bads 69) = (bads 69, G a p)
  te1 : ∀ a p f q x y z w, tidy m [] (G a p ++ [cutB s f q, takB, tokB x y z w]) (bads 69) = (bads 69, G a p)
  tf : ∀ a p, tidy m [] (G a p) [.tup []] = ([.tup []], G a p)
  rc : ∀ a p f q, reachable (G a p ++ [cutB s f q, takB]) [m] = [m]
  hoT : ∀ a p f q, handOver (G a p ++ [cutB s f q, takB]) [.ptr m 0] = ([m], [.ptr 0 0], [cutB s f q])
  tbT : ∀ a p f q f' q' r x, takeBack (G a p ++ [cutB s f q, takB]) [m] [cutB s f' q'] (.tup [.prow r, .pv x]) = (.tup [.prow r, .pv x], G a p ++ [cutB s f' q', takB])
  hoY : ∀ a f q x y z w r v, handOver (G a none ++ [cutB s f q, takB, tokB x y z w]) [.yld 0, .prow r, .pv v] = (RY, [.yld 0, .prow r, .pv v], HY a none)
  tbY : ∀ a a' p' f q x y z w b, takeBack (G a none ++ [cutB s f q, takB, tokB x y z w]) RY (HY a' p') (.pv b) = (.pv b, G a' p' ++ [cutB s f q, takB, tokB x y z w])
  ry : RY.all (fun i => Nat.blt i (m + 3)) = true
  ry2 : ∀ a p, Nat.ble RY.length (HY a p).length = true
end AI.Tok
end
