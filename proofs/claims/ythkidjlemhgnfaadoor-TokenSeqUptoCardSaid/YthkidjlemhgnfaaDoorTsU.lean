/-
  LITERALS of the program.
  THE PROGRAM AND THE REFERENCE reckon the same: encodings, escapes.
  THE PROGRAM AND THE REFERENCE reckon the same: decoding.
  THE PROGRAM AND THE REFERENCE decode the same.
  LITERALS of the program: they are the reference's.
  ALL FUNCTIONS TOGETHER: what the machine answers, from a level on.
-/
import Derived.Test.YthkidjlemhgnfaaDoorTsT
set_option linter.unusedVariables false
set_option linter.unusedSimpArgs false
set_option linter.unusedSectionVars false
section
namespace AI.Tok
open Go AI
set_option maxRecDepth 100000
set_option maxHeartbeats 4000000
set_option linter.unusedSimpArgs false
set_option linter.unusedVariables false
set_option linter.unusedSectionVars false

/-- A builder. -/
def bldH (bs : Option (List Int)) : List Blk := match bs with
  | none => [.data [.pv .nilp, .nils] 71]
  | some bs => [.data [.ptr 0 0, .ref 1 0] 71, .arr 1 0 (false, 5) (bs.map rowB)]
def bldH1 (bs : Option (List Int)) (e : List Int) : List Blk := match bs with
  | none => [.data [.ptr 0 0, .ref 1 0] 71, .arr 1 0 (false, 5) (e.map rowB)]
  | some bs => [.data [.ptr 0 0, .ref 1 1] 71, .arr 1 1 (false, 5) ((bs ++ e).map rowB)]
def bsAdd (bs : Option (List Int)) (e : List Int) : Option (List Int) := some ((bs.getD []) ++ e)
def bsText (bs : Option (List Int)) : List UInt8 := match bs with
  | none => []
  | some bs => strOf (bs.map rowB)

section
variable {M : Prims} (pm : PM M) {S : SFn} {Lp : (St → St) → (St → Option (AI.Exit × St)) → St → Option (AI.Exit × St)} {N : Nat} {s : List UInt8} {f : Nat}
include pm
theorem w60 {n : Int} {bs : Option (List Int)} (hl : ∀ l, bs = some l → l.length + 4 ≤ 17592186044416)
    (h63 : ¬ IntKind.u32.wrap n ≤ 127 → S (.fn 63) [(bufIn bs).1, .pv (.int .i32 n)] (bufIn bs).2 = some (.ret (bufOut bs (encP n)).1, (bufOut bs (encP n)).2)) :
    runFn M S Lp rf60 [(bufIn bs).1, .pv (.int .i32 n)] (bufIn bs).2 = some (.ret (bufOut bs (encP n)).1, (bufOut bs (encP n)).2) := by
  by_cases h : IntKind.u32.wrap n ≤ 127
  · cases bs with
    | none => simp [rf60, bufIn, bufOut, encP, h, fxApp, rowB, exec, runOps, stepG, opRun, sv, strip, evalO, sV, iV, bV, bads, put, ROp.dst, ROp.quiet, guardOf, impAll, pvOf, pvOf?, callRun, callFn, prep, argOf, handOver, behind, takeBack, List.replicate, reachable, reach, addNew, idsOfs, idsOf, Blk.ids, rens, ren, renBlks, renBlk, layOld, layNew, posIn, AM.lent, tell, head, openAll, forget, tidy, List.range, List.range.loop, backR, backV, backId, backVer, toZero, verOf, cellsOf, widOk, mkAgg, splice, resOne, resAll, resVal, runFn, freeze, freezeAll, depth, allPV, isRow, lit?, eqNil, nilOp, flatL, flatLs, headVer, rowsOf, isRow, freezeRow, LV.sc, rowParts, buildParts, okAll, touch, meets, apart, apartAll, runDraw, argIds, rowIds, List.range', rowsWide, byteOf?, byteRow, lendP, Nat.testBit_eq_decide_div_mod_eq, pm.chk, pm.isB, pm.truth, pm.gd, pm.imp, pm.and, pm.pickT, pm.pickF, pm.not, pm.notOk, pm.len, pm.lenL, pm.lenOk, pm.lenOkL, pm.sidx, pm.sidxOk, pm.add, pm.sub, pm.mul, pm.quo, pm.rem, pm.eql, pm.neq, pm.lss, pm.leq, pm.gtr, pm.geq, pm.addOk, pm.subOk, pm.mulOk, pm.quoOk, pm.remOk, pm.eqlOk, pm.neqOk, pm.lssOk, pm.leqOk, pm.gtrOk, pm.geqOk, pm.seql, pm.sneq, pm.seqlOk, pm.sneqOk, pm.beql, pm.bneq, pm.beqlOk, pm.bneqOk, pm.conv, pm.convOk, pm.cut, pm.cutA, pm.cutOk, pm.cutAOk, pm.rowsOk, pm.rlen, pm.cell, pm.wid, pm.widGe, pm.repl, pm.replOk, pm.nat, pm.natOk, pm.rget, pm.rput, pm.sub2, pm.lidx, pm.lidxOk, pm.lim, pm.rapp, pm.rowsL, pm.rowsS, pm.rowsOkL, pm.str, pm.strOk, pm.flatI, pm.flatB, pm.flatS, pm.join, pm.joinOk, pm.pidx, pm.pidxOk, pm.shl, pm.shr, pm.shlOk, pm.shrOk, pm.orI, pm.andI, pm.orOk, pm.andOk, pm.andNI, pm.andNOk]
    | some l =>
      have hl1 : l.length + 1 ≤ 17592186044416 := by have := hl l rfl; omega
      simp [rf60, bufIn, bufOut, encP, h, hl1, fxApp, rowB, exec, runOps, stepG, opRun, sv, strip, evalO, sV, iV, bV, bads, put, ROp.dst, ROp.quiet, guardOf, impAll, pvOf, pvOf?, callRun, callFn, prep, argOf, handOver, behind, takeBack, List.replicate, reachable, reach, addNew, idsOfs, idsOf, Blk.ids, rens, ren, renBlks, renBlk, layOld, layNew, posIn, AM.lent, tell, head, openAll, forget, tidy, List.range, List.range.loop, backR, backV, backId, backVer, toZero, verOf, cellsOf, widOk, mkAgg, splice, resOne, resAll, resVal, runFn, freeze, freezeAll, depth, allPV, isRow, lit?, eqNil, nilOp, flatL, flatLs, headVer, rowsOf, isRow, freezeRow, LV.sc, rowParts, buildParts, okAll, touch, meets, apart, apartAll, runDraw, argIds, rowIds, List.range', rowsWide, byteOf?, byteRow, lendP, Nat.testBit_eq_decide_div_mod_eq, pm.chk, pm.isB, pm.truth, pm.gd, pm.imp, pm.and, pm.pickT, pm.pickF, pm.not, pm.notOk, pm.len, pm.lenL, pm.lenOk, pm.lenOkL, pm.sidx, pm.sidxOk, pm.add, pm.sub, pm.mul, pm.quo, pm.rem, pm.eql, pm.neq, pm.lss, pm.leq, pm.gtr, pm.geq, pm.addOk, pm.subOk, pm.mulOk, pm.quoOk, pm.remOk, pm.eqlOk, pm.neqOk, pm.lssOk, pm.leqOk, pm.gtrOk, pm.geqOk, pm.seql, pm.sneq, pm.seqlOk, pm.sneqOk, pm.beql, pm.bneq, pm.beqlOk, pm.bneqOk, pm.conv, pm.convOk, pm.cut, pm.cutA, pm.cutOk, pm.cutAOk, pm.rowsOk, pm.rlen, pm.cell, pm.wid, pm.widGe, pm.repl, pm.replOk, pm.nat, pm.natOk, pm.rget, pm.rput, pm.sub2, pm.lidx, pm.lidxOk, pm.lim, pm.rapp, pm.rowsL, pm.rowsS, pm.rowsOkL, pm.str, pm.strOk, pm.flatI, pm.flatB, pm.flatS, pm.join, pm.joinOk, pm.pidx, pm.pidxOk, pm.shl, pm.shr, pm.shlOk, pm.shrOk, pm.orI, pm.andI, pm.orOk, pm.andOk, pm.andNI, pm.andNOk]
  · have e := h63 h
    cases bs with
    | none =>
      simp only [bufIn, bufOut] at e
      simp [rf60, bufIn, bufOut, h, e, exec, runOps, stepG, opRun, sv, strip, evalO, sV, iV, bV, bads, put, ROp.dst, ROp.quiet, guardOf, impAll, pvOf, pvOf?, callRun, callFn, prep, argOf, handOver, behind, takeBack, List.replicate, reachable, reach, addNew, idsOfs, idsOf, Blk.ids, rens, ren, renBlks, renBlk, layOld, layNew, posIn, AM.lent, tell, head, openAll, forget, tidy, List.range, List.range.loop, backR, backV, backId, backVer, toZero, verOf, cellsOf, widOk, mkAgg, splice, resOne, resAll, resVal, runFn, freeze, freezeAll, depth, allPV, isRow, lit?, eqNil, nilOp, flatL, flatLs, headVer, rowsOf, isRow, freezeRow, LV.sc, rowParts, buildParts, okAll, touch, meets, apart, apartAll, runDraw, argIds, rowIds, List.range', rowsWide, byteOf?, byteRow, lendP, Nat.testBit_eq_decide_div_mod_eq, pm.chk, pm.isB, pm.truth, pm.gd, pm.imp, pm.and, pm.pickT, pm.pickF, pm.not, pm.notOk, pm.len, pm.lenL, pm.lenOk, pm.lenOkL, pm.sidx, pm.sidxOk, pm.add, pm.sub, pm.mul, pm.quo, pm.rem, pm.eql, pm.neq, pm.lss, pm.leq, pm.gtr, pm.geq, pm.addOk, pm.subOk, pm.mulOk, pm.quoOk, pm.remOk, pm.eqlOk, pm.neqOk, pm.lssOk, pm.leqOk, pm.gtrOk, pm.geqOk, pm.seql, pm.sneq, pm.seqlOk, pm.sneqOk, pm.beql, pm.bneq, pm.beqlOk, pm.bneqOk, pm.conv, pm.convOk, pm.cut, pm.cutA, pm.cutOk, pm.cutAOk, pm.rowsOk, pm.rlen, pm.cell, pm.wid, pm.widGe, pm.repl, pm.replOk, pm.nat, pm.natOk, pm.rget, pm.rput, pm.sub2, pm.lidx, pm.lidxOk, pm.lim, pm.rapp, pm.rowsL, pm.rowsS, pm.rowsOkL, pm.str, pm.strOk, pm.flatI, pm.flatB, pm.flatS, pm.join, pm.joinOk, pm.pidx, pm.pidxOk, pm.shl, pm.shr, pm.shlOk, pm.shrOk, pm.orI, pm.andI, pm.orOk, pm.andOk, pm.andNI, pm.andNOk]
    | some l =>
      simp only [bufIn, bufOut] at e
      simp [rf60, bufIn, bufOut, h, e, exec, runOps, stepG, opRun, sv, strip, evalO, sV, iV, bV, bads, put, ROp.dst, ROp.quiet, guardOf, impAll, pvOf, pvOf?, callRun, callFn, prep, argOf, handOver, behind, takeBack, List.replicate, reachable, reach, addNew, idsOfs, idsOf, Blk.ids, rens, ren, renBlks, renBlk, layOld, layNew, posIn, AM.lent, tell, head, openAll, forget, tidy, List.range, List.range.loop, backR, backV, backId, backVer, toZero, verOf, cellsOf, widOk, mkAgg, splice, resOne, resAll, resVal, runFn, freeze, freezeAll, depth, allPV, isRow, lit?, eqNil, nilOp, flatL, flatLs, headVer, rowsOf, isRow, freezeRow, LV.sc, rowParts, buildParts, okAll, touch, meets, apart, apartAll, runDraw, argIds, rowIds, List.range', rowsWide, byteOf?, byteRow, lendP, Nat.testBit_eq_decide_div_mod_eq, pm.chk, pm.isB, pm.truth, pm.gd, pm.imp, pm.and, pm.pickT, pm.pickF, pm.not, pm.notOk, pm.len, pm.lenL, pm.lenOk, pm.lenOkL, pm.sidx, pm.sidxOk, pm.add, pm.sub, pm.mul, pm.quo, pm.rem, pm.eql, pm.neq, pm.lss, pm.leq, pm.gtr, pm.geq, pm.addOk, pm.subOk, pm.mulOk, pm.quoOk, pm.remOk, pm.eqlOk, pm.neqOk, pm.lssOk, pm.leqOk, pm.gtrOk, pm.geqOk, pm.seql, pm.sneq, pm.seqlOk, pm.sneqOk, pm.beql, pm.bneq, pm.beqlOk, pm.bneqOk, pm.conv, pm.convOk, pm.cut, pm.cutA, pm.cutOk, pm.cutAOk, pm.rowsOk, pm.rlen, pm.cell, pm.wid, pm.widGe, pm.repl, pm.replOk, pm.nat, pm.natOk, pm.rget, pm.rput, pm.sub2, pm.lidx, pm.lidxOk, pm.lim, pm.rapp, pm.rowsL, pm.rowsS, pm.rowsOkL, pm.str, pm.strOk, pm.flatI, pm.flatB, pm.flatS, pm.join, pm.joinOk, pm.pidx, pm.pidxOk, pm.shl, pm.shr, pm.shlOk, pm.shrOk, pm.orI, pm.andI, pm.orOk, pm.andOk, pm.andNI, pm.andNOk]

theorem w48 {n : Int} {bs : Option (List Int)} (hl : ∀ l, bs = some l → l.length + 4 ≤ 1099511627776)
    (h59n : S (.fn 59) [.ptr 0 0] [.data [.pv .nilp, .nils] 71] = some (.ret (.tup []), [.data [.ptr 0 0, .nils] 71]))
    (h59s : ∀ rows : Rows, S (.fn 59) [.ptr 0 0] [.data [.ptr 0 0, .ref 1 0] 71, .arr 1 0 (false, 5) rows] = some (.ret (.tup []), [.data [.ptr 0 0, .ref 1 0] 71, .arr 1 0 (false, 5) rows]))
    (h60 : S (.fn 60) [(bufIn bs).1, .pv (.int .i32 n)] (bufIn bs).2 = some (.ret (bufOut bs (encP n)).1, (bufOut bs (encP n)).2)) :
    ∃ x, runFn M S Lp rf48 [.ptr 0 0, .pv (.int .i32 n)] (bldH bs) = some (.ret (.tup [.pv (.int .i64 x), .pv .nili]), bldH1 bs (encP n)) := by
  cases bs with
  | none =>
    simp only [bufIn, bufOut] at h60
    refine ⟨IntKind.i64.wrap ((encP n).length : Int), ?_⟩
    simp [rf48, bldH, bldH1, h59n, h60, exec, runOps, stepG, opRun, sv, strip, evalO, sV, iV, bV, bads, put, ROp.dst, ROp.quiet, guardOf, impAll, pvOf, pvOf?, callRun, callFn, prep, argOf, handOver, behind, takeBack, List.replicate, reachable, reach, addNew, idsOfs, idsOf, Blk.ids, rens, ren, renBlks, renBlk, layOld, layNew, posIn, AM.lent, tell, head, openAll, forget, tidy, List.range, List.range.loop, backR, backV, backId, backVer, toZero, verOf, cellsOf, widOk, mkAgg, splice, resOne, resAll, resVal, runFn, freeze, freezeAll, depth, allPV, isRow, lit?, eqNil, nilOp, flatL, flatLs, headVer, rowsOf, isRow, freezeRow, LV.sc, rowParts, buildParts, okAll, touch, meets, apart, apartAll, runDraw, argIds, rowIds, List.range', rowsWide, byteOf?, byteRow, lendP, Nat.testBit_eq_decide_div_mod_eq, pm.chk, pm.isB, pm.truth, pm.gd, pm.imp, pm.and, pm.pickT, pm.pickF, pm.not, pm.notOk, pm.len, pm.lenL, pm.lenOk, pm.lenOkL, pm.sidx, pm.sidxOk, pm.add, pm.sub, pm.mul, pm.quo, pm.rem, pm.eql, pm.neq, pm.lss, pm.leq, pm.gtr, pm.geq, pm.addOk, pm.subOk, pm.mulOk, pm.quoOk, pm.remOk, pm.eqlOk, pm.neqOk, pm.lssOk, pm.leqOk, pm.gtrOk, pm.geqOk, pm.seql, pm.sneq, pm.seqlOk, pm.sneqOk, pm.beql, pm.bneq, pm.beqlOk, pm.bneqOk, pm.conv, pm.convOk, pm.cut, pm.cutA, pm.cutOk, pm.cutAOk, pm.rowsOk, pm.rlen, pm.cell, pm.wid, pm.widGe, pm.repl, pm.replOk, pm.nat, pm.natOk, pm.rget, pm.rput, pm.sub2, pm.lidx, pm.lidxOk, pm.lim, pm.rapp, pm.rowsL, pm.rowsS, pm.rowsOkL, pm.str, pm.strOk, pm.flatI, pm.flatB, pm.flatS, pm.join, pm.joinOk, pm.pidx, pm.pidxOk, pm.shl, pm.shr, pm.shlOk, pm.shrOk, pm.orI, pm.andI, pm.orOk, pm.andOk, pm.andNI, pm.andNOk]
  | some l =>
    simp only [bufIn, bufOut] at h60
    refine ⟨IntKind.i64.wrap (((l.length : Int) + (encP n).length) - l.length), ?_⟩
    simp [rf48, bldH, bldH1, h59s, h60, exec, runOps, stepG, opRun, sv, strip, evalO, sV, iV, bV, bads, put, ROp.dst, ROp.quiet, guardOf, impAll, pvOf, pvOf?, callRun, callFn, prep, argOf, handOver, behind, takeBack, List.replicate, reachable, reach, addNew, idsOfs, idsOf, Blk.ids, rens, ren, renBlks, renBlk, layOld, layNew, posIn, AM.lent, tell, head, openAll, forget, tidy, List.range, List.range.loop, backR, backV, backId, backVer, toZero, verOf, cellsOf, widOk, mkAgg, splice, resOne, resAll, resVal, runFn, freeze, freezeAll, depth, allPV, isRow, lit?, eqNil, nilOp, flatL, flatLs, headVer, rowsOf, isRow, freezeRow, LV.sc, rowParts, buildParts, okAll, touch, meets, apart, apartAll, runDraw, argIds, rowIds, List.range', rowsWide, byteOf?, byteRow, lendP, Nat.testBit_eq_decide_div_mod_eq, pm.chk, pm.isB, pm.truth, pm.gd, pm.imp, pm.and, pm.pickT, pm.pickF, pm.not, pm.notOk, pm.len, pm.lenL, pm.lenOk, pm.lenOkL, pm.sidx, pm.sidxOk, pm.add, pm.sub, pm.mul, pm.quo, pm.rem, pm.eql, pm.neq, pm.lss, pm.leq, pm.gtr, pm.geq, pm.addOk, pm.subOk, pm.mulOk, pm.quoOk, pm.remOk, pm.eqlOk, pm.neqOk, pm.lssOk, pm.leqOk, pm.gtrOk, pm.geqOk, pm.seql, pm.sneq, pm.seqlOk, pm.sneqOk, pm.beql, pm.bneq, pm.beqlOk, pm.bneqOk, pm.conv, pm.convOk, pm.cut, pm.cutA, pm.cutOk, pm.cutAOk, pm.rowsOk, pm.rlen, pm.cell, pm.wid, pm.widGe, pm.repl, pm.replOk, pm.nat, pm.natOk, pm.rget, pm.rput, pm.sub2, pm.lidx, pm.lidxOk, pm.lim, pm.rapp, pm.rowsL, pm.rowsS, pm.rowsOkL, pm.str, pm.strOk, pm.flatI, pm.flatB, pm.flatS, pm.join, pm.joinOk, pm.pidx, pm.pidxOk, pm.shl, pm.shr, pm.shlOk, pm.shrOk, pm.orI, pm.andI, pm.orOk, pm.andOk, pm.andNI, pm.andNOk]

def bldD (bs : Option (List Int)) : List Blk := match bs with
  | none => [.data [.pv .nilp, .nils] 71]
  | some bs => [.data [.ptr 0 0, .bad] 71, .dead]
section
variable {r : Int} {z : Nat} {bs : Option (List Int)} (hf : f < s.length) (hs : s.length ≤ 1048576)
  (e45 : S (.fn 45) [.pv (.str (s.drop f))] [] = some (.ret (.tup [.pv (.int .i32 r), .pv (.int .i64 z)]), []))
include hf hs e45
theorem w38_quote (h1 : r = 34) (h46 : S (.fn 46) [.ptr 0 0] (bldH bs) = some (.ret (.pv (.str (bsText bs))), bldD bs)) :
    tell M (head 0 ⟨[0, 4, 5, 6], [], [], []⟩) (exec M S Lp 0 rf38_b0 ⟨sV s :: iV f :: bads 5 ++ .ptr 0 0 :: bads 77, bldH bs, []⟩) =
      some (.ret, true, ⟨sV s :: bads 3 ++ .pv (.str (bsText bs)) :: iV ((f + 1 : Nat)) :: iV 0 :: bads 78, [], []⟩) := by
  have hw : IntKind.i64.wrap ((f : Int) + 1) = f + 1 := wrap64 (by omega) (by omega)
  have hle : f ≤ s.length := by omega
  subst h1
  cases bs with
  | none =>
    simp only [bldH, bldD] at h46
    simp [hf, hle, hw, e45, h46, bldH, rf38_b0, exec, runOps, stepG, opRun, sv, strip, evalO, sV, iV, bV, bads, put, ROp.dst, ROp.quiet, guardOf, impAll, pvOf, pvOf?, callRun, callFn, prep, argOf, handOver, behind, takeBack, List.replicate, reachable, reach, addNew, idsOfs, idsOf, Blk.ids, rens, ren, renBlks, renBlk, layOld, layNew, posIn, AM.lent, tell, head, openAll, forget, tidy, List.range, List.range.loop, backR, backV, backId, backVer, toZero, verOf, cellsOf, widOk, mkAgg, splice, resOne, resAll, resVal, runFn, freeze, freezeAll, depth, allPV, isRow, lit?, eqNil, nilOp, flatL, flatLs, headVer, rowsOf, isRow, freezeRow, LV.sc, rowParts, buildParts, okAll, touch, meets, apart, apartAll, runDraw, argIds, rowIds, List.range', rowsWide, byteOf?, byteRow, lendP, Nat.testBit_eq_decide_div_mod_eq, pm.chk, pm.isB, pm.truth, pm.gd, pm.imp, pm.and, pm.pickT, pm.pickF, pm.not, pm.notOk, pm.len, pm.lenL, pm.lenOk, pm.lenOkL, pm.sidx, pm.sidxOk, pm.add, pm.sub, pm.mul, pm.quo, pm.rem, pm.eql, pm.neq, pm.lss, pm.leq, pm.gtr, pm.geq, pm.addOk, pm.subOk, pm.mulOk, pm.quoOk, pm.remOk, pm.eqlOk, pm.neqOk, pm.lssOk, pm.leqOk, pm.gtrOk, pm.geqOk, pm.seql, pm.sneq, pm.seqlOk, pm.sneqOk, pm.beql, pm.bneq, pm.beqlOk, pm.bneqOk, pm.conv, pm.convOk, pm.cut, pm.cutA, pm.cutOk, pm.cutAOk, pm.rowsOk, pm.rlen, pm.cell, pm.wid, pm.widGe, pm.repl, pm.replOk, pm.nat, pm.natOk, pm.rget, pm.rput, pm.sub2, pm.lidx, pm.lidxOk, pm.lim, pm.rapp, pm.rowsL, pm.rowsS, pm.rowsOkL, pm.str, pm.strOk, pm.flatI, pm.flatB, pm.flatS, pm.join, pm.joinOk, pm.pidx, pm.pidxOk, pm.shl, pm.shr, pm.shlOk, pm.shrOk, pm.orI, pm.andI, pm.orOk, pm.andOk, pm.andNI, pm.andNOk]
  | some l =>
    simp only [bldH, bldD] at h46
    simp [hf, hle, hw, e45, h46, bldH, rf38_b0, exec, runOps, stepG, opRun, sv, strip, evalO, sV, iV, bV, bads, put, ROp.dst, ROp.quiet, guardOf, impAll, pvOf, pvOf?, callRun, callFn, prep, argOf, handOver, behind, takeBack, List.replicate, reachable, reach, addNew, idsOfs, idsOf, Blk.ids, rens, ren, renBlks, renBlk, layOld, layNew, posIn, AM.lent, tell, head, openAll, forget, tidy, List.range, List.range.loop, backR, backV, backId, backVer, toZero, verOf, cellsOf, widOk, mkAgg, splice, resOne, resAll, resVal, runFn, freeze, freezeAll, depth, allPV, isRow, lit?, eqNil, nilOp, flatL, flatLs, headVer, rowsOf, isRow, freezeRow, LV.sc, rowParts, buildParts, okAll, touch, meets, apart, apartAll, runDraw, argIds, rowIds, List.range', rowsWide, byteOf?, byteRow, lendP, Nat.testBit_eq_decide_div_mod_eq, pm.chk, pm.isB, pm.truth, pm.gd, pm.imp, pm.and, pm.pickT, pm.pickF, pm.not, pm.notOk, pm.len, pm.lenL, pm.lenOk, pm.lenOkL, pm.sidx, pm.sidxOk, pm.add, pm.sub, pm.mul, pm.quo, pm.rem, pm.eql, pm.neq, pm.lss, pm.leq, pm.gtr, pm.geq, pm.addOk, pm.subOk, pm.mulOk, pm.quoOk, pm.remOk, pm.eqlOk, pm.neqOk, pm.lssOk, pm.leqOk, pm.gtrOk, pm.geqOk, pm.seql, pm.sneq, pm.seqlOk, pm.sneqOk, pm.beql, pm.bneq, pm.beqlOk, pm.bneqOk, pm.conv, pm.convOk, pm.cut, pm.cutA, pm.cutOk, pm.cutAOk, pm.rowsOk, pm.rlen, pm.cell, pm.wid, pm.widGe, pm.repl, pm.replOk, pm.nat, pm.natOk, pm.rget, pm.rput, pm.sub2, pm.lidx, pm.lidxOk, pm.lim, pm.rapp, pm.rowsL, pm.rowsS, pm.rowsOkL, pm.str, pm.strOk, pm.flatI, pm.flatB, pm.flatS, pm.join, pm.joinOk, pm.pidx, pm.pidxOk, pm.shl, pm.shr, pm.shlOk, pm.shrOk, pm.orI, pm.andI, pm.orOk, pm.andOk, pm.andNI, pm.andNOk]
theorem w38_ctrl (h1 : ¬ r = 34) (h2 : r < 32) :
    tell M (head 0 ⟨[0, 4, 5, 6], [], [], []⟩) (exec M S Lp 0 rf38_b0 ⟨sV s :: iV f :: bads 5 ++ .ptr 0 0 :: bads 77, bldH bs, []⟩) =
      some (.ret, true, ⟨sV s :: bads 3 ++ sV [] :: iV f :: iV 22 :: bads 78, [], []⟩) := by
  have hle : f ≤ s.length := by omega
  cases bs <;> simp [hf, hle, e45, h1, h2, bldH, rf38_b0, exec, runOps, stepG, opRun, sv, strip, evalO, sV, iV, bV, bads, put, ROp.dst, ROp.quiet, guardOf, impAll, pvOf, pvOf?, callRun, callFn, prep, argOf, handOver, behind, takeBack, List.replicate, reachable, reach, addNew, idsOfs, idsOf, Blk.ids, rens, ren, renBlks, renBlk, layOld, layNew, posIn, AM.lent, tell, head, openAll, forget, tidy, List.range, List.range.loop, backR, backV, backId, backVer, toZero, verOf, cellsOf, widOk, mkAgg, splice, resOne, resAll, resVal, runFn, freeze, freezeAll, depth, allPV, isRow, lit?, eqNil, nilOp, flatL, flatLs, headVer, rowsOf, isRow, freezeRow, LV.sc, rowParts, buildParts, okAll, touch, meets, apart, apartAll, runDraw, argIds, rowIds, List.range', rowsWide, byteOf?, byteRow, lendP, Nat.testBit_eq_decide_div_mod_eq, pm.chk, pm.isB, pm.truth, pm.gd, pm.imp, pm.and, pm.pickT, pm.pickF, pm.not, pm.notOk, pm.len, pm.lenL, pm.lenOk, pm.lenOkL, pm.sidx, pm.sidxOk, pm.add, pm.sub, pm.mul, pm.quo, pm.rem, pm.eql, pm.neq, pm.lss, pm.leq, pm.gtr, pm.geq, pm.addOk, pm.subOk, pm.mulOk, pm.quoOk, pm.remOk, pm.eqlOk, pm.neqOk, pm.lssOk, pm.leqOk, pm.gtrOk, pm.geqOk, pm.seql, pm.sneq, pm.seqlOk, pm.sneqOk, pm.beql, pm.bneq, pm.beqlOk, pm.bneqOk, pm.conv, pm.convOk, pm.cut, pm.cutA, pm.cutOk, pm.cutAOk, pm.rowsOk, pm.rlen, pm.cell, pm.wid, pm.widGe, pm.repl, pm.replOk, pm.nat, pm.natOk, pm.rget, pm.rput, pm.sub2, pm.lidx, pm.lidxOk, pm.lim, pm.rapp, pm.rowsL, pm.rowsS, pm.rowsOkL, pm.str, pm.strOk, pm.flatI, pm.flatB, pm.flatS, pm.join, pm.joinOk, pm.pidx, pm.pidxOk, pm.shl, pm.shr, pm.shlOk, pm.shrOk, pm.orI, pm.andI, pm.orOk, pm.andOk, pm.andNI, pm.andNOk]
theorem w38_stray (h1 : r = 65533) (h2 : z = 1) :
    tell M (head 0 ⟨[0, 4, 5, 6], [], [], []⟩) (exec M S Lp 0 rf38_b0 ⟨sV s :: iV f :: bads 5 ++ .ptr 0 0 :: bads 77, bldH bs, []⟩) =
      some (.ret, true, ⟨sV s :: bads 3 ++ sV [] :: iV f :: iV 20 :: bads 78, [], []⟩) := by
  have hle : f ≤ s.length := by omega
  subst h1; subst h2
  simp only [Int.natCast_one] at e45
  cases bs <;> simp [hf, hle, e45, bldH, rf38_b0, exec, runOps, stepG, opRun, sv, strip, evalO, sV, iV, bV, bads, put, ROp.dst, ROp.quiet, guardOf, impAll, pvOf, pvOf?, callRun, callFn, prep, argOf, handOver, behind, takeBack, List.replicate, reachable, reach, addNew, idsOfs, idsOf, Blk.ids, rens, ren, renBlks, renBlk, layOld, layNew, posIn, AM.lent, tell, head, openAll, forget, tidy, List.range, List.range.loop, backR, backV, backId, backVer, toZero, verOf, cellsOf, widOk, mkAgg, splice, resOne, resAll, resVal, runFn, freeze, freezeAll, depth, allPV, isRow, lit?, eqNil, nilOp, flatL, flatLs, headVer, rowsOf, isRow, freezeRow, LV.sc, rowParts, buildParts, okAll, touch, meets, apart, apartAll, runDraw, argIds, rowIds, List.range', rowsWide, byteOf?, byteRow, lendP, Nat.testBit_eq_decide_div_mod_eq, pm.chk, pm.isB, pm.truth, pm.gd, pm.imp, pm.and, pm.pickT, pm.pickF, pm.not, pm.notOk, pm.len, pm.lenL, pm.lenOk, pm.lenOkL, pm.sidx, pm.sidxOk, pm.add, pm.sub, pm.mul, pm.quo, pm.rem, pm.eql, pm.neq, pm.lss, pm.leq, pm.gtr, pm.geq, pm.addOk, pm.subOk, pm.mulOk, pm.quoOk, pm.remOk, pm.eqlOk, pm.neqOk, pm.lssOk, pm.leqOk, pm.gtrOk, pm.geqOk, pm.seql, pm.sneq, pm.seqlOk, pm.sneqOk, pm.beql, pm.bneq, pm.beqlOk, pm.bneqOk, pm.conv, pm.convOk, pm.cut, pm.cutA, pm.cutOk, pm.cutAOk, pm.rowsOk, pm.rlen, pm.cell, pm.wid, pm.widGe, pm.repl, pm.replOk, pm.nat, pm.natOk, pm.rget, pm.rput, pm.sub2, pm.lidx, pm.lidxOk, pm.lim, pm.rapp, pm.rowsL, pm.rowsS, pm.rowsOkL, pm.str, pm.strOk, pm.flatI, pm.flatB, pm.flatS, pm.join, pm.joinOk, pm.pidx, pm.pidxOk, pm.shl, pm.shr, pm.shlOk, pm.shrOk, pm.orI, pm.andI, pm.orOk, pm.andOk, pm.andNI, pm.andNOk]
theorem w38_plain {x : Int} (h1 : ¬ r = 34) (h2 : ¬ r < 32) (h3 : ¬ (r = 65533 ∧ z = 1)) (h4 : ¬ r = 92) (hz : z ≤ 8)
    (h48 : S (.fn 48) [.ptr 0 0, .pv (.int .i32 r)] (bldH bs) = some (.ret (.tup [.pv (.int .i64 x), .pv .nili]), bldH1 bs (encP r))) :
    tell M (head 0 rf38_a0) (exec M S Lp 0 rf38_b0 ⟨sV s :: iV f :: bads 5 ++ .ptr 0 0 :: bads 77, bldH bs, []⟩) =
      some (.normal, true, ⟨sV s :: iV ((f + z : Nat)) :: bads 5 ++ .ptr 0 0 :: bads 77, bldH (bsAdd bs (encP r)), []⟩) := by
  have hle : f ≤ s.length := by omega
  have hw : IntKind.i64.wrap ((f : Int) + z) = f + z := wrap64 (by omega) (by omega)
  by_cases h5 : r = 65533
  · have h6 : ¬ z = 1 := fun e => h3 ⟨h5, e⟩
    have h6' : ¬ (z : Int) = 1 := by omega
    subst h5
    cases bs with
    | none =>
      simp only [bldH, bldH1] at h48
      simp [hf, hle, hw, e45, h6, h6', h48, bldH, bsAdd, rf38_b0, exec, runOps, stepG, opRun, sv, strip, evalO, sV, iV, bV, bads, put, ROp.dst, ROp.quiet, guardOf, impAll, pvOf, pvOf?, callRun, callFn, prep, argOf, handOver, behind, takeBack, List.replicate, reachable, reach, addNew, idsOfs, idsOf, Blk.ids, rens, ren, renBlks, renBlk, layOld, layNew, posIn, AM.lent, tell, head, openAll, forget, tidy, List.range, List.range.loop, backR, backV, backId, backVer, toZero, verOf, cellsOf, widOk, mkAgg, splice, resOne, resAll, resVal, runFn, freeze, freezeAll, depth, allPV, isRow, lit?, eqNil, nilOp, flatL, flatLs, headVer, rowsOf, isRow, freezeRow, LV.sc, rowParts, buildParts, okAll, touch, meets, apart, apartAll, runDraw, argIds, rowIds, List.range', rowsWide, byteOf?, byteRow, lendP, Nat.testBit_eq_decide_div_mod_eq, pm.chk, pm.isB, pm.truth, pm.gd, pm.imp, pm.and, pm.pickT, pm.pickF, pm.not, pm.notOk, pm.len, pm.lenL, pm.lenOk, pm.lenOkL, pm.sidx, pm.sidxOk, pm.add, pm.sub, pm.mul, pm.quo, pm.rem, pm.eql, pm.neq, pm.lss, pm.leq, pm.gtr, pm.geq, pm.addOk, pm.subOk, pm.mulOk, pm.quoOk, pm.remOk, pm.eqlOk, pm.neqOk, pm.lssOk, pm.leqOk, pm.gtrOk, pm.geqOk, pm.seql, pm.sneq, pm.seqlOk, pm.sneqOk, pm.beql, pm.bneq, pm.beqlOk, pm.bneqOk, pm.conv, pm.convOk, pm.cut, pm.cutA, pm.cutOk, pm.cutAOk, pm.rowsOk, pm.rlen, pm.cell, pm.wid, pm.widGe, pm.repl, pm.replOk, pm.nat, pm.natOk, pm.rget, pm.rput, pm.sub2, pm.lidx, pm.lidxOk, pm.lim, pm.rapp, pm.rowsL, pm.rowsS, pm.rowsOkL, pm.str, pm.strOk, pm.flatI, pm.flatB, pm.flatS, pm.join, pm.joinOk, pm.pidx, pm.pidxOk, pm.shl, pm.shr, pm.shlOk, pm.shrOk, pm.orI, pm.andI, pm.orOk, pm.andOk, pm.andNI, pm.andNOk]
    | some l =>
      simp only [bldH, bldH1] at h48
      simp [hf, hle, hw, e45, h6, h6', h48, bldH, bsAdd, rf38_b0, exec, runOps, stepG, opRun, sv, strip, evalO, sV, iV, bV, bads, put, ROp.dst, ROp.quiet, guardOf, impAll, pvOf, pvOf?, callRun, callFn, prep, argOf, handOver, behind, takeBack, List.replicate, reachable, reach, addNew, idsOfs, idsOf, Blk.ids, rens, ren, renBlks, renBlk, layOld, layNew, posIn, AM.lent, tell, head, openAll, forget, tidy, List.range, List.range.loop, backR, backV, backId, backVer, toZero, verOf, cellsOf, widOk, mkAgg, splice, resOne, resAll, resVal, runFn, freeze, freezeAll, depth, allPV, isRow, lit?, eqNil, nilOp, flatL, flatLs, headVer, rowsOf, isRow, freezeRow, LV.sc, rowParts, buildParts, okAll, touch, meets, apart, apartAll, runDraw, argIds, rowIds, List.range', rowsWide, byteOf?, byteRow, lendP, Nat.testBit_eq_decide_div_mod_eq, pm.chk, pm.isB, pm.truth, pm.gd, pm.imp, pm.and, pm.pickT, pm.pickF, pm.not, pm.notOk, pm.len, pm.lenL, pm.lenOk, pm.lenOkL, pm.sidx, pm.sidxOk, pm.add, pm.sub, pm.mul, pm.quo, pm.rem, pm.eql, pm.neq, pm.lss, pm.leq, pm.gtr, pm.geq, pm.addOk, pm.subOk, pm.mulOk, pm.quoOk, pm.remOk, pm.eqlOk, pm.neqOk, pm.lssOk, pm.leqOk, pm.gtrOk, pm.geqOk, pm.seql, pm.sneq, pm.seqlOk, pm.sneqOk, pm.beql, pm.bneq, pm.beqlOk, pm.bneqOk, pm.conv, pm.convOk, pm.cut, pm.cutA, pm.cutOk, pm.cutAOk, pm.rowsOk, pm.rlen, pm.cell, pm.wid, pm.widGe, pm.repl, pm.replOk, pm.nat, pm.natOk, pm.rget, pm.rput, pm.sub2, pm.lidx, pm.lidxOk, pm.lim, pm.rapp, pm.rowsL, pm.rowsS, pm.rowsOkL, pm.str, pm.strOk, pm.flatI, pm.flatB, pm.flatS, pm.join, pm.joinOk, pm.pidx, pm.pidxOk, pm.shl, pm.shr, pm.shlOk, pm.shrOk, pm.orI, pm.andI, pm.orOk, pm.andOk, pm.andNI, pm.andNOk]
  · cases bs with
    | none =>
      simp only [bldH, bldH1] at h48
      simp [hf, hle, hw, e45, h1, h2, h4, h5, h48, bldH, bsAdd, rf38_b0, exec, runOps, stepG, opRun, sv, strip, evalO, sV, iV, bV, bads, put, ROp.dst, ROp.quiet, guardOf, impAll, pvOf, pvOf?, callRun, callFn, prep, argOf, handOver, behind, takeBack, List.replicate, reachable, reach, addNew, idsOfs, idsOf, Blk.ids, rens, ren, renBlks, renBlk, layOld, layNew, posIn, AM.lent, tell, head, openAll, forget, tidy, List.range, List.range.loop, backR, backV, backId, backVer, toZero, verOf, cellsOf, widOk, mkAgg, splice, resOne, resAll, resVal, runFn, freeze, freezeAll, depth, allPV, isRow, lit?, eqNil, nilOp, flatL, flatLs, headVer, rowsOf, isRow, freezeRow, LV.sc, rowParts, buildParts, okAll, touch, meets, apart, apartAll, runDraw, argIds, rowIds, List.range', rowsWide, byteOf?, byteRow, lendP, Nat.testBit_eq_decide_div_mod_eq, pm.chk, pm.isB, pm.truth, pm.gd, pm.imp, pm.and, pm.pickT, pm.pickF, pm.not, pm.notOk, pm.len, pm.lenL, pm.lenOk, pm.lenOkL, pm.sidx, pm.sidxOk, pm.add, pm.sub, pm.mul, pm.quo, pm.rem, pm.eql, pm.neq, pm.lss, pm.leq, pm.gtr, pm.geq, pm.addOk, pm.subOk, pm.mulOk, pm.quoOk, pm.remOk, pm.eqlOk, pm.neqOk, pm.lssOk, pm.leqOk, pm.gtrOk, pm.geqOk, pm.seql, pm.sneq, pm.seqlOk, pm.sneqOk, pm.beql, pm.bneq, pm.beqlOk, pm.bneqOk, pm.conv, pm.convOk, pm.cut, pm.cutA, pm.cutOk, pm.cutAOk, pm.rowsOk, pm.rlen, pm.cell, pm.wid, pm.widGe, pm.repl, pm.replOk, pm.nat, pm.natOk, pm.rget, pm.rput, pm.sub2, pm.lidx, pm.lidxOk, pm.lim, pm.rapp, pm.rowsL, pm.rowsS, pm.rowsOkL, pm.str, pm.strOk, pm.flatI, pm.flatB, pm.flatS, pm.join, pm.joinOk, pm.pidx, pm.pidxOk, pm.shl, pm.shr, pm.shlOk, pm.shrOk, pm.orI, pm.andI, pm.orOk, pm.andOk, pm.andNI, pm.andNOk]
    | some l =>
      simp only [bldH, bldH1] at h48
      simp [hf, hle, hw, e45, h1, h2, h4, h5, h48, bldH, bsAdd, rf38_b0, exec, runOps, stepG, opRun, sv, strip, evalO, sV, iV, bV, bads, put, ROp.dst, ROp.quiet, guardOf, impAll, pvOf, pvOf?, callRun, callFn, prep, argOf, handOver, behind, takeBack, List.replicate, reachable, reach, addNew, idsOfs, idsOf, Blk.ids, rens, ren, renBlks, renBlk, layOld, layNew, posIn, AM.lent, tell, head, openAll, forget, tidy, List.range, List.range.loop, backR, backV, backId, backVer, toZero, verOf, cellsOf, widOk, mkAgg, splice, resOne, resAll, resVal, runFn, freeze, freezeAll, depth, allPV, isRow, lit?, eqNil, nilOp, flatL, flatLs, headVer, rowsOf, isRow, freezeRow, LV.sc, rowParts, buildParts, okAll, touch, meets, apart, apartAll, runDraw, argIds, rowIds, List.range', rowsWide, byteOf?, byteRow, lendP, Nat.testBit_eq_decide_div_mod_eq, pm.chk, pm.isB, pm.truth, pm.gd, pm.imp, pm.and, pm.pickT, pm.pickF, pm.not, pm.notOk, pm.len, pm.lenL, pm.lenOk, pm.lenOkL, pm.sidx, pm.sidxOk, pm.add, pm.sub, pm.mul, pm.quo, pm.rem, pm.eql, pm.neq, pm.lss, pm.leq, pm.gtr, pm.geq, pm.addOk, pm.subOk, pm.mulOk, pm.quoOk, pm.remOk, pm.eqlOk, pm.neqOk, pm.lssOk, pm.leqOk, pm.gtrOk, pm.geqOk, pm.seql, pm.sneq, pm.seqlOk, pm.sneqOk, pm.beql, pm.bneq, pm.beqlOk, pm.bneqOk, pm.conv, pm.convOk, pm.cut, pm.cutA, pm.cutOk, pm.cutAOk, pm.rowsOk, pm.rlen, pm.cell, pm.wid, pm.widGe, pm.repl, pm.replOk, pm.nat, pm.natOk, pm.rget, pm.rput, pm.sub2, pm.lidx, pm.lidxOk, pm.lim, pm.rapp, pm.rowsL, pm.rowsS, pm.rowsOkL, pm.str, pm.strOk, pm.flatI, pm.flatB, pm.flatS, pm.join, pm.joinOk, pm.pidx, pm.pidxOk, pm.shl, pm.shr, pm.shlOk, pm.shrOk, pm.orI, pm.andI, pm.orOk, pm.andOk, pm.andNI, pm.andNOk]
section
variable {er ee : Int} {en : Nat} (h1 : r = 92) (e47 : S (.fn 47) [.pv (.str s), .pv (.int .i64 f)] [] = some (.ret (.tup [.pv (.int .i32 er), .pv (.int .i64 en), .pv (.int .i64 ee)]), []))
include h1 e47
theorem w38_esc {x : Int} (h2 : ee = 0) (he : f ≤ en) (he2 : en ≤ f + 12)
    (h48 : S (.fn 48) [.ptr 0 0, .pv (.int .i32 er)] (bldH bs) = some (.ret (.tup [.pv (.int .i64 x), .pv .nili]), bldH1 bs (encP er))) :
    tell M (head 0 rf38_a0) (exec M S Lp 0 rf38_b0 ⟨sV s :: iV f :: bads 5 ++ .ptr 0 0 :: bads 77, bldH bs, []⟩) =
      some (.normal, true, ⟨sV s :: iV en :: bads 5 ++ .ptr 0 0 :: bads 77, bldH (bsAdd bs (encP er)), []⟩) := by
  have hle : f ≤ s.length := by omega
  have hw : IntKind.i64.wrap ((en : Int) - f) = en - f := wrap64 (by omega) (by omega)
  have hw2 : IntKind.i64.wrap ((f : Int) + (en - f)) = en := by rw [wrap64 (by omega) (by omega)]; omega
  subst h1; subst h2
  cases bs with
  | none =>
    simp only [bldH, bldH1] at h48
    simp [hf, hle, hw, hw2, e45, e47, h48, bldH, bsAdd, rf38_b0, exec, runOps, stepG, opRun, sv, strip, evalO, sV, iV, bV, bads, put, ROp.dst, ROp.quiet, guardOf, impAll, pvOf, pvOf?, callRun, callFn, prep, argOf, handOver, behind, takeBack, List.replicate, reachable, reach, addNew, idsOfs, idsOf, Blk.ids, rens, ren, renBlks, renBlk, layOld, layNew, posIn, AM.lent, tell, head, openAll, forget, tidy, List.range, List.range.loop, backR, backV, backId, backVer, toZero, verOf, cellsOf, widOk, mkAgg, splice, resOne, resAll, resVal, runFn, freeze, freezeAll, depth, allPV, isRow, lit?, eqNil, nilOp, flatL, flatLs, headVer, rowsOf, isRow, freezeRow, LV.sc, rowParts, buildParts, okAll, touch, meets, apart, apartAll, runDraw, argIds, rowIds, List.range', rowsWide, byteOf?, byteRow, lendP, Nat.testBit_eq_decide_div_mod_eq, pm.chk, pm.isB, pm.truth, pm.gd, pm.imp, pm.and, pm.pickT, pm.pickF, pm.not, pm.notOk, pm.len, pm.lenL, pm.lenOk, pm.lenOkL, pm.sidx, pm.sidxOk, pm.add, pm.sub, pm.mul, pm.quo, pm.rem, pm.eql, pm.neq, pm.lss, pm.leq, pm.gtr, pm.geq, pm.addOk, pm.subOk, pm.mulOk, pm.quoOk, pm.remOk, pm.eqlOk, pm.neqOk, pm.lssOk, pm.leqOk, pm.gtrOk, pm.geqOk, pm.seql, pm.sneq, pm.seqlOk, pm.sneqOk, pm.beql, pm.bneq, pm.beqlOk, pm.bneqOk, pm.conv, pm.convOk, pm.cut, pm.cutA, pm.cutOk, pm.cutAOk, pm.rowsOk, pm.rlen, pm.cell, pm.wid, pm.widGe, pm.repl, pm.replOk, pm.nat, pm.natOk, pm.rget, pm.rput, pm.sub2, pm.lidx, pm.lidxOk, pm.lim, pm.rapp, pm.rowsL, pm.rowsS, pm.rowsOkL, pm.str, pm.strOk, pm.flatI, pm.flatB, pm.flatS, pm.join, pm.joinOk, pm.pidx, pm.pidxOk, pm.shl, pm.shr, pm.shlOk, pm.shrOk, pm.orI, pm.andI, pm.orOk, pm.andOk, pm.andNI, pm.andNOk]
  | some l =>
    simp only [bldH, bldH1] at h48
    simp [hf, hle, hw, hw2, e45, e47, h48, bldH, bsAdd, rf38_b0, exec, runOps, stepG, opRun, sv, strip, evalO, sV, iV, bV, bads, put, ROp.dst, ROp.quiet, guardOf, impAll, pvOf, pvOf?, callRun, callFn, prep, argOf, handOver, behind, takeBack, List.replicate, reachable, reach, addNew, idsOfs, idsOf, Blk.ids, rens, ren, renBlks, renBlk, layOld, layNew, posIn, AM.lent, tell, head, openAll, forget, tidy, List.range, List.range.loop, backR, backV, backId, backVer, toZero, verOf, cellsOf, widOk, mkAgg, splice, resOne, resAll, resVal, runFn, freeze, freezeAll, depth, allPV, isRow, lit?, eqNil, nilOp, flatL, flatLs, headVer, rowsOf, isRow, freezeRow, LV.sc, rowParts, buildParts, okAll, touch, meets, apart, apartAll, runDraw, argIds, rowIds, List.range', rowsWide, byteOf?, byteRow, lendP, Nat.testBit_eq_decide_div_mod_eq, pm.chk, pm.isB, pm.truth, pm.gd, pm.imp, pm.and, pm.pickT, pm.pickF, pm.not, pm.notOk, pm.len, pm.lenL, pm.lenOk, pm.lenOkL, pm.sidx, pm.sidxOk, pm.add, pm.sub, pm.mul, pm.quo, pm.rem, pm.eql, pm.neq, pm.lss, pm.leq, pm.gtr, pm.geq, pm.addOk, pm.subOk, pm.mulOk, pm.quoOk, pm.remOk, pm.eqlOk, pm.neqOk, pm.lssOk, pm.leqOk, pm.gtrOk, pm.geqOk, pm.seql, pm.sneq, pm.seqlOk, pm.sneqOk, pm.beql, pm.bneq, pm.beqlOk, pm.bneqOk, pm.conv, pm.convOk, pm.cut, pm.cutA, pm.cutOk, pm.cutAOk, pm.rowsOk, pm.rlen, pm.cell, pm.wid, pm.widGe, pm.repl, pm.replOk, pm.nat, pm.natOk, pm.rget, pm.rput, pm.sub2, pm.lidx, pm.lidxOk, pm.lim, pm.rapp, pm.rowsL, pm.rowsS, pm.rowsOkL, pm.str, pm.strOk, pm.flatI, pm.flatB, pm.flatS, pm.join, pm.joinOk, pm.pidx, pm.pidxOk, pm.shl, pm.shr, pm.shlOk, pm.shrOk, pm.orI, pm.andI, pm.orOk, pm.andOk, pm.andNI, pm.andNOk]
theorem w38_escBad (h2 : ¬ ee = 0) :
    tell M (head 0 ⟨[0, 4, 5, 6], [], [], []⟩) (exec M S Lp 0 rf38_b0 ⟨sV s :: iV f :: bads 5 ++ .ptr 0 0 :: bads 77, bldH bs, []⟩) =
      some (.ret, true, ⟨sV s :: bads 3 ++ sV [] :: iV f :: iV ee :: bads 78, [], []⟩) := by
  have hle : f ≤ s.length := by omega
  subst h1
  cases bs <;> simp [hf, hle, e45, e47, h2, bldH, rf38_b0, exec, runOps, stepG, opRun, sv, strip, evalO, sV, iV, bV, bads, put, ROp.dst, ROp.quiet, guardOf, impAll, pvOf, pvOf?, callRun, callFn, prep, argOf, handOver, behind, takeBack, List.replicate, reachable, reach, addNew, idsOfs, idsOf, Blk.ids, rens, ren, renBlks, renBlk, layOld, layNew, posIn, AM.lent, tell, head, openAll, forget, tidy, List.range, List.range.loop, backR, backV, backId, backVer, toZero, verOf, cellsOf, widOk, mkAgg, splice, resOne, resAll, resVal, runFn, freeze, freezeAll, depth, allPV, isRow, lit?, eqNil, nilOp, flatL, flatLs, headVer, rowsOf, isRow, freezeRow, LV.sc, rowParts, buildParts, okAll, touch, meets, apart, apartAll, runDraw, argIds, rowIds, List.range', rowsWide, byteOf?, byteRow, lendP, Nat.testBit_eq_decide_div_mod_eq, pm.chk, pm.isB, pm.truth, pm.gd, pm.imp, pm.and, pm.pickT, pm.pickF, pm.not, pm.notOk, pm.len, pm.lenL, pm.lenOk, pm.lenOkL, pm.sidx, pm.sidxOk, pm.add, pm.sub, pm.mul, pm.quo, pm.rem, pm.eql, pm.neq, pm.lss, pm.leq, pm.gtr, pm.geq, pm.addOk, pm.subOk, pm.mulOk, pm.quoOk, pm.remOk, pm.eqlOk, pm.neqOk, pm.lssOk, pm.leqOk, pm.gtrOk, pm.geqOk, pm.seql, pm.sneq, pm.seqlOk, pm.sneqOk, pm.beql, pm.bneq, pm.beqlOk, pm.bneqOk, pm.conv, pm.convOk, pm.cut, pm.cutA, pm.cutOk, pm.cutAOk, pm.rowsOk, pm.rlen, pm.cell, pm.wid, pm.widGe, pm.repl, pm.replOk, pm.nat, pm.natOk, pm.rget, pm.rput, pm.sub2, pm.lidx, pm.lidxOk, pm.lim, pm.rapp, pm.rowsL, pm.rowsS, pm.rowsOkL, pm.str, pm.strOk, pm.flatI, pm.flatB, pm.flatS, pm.join, pm.joinOk, pm.pidx, pm.pidxOk, pm.shl, pm.shr, pm.shlOk, pm.shrOk, pm.orI, pm.andI, pm.orOk, pm.andOk, pm.andNI, pm.andNOk]
end
end
theorem w38_end {bs : Option (List Int)} (hf : ¬ f < s.length) :
    tell M (head 0 ⟨[0, 4, 5, 6], [], [], []⟩) (exec M S Lp 0 rf38_b0 ⟨sV s :: iV f :: bads 5 ++ .ptr 0 0 :: bads 77, bldH bs, []⟩) =
      some (.exit 1, true, ⟨sV s :: bads 84, [], []⟩) := by
  cases bs <;> simp [hf, bldH, rf38_b0, exec, runOps, stepG, opRun, sv, strip, evalO, sV, iV, bV, bads, put, ROp.dst, ROp.quiet, guardOf, impAll, pvOf, pvOf?, callRun, callFn, prep, argOf, handOver, behind, takeBack, List.replicate, reachable, reach, addNew, idsOfs, idsOf, Blk.ids, rens, ren, renBlks, renBlk, layOld, layNew, posIn, AM.lent, tell, head, openAll, forget, tidy, List.range, List.range.loop, backR, backV, backId, backVer, toZero, verOf, cellsOf, widOk, mkAgg, splice, resOne, resAll, resVal, runFn, freeze, freezeAll, depth, allPV, isRow, lit?, eqNil, nilOp, flatL, flatLs, headVer, rowsOf, isRow, freezeRow, LV.sc, rowParts, buildParts, okAll, touch, meets, apart, apartAll, runDraw, argIds, rowIds, List.range', rowsWide, byteOf?, byteRow, lendP, Nat.testBit_eq_decide_div_mod_eq, pm.chk, pm.isB, pm.truth, pm.gd, pm.imp, pm.and, pm.pickT, pm.pickF, pm.not, pm.notOk, pm.len, pm.lenL, pm.lenOk, pm.lenOkL, pm.sidx, pm.sidxOk, pm.add, pm.sub, pm.mul, pm.quo, pm.rem, pm.eql, pm.neq, pm.lss, pm.leq, pm.gtr, pm.geq, pm.addOk, pm.subOk, pm.mulOk, pm.quoOk, pm.remOk, pm.eqlOk, pm.neqOk, pm.lssOk, pm.leqOk, pm.gtrOk, pm.geqOk, pm.seql, pm.sneq, pm.seqlOk, pm.sneqOk, pm.beql, pm.bneq, pm.beqlOk, pm.bneqOk, pm.conv, pm.convOk, pm.cut, pm.cutA, pm.cutOk, pm.cutAOk, pm.rowsOk, pm.rlen, pm.cell, pm.wid, pm.widGe, pm.repl, pm.replOk, pm.nat, pm.natOk, pm.rget, pm.rput, pm.sub2, pm.lidx, pm.lidxOk, pm.lim, pm.rapp, pm.rowsL, pm.rowsS, pm.rowsOkL, pm.str, pm.strOk, pm.flatI, pm.flatB, pm.flatS, pm.join, pm.joinOk, pm.pidx, pm.pidxOk, pm.shl, pm.shr, pm.shlOk, pm.shrOk, pm.orI, pm.andI, pm.orOk, pm.andOk, pm.andNI, pm.andNOk]
end
end AI.Tok
end

section
namespace AI.Tok
open Go AI
set_option maxRecDepth 100000

theorem ior_top2 : ∀ q : Fin 32, ior .u8 192 (IntKind.u8.wrap (q.val : Int)) = 192 + q.val := by decide +kernel
theorem ior_top3 : ∀ q : Fin 16, ior .u8 224 (IntKind.u8.wrap (q.val : Int)) = 224 + q.val := by decide +kernel
theorem ior_top4 : ∀ q : Fin 8, ior .u8 240 (IntKind.u8.wrap (q.val : Int)) = 240 + q.val := by decide +kernel
theorem ior_low : ∀ b : Fin 256, ior .u8 128 (iand .u8 (b.val : Int) 63) = 128 + (b.val % 64 : Nat) := by decide +kernel
theorem wrap8_mod (z : Int) : IntKind.u8.wrap z = z % 256 := by simp [IntKind.wrap, IntKind.bits, IntKind.signed]
theorem wrap32u {z : Int} (h1 : 0 ≤ z) (h2 : z < 4294967296) : IntKind.u32.wrap z = z := by
  simp [IntKind.wrap, IntKind.bits, IntKind.signed]; omega
theorem wrap32i {z : Int} (h1 : -2147483648 ≤ z) (h2 : z ≤ 2147483647) : IntKind.i32.wrap z = z := by
  simp [IntKind.wrap, IntKind.bits, IntKind.signed, IntKind.max, IntKind.min]; omega
theorem low_eq (z : Int) : ior .u8 128 (iand .u8 (IntKind.u8.wrap z) 63) = 128 + z % 64 := by
  rw [wrap8_mod]
  have h1 : 0 ≤ z % 256 := by omega
  have h2 : z % 256 < 256 := by omega
  obtain ⟨n, hn⟩ := Int.eq_ofNat_of_zero_le h1
  have := ior_low ⟨n, by omega⟩
  simp only at this
  rw [hn, this]
  omega
theorem ishr_eq {n : Int} {k : Nat} (h : k ≤ 32) (hn : 0 ≤ n) : ishr .i32 n k = n / 2 ^ k := by
  unfold ishr
  rw [show (IntKind.i32.bits) = 32 from rfl, Int.toNat_natCast, Nat.min_eq_left h, Int.fdiv_eq_ediv_of_nonneg _ (Int.pow_nonneg (by decide))]
theorem top2_eq {q : Int} (h1 : 0 ≤ q) (h2 : q < 32) : ior .u8 192 (IntKind.u8.wrap q) = 192 + q := by
  obtain ⟨n, rfl⟩ := Int.eq_ofNat_of_zero_le h1
  exact ior_top2 ⟨n, by omega⟩
theorem top3_eq {q : Int} (h1 : 0 ≤ q) (h2 : q < 16) : ior .u8 224 (IntKind.u8.wrap q) = 224 + q := by
  obtain ⟨n, rfl⟩ := Int.eq_ofNat_of_zero_le h1
  exact ior_top3 ⟨n, by omega⟩
theorem top4_eq {q : Int} (h1 : 0 ≤ q) (h2 : q < 8) : ior .u8 240 (IntKind.u8.wrap q) = 240 + q := by
  obtain ⟨n, rfl⟩ := Int.eq_ofNat_of_zero_le h1
  exact ior_top4 ⟨n, by omega⟩
theorem encB_eq {n : Int} (h1 : 0 ≤ n) (h2 : n ≤ 1114111) : encB n = 128 + n % 64 := by
  unfold encB
  rw [Int.tmod_eq_emod_of_nonneg h1, wrap64 (by omega) (by omega), wrap8_mod]; omega
theorem encQ_eq {n : Int} (h1 : 0 ≤ n) (h2 : n ≤ 1114111) : encQ n = n / 64 := by
  unfold encQ
  rw [Int.tdiv_eq_ediv_of_nonneg h1, wrap64 (by omega) (by omega)]
theorem encL_eq {z n : Int} (h1 : 0 ≤ z + n) (h2 : z + n < 256) : encL z n = z + n := by
  unfold encL
  rw [wrap64 (by omega) (by omega), wrap8_mod]; omega
/-- A rune's bytes. -/
theorem encZ_eq {n : Int} (h : isRuneN n = true) : encZ n = (if n < 128 then [n] else if n < 2048 then [192 + n / 64, 128 + n % 64] else if n < 65536 then [224 + n / 4096, 128 + n / 64 % 64, 128 + n % 64] else [240 + n / 262144, 128 + n / 4096 % 64, 128 + n / 64 % 64, 128 + n % 64]) := by
  obtain ⟨h1, h2, h3⟩ := rune_iff.1 h
  have q1 : encQ n = n / 64 := encQ_eq h1 h2
  have q2 : encQ (n / 64) = n / 4096 := by rw [encQ_eq (by omega) (by omega)]; omega
  have q3 : encQ (n / 4096) = n / 262144 := by rw [encQ_eq (by omega) (by omega)]; omega
  have b0 : encB n = 128 + n % 64 := encB_eq h1 h2
  have b1 : encB (n / 64) = 128 + n / 64 % 64 := encB_eq (by omega) (by omega)
  have b2 : encB (n / 4096) = 128 + n / 4096 % 64 := encB_eq (by omega) (by omega)
  unfold encZ sizeN
  by_cases c1 : n < 128
  · simp only [c1, if_true]; rw [wrap8_mod]; congr 1; omega
  · by_cases c2 : n < 2048
    · simp only [c1, c2, if_false, if_true]
      rw [q1, b0, encL_eq (by omega) (by omega)]
    · by_cases c3 : n < 65536
      · simp only [c1, c2, c3, if_false, if_true]
        rw [q1, q2, b0, b1, encL_eq (by omega) (by omega)]
      · simp only [c1, c2, c3, if_false]
        rw [q1, q2, q3, b0, b1, b2, encL_eq (by omega) (by omega)]
theorem encP_eq {n : Int} (h : isRuneN n = true) : encP n = encZ n := by
  obtain ⟨h1, h2, h3⟩ := rune_iff.1 h
  rw [encZ_eq h]
  unfold encP
  rw [wrap32u h1 (by omega)]
  have s6 : ishr .i32 n 6 = n / 64 := ishr_eq (k := 6) (by decide) h1
  have s12 : ishr .i32 n 12 = n / 4096 := ishr_eq (k := 12) (by decide) h1
  have s18 : ishr .i32 n 18 = n / 262144 := ishr_eq (k := 18) (by decide) h1
  by_cases c1 : n < 128
  · rw [if_pos (by omega), if_pos c1, wrap8_mod]; congr 1; omega
  · rw [if_neg (by omega), if_neg c1]
    by_cases c2 : n < 2048
    · rw [if_pos (by omega), if_pos c2, topB, low0, s6, top2_eq (by omega) (by omega), low_eq]
    · rw [if_neg (by omega), if_neg c2]
      by_cases c3 : n < 65536
      · rw [if_pos (by omega), if_pos c3, topB, low0, lowB, s6, s12, top3_eq (by omega) (by omega), low_eq, low_eq]
      · rw [if_neg (by omega), if_neg c3, if_pos (by omega), topB, low0, lowB, lowB, s6, s12, s18, top4_eq (by omega) (by omega), low_eq, low_eq, low_eq]

/-! ### Escapes -/
theorem ior_shift {x y : Int} {k : Nat} (hx : 0 ≤ x) (hy : 0 ≤ y) (hy2 : y < 2 ^ k) (hb : x * 2 ^ k + y < 2147483648) : ior .i32 (x * 2 ^ k) y = x * 2 ^ k + y := by
  obtain ⟨a, rfl⟩ := Int.eq_ofNat_of_zero_le hx
  obtain ⟨b, rfl⟩ := Int.eq_ofNat_of_zero_le hy
  have hy2' : b < 2 ^ k := by exact_mod_cast hy2
  have e0 : ((a * 2 ^ k + b : Nat) : Int) = (a : Int) * 2 ^ k + b := by push_cast; rfl
  have hb' : a * 2 ^ k + b < 2147483648 := by rw [← e0] at hb; omega
  unfold ior
  have e : ((a : Int) * 2 ^ k) = ((a * 2 ^ k : Nat) : Int) := by push_cast; rfl
  rw [e, show IntKind.i32.bits = 32 from rfl, BitVec.ofInt_natCast, BitVec.ofInt_natCast, BitVec.toNat_or, BitVec.toNat_ofNat, BitVec.toNat_ofNat]
  rw [Nat.mod_eq_of_lt (by omega), Nat.mod_eq_of_lt (by omega)]
  have := Nat.shiftLeft_add_eq_or_of_lt hy2' a
  rw [Nat.shiftLeft_eq] at this
  rw [← this, wrap32i (by omega) (by omega)]
  push_cast; rfl
theorem ishl_eq {x : Int} {k : Nat} (hk : k ≤ 32) (hx : 0 ≤ x) (hb : x * 2 ^ k < 2147483648) : ishl .i32 x k = x * 2 ^ k := by
  unfold ishl
  rw [show (IntKind.i32.bits) = 32 from rfl, Int.toNat_natCast, Nat.min_eq_left hk]
  have : 0 ≤ x * 2 ^ k := Int.mul_nonneg hx (Int.pow_nonneg (by decide))
  exact wrap32i (by omega) (by omega)
theorem hexFrom_eq {s : List UInt8} {f : Nat} : ∀ (k p : Nat) (n : Int), 0 ≤ n → (n + 1) * 16 ^ k ≤ 65536 → hexFromP (s.drop f) k p n = hexFrom s k (f + p) n
  | 0, p, n, _, _ => rfl
  | k + 1, p, n, h, hk => by
    have hbt : bt (s.drop f) p = bt s (f + p) := by simp [bt]
    simp only [hexFromP, hexFrom, hbt]
    split
    · rfl
    rename_i hn
    obtain ⟨g1, g2⟩ := hexN_range (bt s (f + p))
    have hp : 1 ≤ (16 : Int) ^ k := by
      have : (0 : Int) < 16 ^ k := Int.pow_pos (by decide)
      omega
    have h16 : (16 : Int) ^ (k + 1) = 16 * 16 ^ k := by rw [Int.pow_succ]; omega
    rw [h16] at hk
    have hb : (n + 1) * (16 * 16 ^ k) = (16 * n + 16) * 16 ^ k := by
      rw [← Int.mul_assoc]; congr 1; omega
    rw [hb] at hk
    have hn16 : 16 * n + 16 ≤ 65536 := by
      have : (16 * n + 16) * 1 ≤ (16 * n + 16) * 16 ^ k := Int.mul_le_mul_of_nonneg_left hp (by omega)
      omega
    have w1 : IntKind.i64.wrap (16 * n) = 16 * n := wrap64 (by omega) (by omega)
    have w2 : IntKind.i64.wrap (16 * n + hexN (bt s (f + p))) = 16 * n + hexN (bt s (f + p)) := wrap64 (by omega) (by omega)
    have e1 : ishl .i32 n 4 = n * 2 ^ 4 := ishl_eq (k := 4) (by decide) h (by omega)
    have e2 : ior .i32 (n * 2 ^ 4) (hexN (bt s (f + p))) = n * 2 ^ 4 + hexN (bt s (f + p)) := ior_shift (k := 4) h (by omega) (by omega) (by omega)
    have hle : (16 * n + hexN (bt s (f + p)) + 1) * 16 ^ k ≤ (16 * n + 16) * 16 ^ k := Int.mul_le_mul_of_nonneg_right (by omega) (by omega)
    rw [e1, e2, w1, w2, show n * 2 ^ 4 + hexN (bt s (f + p)) = 16 * n + hexN (bt s (f + p)) by omega]
    rw [hexFrom_eq k (p + 1) (16 * n + hexN (bt s (f + p))) (by omega) (by omega)]
    rfl
theorem numbered_eq {s : List UInt8} {f : Nat} (hf : f ≤ s.length) : numberedP (s.drop f) = numberedN s f := by
  have h0 : bt (s.drop f) 0 = bt s f := by simp [bt]
  have h1 : bt (s.drop f) 1 = bt s (f + 1) := by simp [bt]
  have hl : (s.drop f).length < 6 ↔ s.length < f + 6 := by simp; omega
  unfold numberedP numberedN
  rw [h0, h1, hexFrom_eq 4 2 0 (by omega) (by decide)]
  simp only [hl]
  all_goals (cases hexFrom s 4 (f + 2) 0 <;> rfl)
theorem short_eq : ∀ c : Fin 256, shortP (UInt8.ofNat c.val) = shortN (UInt8.ofNat c.val) := by decide +kernel
theorem short_eq' (c : UInt8) : shortP c = shortN c := by
  have := short_eq ⟨c.toNat, c.toNat_lt⟩
  simpa using this
theorem pair_eq {n low : Int} (h1 : 55296 ≤ n) (h2 : n < 56320) (h3 : 56320 ≤ low) (h4 : low ≤ 57343) : pairP n low = pairN n low := by
  rw [pairN_eq h1 h2 h3 h4]
  unfold pairP
  have e1 : ishl .i32 (n - 55296) 10 = (n - 55296) * 2 ^ 10 := ishl_eq (k := 10) (by decide) (by omega) (by omega)
  rw [wrap32i (z := n - 55296) (by omega) (by omega), e1, wrap32i (z := 65536 + (n - 55296) * 2 ^ 10) (by omega) (by omega), wrap32i (z := low - 56320) (by omega) (by omega), wrap32i (by omega) (by omega)]
  omega
theorem esc_eq {s : List UInt8} {f : Nat} (hf : f < s.length) : escP (s.drop f) f = escN s f := by
  have h0 : bt (s.drop f) 0 = bt s f := by simp [bt]
  have h1 : bt (s.drop f) 1 = bt s (f + 1) := by simp [bt]
  obtain ⟨r1, r2⟩ := numberedN_range s f
  have hn := numbered_eq (s := s) (f := f) (by omega)
  unfold escP escN
  rw [hn, h0, h1, short_eq']
  by_cases c1 : numberedN s f < 0
  · rw [if_pos c1, if_pos c1]
    have hl : (s.drop f).length < 2 ↔ ¬ f + 1 < s.length := by simp; omega
    by_cases d1 : f + 1 < s.length
    · by_cases d2 : (bt s f).toNat = 92
      · by_cases d3 : 0 ≤ shortN (bt s (f + 1))
        · rw [if_neg (by rw [hl]; simp [d1, d2]; omega), if_pos ⟨d2, d1, d3⟩]
        · rw [if_pos (.inr (.inr (by omega))), if_neg (fun h => d3 h.2.2)]
      · rw [if_pos (.inr (.inl d2)), if_neg (fun h => d2 h.1)]
    · rw [if_pos (.inl (hl.2 d1)), if_neg (fun h => d1 h.2.1)]
  · rw [if_neg c1, if_neg c1]
    have h6 : 6 ≤ (s.drop f).length := numberedP_len (by rw [hn]; exact c1)
    have hd : (s.drop f).drop 6 = s.drop (f + 6) := by rw [List.drop_drop]
    have hf6 : f + 6 ≤ s.length := by simp at h6; omega
    have hn6 := numbered_eq (s := s) (f := f + 6) hf6
    obtain ⟨t1, t2⟩ := numberedN_range s (f + 6)
    rw [hd, hn6]
    by_cases c2 : 56320 ≤ numberedN s f ∧ numberedN s f ≤ 57343
    · have e1 : isLowN (numberedN s f) = true := by simp [isLowN, c2]
      have g1 : ¬ (numberedN s f < 55296 ∨ 57343 < numberedN s f) := by omega
      rw [if_pos e1, if_neg g1, if_pos (.inl c2.1)]
    · have e1 : ¬ isLowN (numberedN s f) = true := by simp [isLowN]; omega
      rw [if_neg e1]
      by_cases c3 : 55296 ≤ numberedN s f ∧ numberedN s f ≤ 56319
      · have e2 : ¬ isHighN (numberedN s f) = false := by simp [isHighN, c3]
        have g1 : ¬ (numberedN s f < 55296 ∨ 57343 < numberedN s f) := by omega
        rw [if_neg e2]
        by_cases c4 : 56320 ≤ numberedN s (f + 6) ∧ numberedN s (f + 6) ≤ 57343
        · have e3 : ¬ isLowN (numberedN s (f + 6)) = false := by simp [isLowN, c4]
          have g2 : ¬ (56320 ≤ numberedN s f ∨ numberedN s (f + 6) < 56320 ∨ 57343 < numberedN s (f + 6)) := by omega
          rw [if_neg e3, if_neg g1, if_neg g2, pair_eq (by omega) (by omega) c4.1 c4.2]
        · have e3 : isLowN (numberedN s (f + 6)) = false := by simp [isLowN]; omega
          have g2 : 56320 ≤ numberedN s f ∨ numberedN s (f + 6) < 56320 ∨ 57343 < numberedN s (f + 6) := by omega
          rw [if_pos e3, if_neg g1, if_pos g2]
      · have e2 : isHighN (numberedN s f) = false := by simp [isHighN]; omega
        have g1 : numberedN s f < 55296 ∨ 57343 < numberedN s f := by omega
        rw [if_pos e2, if_pos g1]
end AI.Tok
end

section
namespace AI.Tok
open Go AI
set_option maxRecDepth 100000

/-! ### What the bit operations give -/
theorem and31 : ∀ b : Fin 256, iand .u8 (b.val : Int) 31 = (b.val % 32 : Nat) := by decide +kernel
theorem and15 : ∀ b : Fin 256, iand .u8 (b.val : Int) 15 = (b.val % 16 : Nat) := by decide +kernel
theorem and7 : ∀ b : Fin 256, iand .u8 (b.val : Int) 7 = (b.val % 8 : Nat) := by decide +kernel
theorem and63 : ∀ b : Fin 256, iand .u8 (b.val : Int) 63 = (b.val % 64 : Nat) := by decide +kernel
theorem cont_eq {b : Nat} (h : b < 256) : cont (b : Int) = (b % 64 : Nat) := by
  have := and63 ⟨b, h⟩
  simp only at this
  rw [cont, this, wrap32i (by omega) (by omega)]
theorem lead31 {b : Nat} (h : b < 256) : lead 31 6 (b : Int) = ((b % 32 : Nat) : Int) * 2 ^ 6 := by
  have := and31 ⟨b, h⟩
  simp only at this
  rw [lead, this, wrap32i (by omega) (by omega)]
  exact ishl_eq (k := 6) (by decide) (by omega) (by omega)
theorem lead15 {b : Nat} (h : b < 256) : lead 15 12 (b : Int) = ((b % 16 : Nat) : Int) * 2 ^ 12 := by
  have := and15 ⟨b, h⟩
  simp only at this
  rw [lead, this, wrap32i (by omega) (by omega)]
  exact ishl_eq (k := 12) (by decide) (by omega) (by omega)
theorem lead7 {b : Nat} (h : b < 256) : lead 7 18 (b : Int) = ((b % 8 : Nat) : Int) * 2 ^ 18 := by
  have := and7 ⟨b, h⟩
  simp only at this
  rw [lead, this, wrap32i (by omega) (by omega)]
  exact ishl_eq (k := 18) (by decide) (by omega) (by omega)
theorem dec2_eq {b0 b1 : Nat} (h0 : b0 < 256) (h1 : b1 < 256) : dec2 b0 b1 = (b0 % 32 * 64 + b1 % 64 : Nat) := by
  rw [dec2, lead31 h0, cont_eq h1, ior_shift (k := 6) (by omega) (by omega) (by omega) (by omega)]
  omega
theorem dec3_eq {b0 b1 b2 : Nat} (h0 : b0 < 256) (h1 : b1 < 256) (h2 : b2 < 256) : dec3 b0 b1 b2 = (b0 % 16 * 4096 + b1 % 64 * 64 + b2 % 64 : Nat) := by
  have e1 : ishl .i32 ((b1 % 64 : Nat) : Int) 6 = ((b1 % 64 : Nat) : Int) * 2 ^ 6 := ishl_eq (k := 6) (by decide) (by omega) (by omega)
  rw [dec3, lead15 h0, cont_eq h1, cont_eq h2, e1, ior_shift (k := 12) (by omega) (by omega) (by omega) (by omega)]
  have e2 : ((b0 % 16 : Nat) : Int) * 2 ^ 12 + ((b1 % 64 : Nat) : Int) * 2 ^ 6 = (((b0 % 16 : Nat) : Int) * 64 + ((b1 % 64 : Nat) : Int)) * 2 ^ 6 := by omega
  rw [e2, ior_shift (k := 6) (by omega) (by omega) (by omega) (by omega)]
  omega
theorem dec4_eq {b0 b1 b2 b3 : Nat} (h0 : b0 < 256) (h1 : b1 < 256) (h2 : b2 < 256) (h3 : b3 < 256) : dec4 b0 b1 b2 b3 = (b0 % 8 * 262144 + b1 % 64 * 4096 + b2 % 64 * 64 + b3 % 64 : Nat) := by
  have e1 : ishl .i32 ((b1 % 64 : Nat) : Int) 12 = ((b1 % 64 : Nat) : Int) * 2 ^ 12 := ishl_eq (k := 12) (by decide) (by omega) (by omega)
  have e2 : ishl .i32 ((b2 % 64 : Nat) : Int) 6 = ((b2 % 64 : Nat) : Int) * 2 ^ 6 := ishl_eq (k := 6) (by decide) (by omega) (by omega)
  rw [dec4, lead7 h0, cont_eq h1, cont_eq h2, cont_eq h3, e1, e2, ior_shift (k := 18) (by omega) (by omega) (by omega) (by omega)]
  have e3 : ((b0 % 8 : Nat) : Int) * 2 ^ 18 + ((b1 % 64 : Nat) : Int) * 2 ^ 12 = (((b0 % 8 : Nat) : Int) * 64 + ((b1 % 64 : Nat) : Int)) * 2 ^ 12 := by omega
  rw [e3, ior_shift (k := 12) (by omega) (by omega) (by omega) (by omega)]
  have e4 : (((b0 % 8 : Nat) : Int) * 64 + ((b1 % 64 : Nat) : Int)) * 2 ^ 12 + ((b2 % 64 : Nat) : Int) * 2 ^ 6 = ((((b0 % 8 : Nat) : Int) * 64 + ((b1 % 64 : Nat) : Int)) * 64 + ((b2 % 64 : Nat) : Int)) * 2 ^ 6 := by omega
  rw [e4, ior_shift (k := 6) (by omega) (by omega) (by omega) (by omega)]
  omega

/-! ### What is spelled -/
abbrev isC (b : Nat) : Prop := 128 ≤ b ∧ b ≤ 191
def okR (n : Int) (z : Nat) : Int := if isRuneN n = true ∧ sizeN n = z then n else -1
theorem sp1 (s : List UInt8) (f : Nat) : spelledN s f 1 = if (bt s f).toNat < 128 then ((bt s f).toNat : Int) else -1 := by
  have hb := (bt s f).toNat_lt
  show (if ((bt s f).toNat : Int) - 0 < 0 then -1 else (if isRuneN (((bt s f).toNat : Int) - 0) = true ∧ sizeN (((bt s f).toNat : Int) - 0) = 1 then (((bt s f).toNat : Int) - 0) else -1)) = _
  rw [Int.sub_zero, if_neg (by omega)]
  by_cases h : (bt s f).toNat < 128
  · rw [if_pos h, if_pos ⟨rune_iff.2 (by omega), by simp only [sizeN]; rw [if_pos (by omega)]⟩]
  · rw [if_neg h, if_neg (fun hh => by
      have := hh.2
      simp only [sizeN] at this
      rw [if_neg (by omega)] at this
      split at this <;> simp at this
      split at this <;> simp at this)]
theorem sp2 (s : List UInt8) (f : Nat) : spelledN s f 2 = if 192 ≤ (bt s f).toNat ∧ isC (bt s (f + 1)).toNat then okR (64 * (((bt s f).toNat : Int) - 192) + (bt s (f + 1)).toNat - 128) 2 else -1 := by
  have hb := (bt s f).toNat_lt
  have hb1 := (bt s (f + 1)).toNat_lt
  show (if ((bt s f).toNat : Int) - 192 < 0 then -1 else match spellFrom s 1 (f + 1) (((bt s f).toNat : Int) - 192) with | none => -1 | some n => okR n 2) = _
  simp only [spellFrom, isC, Nat.add_assoc, Nat.reduceAdd]
  by_cases h : 192 ≤ (bt s f).toNat
  · rw [if_neg (by omega)]
    by_cases hc : 128 ≤ (bt s (f + 1)).toNat ∧ (bt s (f + 1)).toNat ≤ 191
    · rw [if_neg (by omega), if_pos ⟨h, hc⟩]
      rw [wrap64 (z := 64 * _) (by omega) (by omega), wrap64 (z := 64 * _ + _) (by omega) (by omega), wrap64 (by omega) (by omega)]
    · rw [if_pos (by omega), if_neg (fun hh => hc hh.2)]
  · rw [if_pos (by omega), if_neg (fun hh => h hh.1)]
theorem sp3 (s : List UInt8) (f : Nat) : spelledN s f 3 = if 224 ≤ (bt s f).toNat ∧ isC (bt s (f + 1)).toNat ∧ isC (bt s (f + 2)).toNat then
    okR (64 * (64 * (((bt s f).toNat : Int) - 224) + (bt s (f + 1)).toNat - 128) + (bt s (f + 2)).toNat - 128) 3 else -1 := by
  have hb := (bt s f).toNat_lt
  have hb1 := (bt s (f + 1)).toNat_lt
  have hb2 := (bt s (f + 2)).toNat_lt
  show (if ((bt s f).toNat : Int) - 224 < 0 then -1 else match spellFrom s 2 (f + 1) (((bt s f).toNat : Int) - 224) with | none => -1 | some n => okR n 3) = _
  simp only [spellFrom, isC, Nat.add_assoc, Nat.reduceAdd]
  by_cases h : 224 ≤ (bt s f).toNat
  · rw [if_neg (by omega)]
    by_cases hc : 128 ≤ (bt s (f + 1)).toNat ∧ (bt s (f + 1)).toNat ≤ 191
    · rw [if_neg (by omega)]
      by_cases hd : 128 ≤ (bt s (f + 2)).toNat ∧ (bt s (f + 2)).toNat ≤ 191
      · rw [if_neg (by omega), if_pos ⟨h, hc, hd⟩]
        rw [wrap64 (z := 64 * (((bt s f).toNat : Int) - 224)) (by omega) (by omega), wrap64 (z := 64 * (((bt s f).toNat : Int) - 224) + _) (by omega) (by omega), wrap64 (z := 64 * (((bt s f).toNat : Int) - 224) + _ - 128) (by omega) (by omega)]
        rw [wrap64 (z := 64 * (64 * (((bt s f).toNat : Int) - 224) + _ - 128)) (by omega) (by omega), wrap64 (z := 64 * (64 * (((bt s f).toNat : Int) - 224) + _ - 128) + _) (by omega) (by omega), wrap64 (by omega) (by omega)]
      · rw [if_pos (by omega), if_neg (fun hh => hd hh.2.2)]
    · rw [if_pos (by omega), if_neg (fun hh => hc hh.2.1)]
  · rw [if_pos (by omega), if_neg (fun hh => h hh.1)]
theorem sp4 (s : List UInt8) (f : Nat) : spelledN s f 4 = if 240 ≤ (bt s f).toNat ∧ isC (bt s (f + 1)).toNat ∧ isC (bt s (f + 2)).toNat ∧ isC (bt s (f + 3)).toNat then
    okR (64 * (64 * (64 * (((bt s f).toNat : Int) - 240) + (bt s (f + 1)).toNat - 128) + (bt s (f + 2)).toNat - 128) + (bt s (f + 3)).toNat - 128) 4 else -1 := by
  have hb := (bt s f).toNat_lt
  have hb1 := (bt s (f + 1)).toNat_lt
  have hb2 := (bt s (f + 2)).toNat_lt
  have hb3 := (bt s (f + 3)).toNat_lt
  show (if ((bt s f).toNat : Int) - 240 < 0 then -1 else match spellFrom s 3 (f + 1) (((bt s f).toNat : Int) - 240) with | none => -1 | some n => okR n 4) = _
  simp only [spellFrom, isC, Nat.add_assoc, Nat.reduceAdd]
  generalize (bt s f).toNat = a at *
  generalize (bt s (f + 1)).toNat = b at *
  generalize (bt s (f + 2)).toNat = c at *
  generalize (bt s (f + 3)).toNat = d at *
  by_cases h : 240 ≤ a
  · rw [if_neg (by omega)]
    by_cases hc : 128 ≤ b ∧ b ≤ 191
    · rw [if_neg (by omega)]
      by_cases hd : 128 ≤ c ∧ c ≤ 191
      · rw [if_neg (by omega)]
        by_cases he : 128 ≤ d ∧ d ≤ 191
        · rw [if_neg (by omega), if_pos ⟨h, hc, hd, he⟩]
          rw [wrap64 (z := 64 * ((a : Int) - 240)) (by omega) (by omega), wrap64 (z := 64 * ((a : Int) - 240) + b) (by omega) (by omega), wrap64 (z := 64 * ((a : Int) - 240) + b - 128) (by omega) (by omega)]
          rw [wrap64 (z := 64 * (64 * ((a : Int) - 240) + b - 128)) (by omega) (by omega), wrap64 (z := 64 * (64 * ((a : Int) - 240) + b - 128) + c) (by omega) (by omega), wrap64 (z := 64 * (64 * ((a : Int) - 240) + b - 128) + c - 128) (by omega) (by omega)]
          rw [wrap64 (z := 64 * (64 * (64 * ((a : Int) - 240) + b - 128) + c - 128)) (by omega) (by omega), wrap64 (z := 64 * (64 * (64 * ((a : Int) - 240) + b - 128) + c - 128) + d) (by omega) (by omega), wrap64 (by omega) (by omega)]
        · rw [if_pos (by omega), if_neg (fun hh => he hh.2.2.2)]
      · rw [if_pos (by omega), if_neg (fun hh => hd hh.2.2.1)]
    · rw [if_pos (by omega), if_neg (fun hh => hc hh.2.1)]
  · rw [if_pos (by omega), if_neg (fun hh => h hh.1)]

/-! ### It is the text's -/
theorem okR_pos {n : Int} {z : Nat} (h : 0 ≤ okR n z) : okR n z = n ∧ isRuneN n = true ∧ sizeN n = z := by
  unfold okR at h ⊢
  split
  · rename_i h1; exact ⟨rfl, h1⟩
  · rename_i h1; rw [if_neg h1] at h; omega
theorem sizeN_inv {n : Int} {z : Nat} (h : sizeN n = z) : (n < 128 ∧ z = 1) ∨ (128 ≤ n ∧ n < 2048 ∧ z = 2) ∨ (2048 ≤ n ∧ n < 65536 ∧ z = 3) ∨ (65536 ≤ n ∧ z = 4) := by
  unfold sizeN at h
  split at h
  · exact .inl ⟨by assumption, h.symm⟩
  · split at h
    · exact .inr (.inl ⟨by omega, by assumption, h.symm⟩)
    · split at h
      · exact .inr (.inr (.inl ⟨by omega, by assumption, h.symm⟩))
      · exact .inr (.inr (.inr ⟨by omega, h.symm⟩))
theorem same1 {s : List UInt8} {f : Nat} (hl : f + 1 ≤ s.length) (h : 0 ≤ spelledN s f 1) : sameN s f (encZ (spelledN s f 1)) = true := by
  rw [sp1] at h ⊢
  by_cases hb : (bt s f).toNat < 128
  · rw [if_pos hb] at h ⊢
    rw [encZ_eq (rune_iff.2 (by omega)), if_pos (by omega)]
    simp [sameN, sameAt]; omega
  · rw [if_neg hb] at h; omega
theorem same2 {s : List UInt8} {f : Nat} (hl : f + 2 ≤ s.length) (h : 0 ≤ spelledN s f 2) : sameN s f (encZ (spelledN s f 2)) = true := by
  rw [sp2] at h ⊢
  split at h
  · rename_i hc
    rw [if_pos hc]
    obtain ⟨e, r, z⟩ := okR_pos h
    rw [e, encZ_eq r]
    have := sizeN_inv z
    rw [if_neg (by omega), if_pos (by omega)]
    simp [sameN, sameAt]; omega
  · omega
theorem same3 {s : List UInt8} {f : Nat} (hl : f + 3 ≤ s.length) (h : 0 ≤ spelledN s f 3) : sameN s f (encZ (spelledN s f 3)) = true := by
  rw [sp3] at h ⊢
  split at h
  · rename_i hc
    rw [if_pos hc]
    obtain ⟨e, r, z⟩ := okR_pos h
    rw [e, encZ_eq r]
    have := sizeN_inv z
    rw [if_neg (by omega), if_neg (by omega), if_pos (by omega)]
    simp [sameN, sameAt, Nat.add_assoc]; omega
  · omega
theorem same4 {s : List UInt8} {f : Nat} (hl : f + 4 ≤ s.length) (h : 0 ≤ spelledN s f 4) : sameN s f (encZ (spelledN s f 4)) = true := by
  rw [sp4] at h ⊢
  split at h
  · rename_i hc
    rw [if_pos hc]
    obtain ⟨e, r, z⟩ := okR_pos h
    rw [e, encZ_eq r]
    have := sizeN_inv z
    rw [if_neg (by omega), if_neg (by omega), if_neg (by omega)]
    simp [sameN, sameAt, Nat.add_assoc]; omega
  · omega
/-- The piece, by its size. -/
theorem atN_eq {s : List UInt8} {f : Nat} (hf : f < s.length) : atN s f =
    if 0 ≤ spelledN s f 1 then (f + 1, spelledN s f 1, false) else
    if f + 2 ≤ s.length then (if 0 ≤ spelledN s f 2 then (f + 2, spelledN s f 2, false) else
      if f + 3 ≤ s.length then (if 0 ≤ spelledN s f 3 then (f + 3, spelledN s f 3, false) else
        if f + 4 ≤ s.length then (if 0 ≤ spelledN s f 4 then (f + 4, spelledN s f 4, false) else (f + 1, 65533, true)) else (f + 1, 65533, true))
      else (f + 1, 65533, true))
    else (f + 1, 65533, true) := by
  simp only [atN, atFrom]
  have k1 : (1 ≤ 4 ∧ f + 1 ≤ s.length) := ⟨by decide, by omega⟩
  rw [if_pos k1]
  by_cases h1 : 0 ≤ spelledN s f 1
  · rw [if_pos ⟨h1, same1 k1.2 h1⟩, if_pos h1]
  · rw [if_neg (fun h => h1 h.1), if_neg h1]
    by_cases l2 : f + 2 ≤ s.length
    · rw [if_pos (show 1 + 1 ≤ 4 ∧ f + (1 + 1) ≤ s.length from ⟨by decide, l2⟩), if_pos l2]
      by_cases h2 : 0 ≤ spelledN s f 2
      · rw [if_pos (show 0 ≤ spelledN s f (1 + 1) ∧ _ from ⟨h2, same2 l2 h2⟩), if_pos h2]
      · rw [if_neg (fun h => h2 h.1), if_neg h2]
        by_cases l3 : f + 3 ≤ s.length
        · rw [if_pos (show 1 + 1 + 1 ≤ 4 ∧ f + (1 + 1 + 1) ≤ s.length from ⟨by decide, l3⟩), if_pos l3]
          by_cases h3 : 0 ≤ spelledN s f 3
          · rw [if_pos (show 0 ≤ spelledN s f (1 + 1 + 1) ∧ _ from ⟨h3, same3 l3 h3⟩), if_pos h3]
          · rw [if_neg (fun h => h3 h.1), if_neg h3]
            by_cases l4 : f + 4 ≤ s.length
            · rw [if_pos (show 1 + 1 + 1 + 1 ≤ 4 ∧ f + (1 + 1 + 1 + 1) ≤ s.length from ⟨by decide, l4⟩), if_pos l4]
              by_cases h4 : 0 ≤ spelledN s f 4
              · rw [if_pos (show 0 ≤ spelledN s f (1 + 1 + 1 + 1) ∧ _ from ⟨h4, same4 l4 h4⟩), if_pos h4]
              · rw [if_neg (fun h => h4 h.1), if_neg h4, if_neg (by omega)]
            · rw [if_neg (by omega), if_neg l4]
        · rw [if_neg (by omega), if_neg l3]
    · rw [if_neg (by omega), if_neg l2]
end AI.Tok
end

section
namespace AI.Tok
open Go AI
set_option maxRecDepth 100000

theorem okR_ge {n : Int} {z : Nat} (h : 0 ≤ n) : 0 ≤ okR n z ↔ isRuneN n = true ∧ sizeN n = z := by
  unfold okR
  split
  · rename_i h1; exact ⟨fun _ => h1, fun _ => h⟩
  · rename_i h1; exact ⟨fun h2 => by omega, fun h2 => (h1 h2).elim⟩
theorem okR_val {n : Int} {z : Nat} (h : isRuneN n = true ∧ sizeN n = z) : okR n z = n := if_pos h
theorem sizeN2 {n : Int} (h1 : 128 ≤ n) (h2 : n < 2048) : sizeN n = 2 := by unfold sizeN; rw [if_neg (by omega), if_pos h2]
theorem sizeN3 {n : Int} (h1 : 2048 ≤ n) (h2 : n < 65536) : sizeN n = 3 := by unfold sizeN; rw [if_neg (by omega), if_neg (by omega), if_pos h2]
theorem sizeN4 {n : Int} (h1 : 65536 ≤ n) : sizeN n = 4 := by unfold sizeN; rw [if_neg (by omega), if_neg (by omega), if_neg (by omega)]

section
variable {s : List UInt8} {f : Nat}
theorem ge1 : 0 ≤ spelledN s f 1 ↔ (bt s f).toNat < 128 := by
  rw [sp1]; split <;> omega
theorem ge2 : 0 ≤ spelledN s f 2 ↔ 194 ≤ (bt s f).toNat ∧ (bt s f).toNat ≤ 223 ∧ isC (bt s (f + 1)).toNat := by
  have hb := (bt s f).toNat_lt
  rw [sp2]
  split
  · rename_i h
    rw [okR_ge (by omega)]
    constructor
    · intro ⟨h1, h2⟩
      have := sizeN_inv h2
      exact ⟨by omega, by omega, h.2⟩
    · intro ⟨h1, h2, h3⟩
      exact ⟨rune_iff.2 (by omega), sizeN2 (by omega) (by omega)⟩
  · rename_i h
    exact ⟨fun h1 => by omega, fun h1 => (h ⟨by omega, h1.2.2⟩).elim⟩
theorem val2 (h : 0 ≤ spelledN s f 2) : spelledN s f 2 = 64 * (((bt s f).toNat : Int) - 192) + (bt s (f + 1)).toNat - 128 := by
  rw [sp2] at h ⊢
  split at h
  · rename_i hc; rw [if_pos hc]; exact (okR_pos h).1
  · omega
theorem ge3 : 0 ≤ spelledN s f 3 ↔ 224 ≤ (bt s f).toNat ∧ (bt s f).toNat ≤ 239 ∧ isC (bt s (f + 1)).toNat ∧ isC (bt s (f + 2)).toNat ∧ ((bt s f).toNat = 224 → 160 ≤ (bt s (f + 1)).toNat) ∧ ((bt s f).toNat = 237 → (bt s (f + 1)).toNat ≤ 159) := by
  have hb := (bt s f).toNat_lt
  rw [sp3]
  split
  · rename_i h
    rw [okR_ge (by omega)]
    constructor
    · intro ⟨h1, h2⟩
      have h1' := rune_iff.1 h1
      have := sizeN_inv h2
      exact ⟨by omega, by omega, h.2.1, h.2.2, by omega, by omega⟩
    · intro ⟨h1, h2, h3, h4, h5, h6⟩
      exact ⟨rune_iff.2 (by omega), sizeN3 (by omega) (by omega)⟩
  · rename_i h
    exact ⟨fun h1 => by omega, fun h1 => (h ⟨h1.1, h1.2.2.1, h1.2.2.2.1⟩).elim⟩
theorem val3 (h : 0 ≤ spelledN s f 3) : spelledN s f 3 = 64 * (64 * (((bt s f).toNat : Int) - 224) + (bt s (f + 1)).toNat - 128) + (bt s (f + 2)).toNat - 128 := by
  rw [sp3] at h ⊢
  split at h
  · rename_i hc; rw [if_pos hc]; exact (okR_pos h).1
  · omega
theorem ge4 : 0 ≤ spelledN s f 4 ↔ 240 ≤ (bt s f).toNat ∧ (bt s f).toNat ≤ 244 ∧ isC (bt s (f + 1)).toNat ∧ isC (bt s (f + 2)).toNat ∧ isC (bt s (f + 3)).toNat ∧ ((bt s f).toNat = 240 → 144 ≤ (bt s (f + 1)).toNat) ∧ ((bt s f).toNat = 244 → (bt s (f + 1)).toNat ≤ 143) := by
  have hb := (bt s f).toNat_lt
  rw [sp4]
  split
  · rename_i h
    rw [okR_ge (by omega)]
    constructor
    · intro ⟨h1, h2⟩
      have h1' := rune_iff.1 h1
      have := sizeN_inv h2
      exact ⟨by omega, by omega, h.2.1, h.2.2.1, h.2.2.2, by omega, by omega⟩
    · intro ⟨h1, h2, h3, h4, h5, h6, h7⟩
      exact ⟨rune_iff.2 (by omega), sizeN4 (by omega)⟩
  · rename_i h
    exact ⟨fun h1 => by omega, fun h1 => (h ⟨h1.1, h1.2.2.1, h1.2.2.2.1, h1.2.2.2.2.1⟩).elim⟩
theorem val4 (h : 0 ≤ spelledN s f 4) : spelledN s f 4 = 64 * (64 * (64 * (((bt s f).toNat : Int) - 240) + (bt s (f + 1)).toNat - 128) + (bt s (f + 2)).toNat - 128) + (bt s (f + 3)).toNat - 128 := by
  rw [sp4] at h ⊢
  split at h
  · rename_i hc; rw [if_pos hc]; exact (okR_pos h).1
  · omega
end

/-- What the program decodes. -/
def decD (t : List UInt8) : Int × Nat :=
  if (bt t 0).toNat < 128 then ((bt t 0).toNat, 1)
  else if 240 ≤ Lib.firstT (bt t 0).toNat then (65533, 1)
  else slowP t (Lib.firstT (bt t 0).toNat % 8) (Lib.accLo (Lib.firstT (bt t 0).toNat / 16)) (Lib.accHi (Lib.firstT (bt t 0).toNat / 16))

theorem firstT_cls (b : Nat) (h : 128 ≤ b) : ((b < 194 ∨ 244 < b) ∧ Lib.firstT b = 241) ∨ (194 ≤ b ∧ b ≤ 223 ∧ Lib.firstT b = 2) ∨ (b = 224 ∧ Lib.firstT b = 19) ∨ (b = 237 ∧ Lib.firstT b = 35) ∨ (225 ≤ b ∧ b ≤ 239 ∧ b ≠ 237 ∧ Lib.firstT b = 3) ∨
    (b = 240 ∧ Lib.firstT b = 52) ∨ (b = 244 ∧ Lib.firstT b = 68) ∨ (241 ≤ b ∧ b ≤ 243 ∧ Lib.firstT b = 4) := by
  unfold Lib.firstT
  rw [if_neg (by omega)]
  split
  · omega
  split
  · omega
  split
  · omega
  split
  · omega
  split
  · omega
  split
  · omega
  split
  · omega
  split
  · omega
  split <;> omega

/-- The two agree on a piece. -/
def Agree (s : List UInt8) (f : Nat) : Prop :=
  (∃ n z, atN s f = (f + z, n, false) ∧ decD (s.drop f) = (n, z) ∧ ¬ (n = 65533 ∧ z = 1) ∧ (z = 1 ∨ 128 ≤ n) ∧ 1 ≤ z ∧ z ≤ 4) ∨ (atN s f = (f + 1, 65533, true) ∧ decD (s.drop f) = (65533, 1))

theorem agree {s : List UInt8} {f : Nat} (hf : f < s.length) : Agree s f := by
  have hb := (bt s f).toNat_lt
  have hb1 := (bt s (f + 1)).toNat_lt
  have hb2 := (bt s (f + 2)).toNat_lt
  have hb3 := (bt s (f + 3)).toNat_lt
  have t0 : bt (s.drop f) 0 = bt s f := by simp [bt]
  have t1 : bt (s.drop f) 1 = bt s (f + 1) := by simp [bt]
  have t2 : bt (s.drop f) 2 = bt s (f + 2) := by simp [bt]
  have t3 : bt (s.drop f) 3 = bt s (f + 3) := by simp [bt]
  have tl : (s.drop f).length = s.length - f := by simp
  have ha := atN_eq hf
  by_cases h0 : (bt s f).toNat < 128
  · refine .inl ⟨(bt s f).toNat, 1, ?_, ?_, by omega, by omega, by omega, by omega⟩
    · rw [ha, if_pos (ge1.2 h0), sp1, if_pos h0]
    · rw [decD, t0, if_pos h0]
  rw [if_neg (fun h => h0 (ge1.1 h))] at ha
  have hd : decD (s.drop f) = if 240 ≤ Lib.firstT (bt s f).toNat then (65533, 1) else slowP (s.drop f) (Lib.firstT (bt s f).toNat % 8) (Lib.accLo (Lib.firstT (bt s f).toNat / 16)) (Lib.accHi (Lib.firstT (bt s f).toNat / 16)) := by
    rw [decD, t0, if_neg h0]
  have slow : ∀ sz lo hi : Nat, slowP (s.drop f) sz lo hi =
      if s.length - f < sz then (65533, 1) else if (bt s (f + 1)).toNat < lo ∨ hi < (bt s (f + 1)).toNat then (65533, 1)
      else if sz ≤ 2 then (((((bt s f).toNat % 32 * 64 + (bt s (f + 1)).toNat % 64 : Nat)) : Int), 2)
      else if (bt s (f + 2)).toNat < 128 ∨ 191 < (bt s (f + 2)).toNat then (65533, 1)
      else if sz ≤ 3 then (((((bt s f).toNat % 16 * 4096 + (bt s (f + 1)).toNat % 64 * 64 + (bt s (f + 2)).toNat % 64 : Nat)) : Int), 3)
      else if (bt s (f + 3)).toNat < 128 ∨ 191 < (bt s (f + 3)).toNat then (65533, 1)
      else (((((bt s f).toNat % 8 * 262144 + (bt s (f + 1)).toNat % 64 * 4096 + (bt s (f + 2)).toNat % 64 * 64 + (bt s (f + 3)).toNat % 64 : Nat)) : Int), 4) := by
    intro sz lo hi
    rw [slowP, t0, t1, t2, t3, tl, dec2_eq (by omega) (by omega), dec3_eq (by omega) (by omega) (by omega), dec4_eq (by omega) (by omega) (by omega) (by omega)]
  -- a bad piece
  have bad : (f + 2 ≤ s.length → ¬ 0 ≤ spelledN s f 2) → (f + 3 ≤ s.length → ¬ 0 ≤ spelledN s f 3) → (f + 4 ≤ s.length → ¬ 0 ≤ spelledN s f 4) → decD (s.drop f) = (65533, 1) → Agree s f := by
    intro n2 n3 n4 e
    refine .inr ⟨?_, e⟩
    rw [ha]
    by_cases l2 : f + 2 ≤ s.length
    · rw [if_pos l2, if_neg (n2 l2)]
      by_cases l3 : f + 3 ≤ s.length
      · rw [if_pos l3, if_neg (n3 l3)]
        by_cases l4 : f + 4 ≤ s.length
        · rw [if_pos l4, if_neg (n4 l4)]
        · rw [if_neg l4]
      · rw [if_neg l3]
    · rw [if_neg l2]
  have slowBad : ∀ sz lo hi : Nat, (s.length - f < sz ∨ (bt s (f + 1)).toNat < lo ∨ hi < (bt s (f + 1)).toNat ∨ (3 ≤ sz ∧ ¬ isC (bt s (f + 2)).toNat) ∨ (4 ≤ sz ∧ ¬ isC (bt s (f + 3)).toNat)) → slowP (s.drop f) sz lo hi = (65533, 1) := by
    intro sz lo hi h
    rw [slow]
    split
    · rfl
    split
    · rfl
    split
    · omega
    split
    · rfl
    split
    · omega
    split
    · rfl
    · omega
  have x2 : ∀ x, Lib.firstT (bt s f).toNat = x → ¬ 240 ≤ x → decD (s.drop f) = slowP (s.drop f) (x % 8) (Lib.accLo (x / 16)) (Lib.accHi (x / 16)) := by
    intro x hx h; rw [hd, hx, if_neg h]
  have good2 : f + 2 ≤ s.length → 194 ≤ (bt s f).toNat → (bt s f).toNat ≤ 223 → isC (bt s (f + 1)).toNat → decD (s.drop f) = slowP (s.drop f) 2 128 191 → Agree s f := by
    intro l2 c1 c2 c3 e
    have g := ge2.2 ⟨c1, c2, c3⟩
    refine .inl ⟨_, 2, by rw [ha, if_pos l2, if_pos g], ?_, by omega, by rw [val2 g]; omega, by omega, by omega⟩
    rw [e, slow, if_neg (by omega), if_neg (by omega), if_pos (by omega), val2 g]
    congr 1; omega
  have good3 : ∀ lo hi, f + 3 ≤ s.length → 0 ≤ spelledN s f 3 → lo ≤ (bt s (f + 1)).toNat → (bt s (f + 1)).toNat ≤ hi → decD (s.drop f) = slowP (s.drop f) 3 lo hi → Agree s f := by
    intro lo hi l3 g c1 c2 e
    have gg := ge3.1 g
    have n2 : ¬ 0 ≤ spelledN s f 2 := fun h => by have := ge2.1 h; omega
    refine .inl ⟨_, 3, by rw [ha, if_pos (by omega), if_neg n2, if_pos l3, if_pos g], ?_, by omega, by rw [val3 g]; omega, by omega, by omega⟩
    rw [e, slow, if_neg (by omega), if_neg (by omega), if_neg (by omega), if_neg (by omega), if_pos (by omega), val3 g]
    congr 1; omega
  have good4 : ∀ lo hi, f + 4 ≤ s.length → 0 ≤ spelledN s f 4 → lo ≤ (bt s (f + 1)).toNat → (bt s (f + 1)).toNat ≤ hi → decD (s.drop f) = slowP (s.drop f) 4 lo hi → Agree s f := by
    intro lo hi l4 g c1 c2 e
    have gg := ge4.1 g
    have n2 : ¬ 0 ≤ spelledN s f 2 := fun h => by have := ge2.1 h; omega
    have n3 : ¬ 0 ≤ spelledN s f 3 := fun h => by have := ge3.1 h; omega
    refine .inl ⟨_, 4, by rw [ha, if_pos (by omega), if_neg n2, if_pos (by omega), if_neg n3, if_pos l4, if_pos g], ?_, by omega, by rw [val4 g]; omega, by omega, by omega⟩
    rw [e, slow, if_neg (by omega), if_neg (by omega), if_neg (by omega), if_neg (by omega), if_neg (by omega), if_neg (by omega), val4 g]
    congr 1; omega
  -- three bytes
  have three : ∀ lo hi : Nat, 224 ≤ (bt s f).toNat → (bt s f).toNat ≤ 239 → 128 ≤ lo → hi ≤ 191 → (∀ b : Nat, isC b → (((bt s f).toNat = 224 → 160 ≤ b) ∧ ((bt s f).toNat = 237 → b ≤ 159) ↔ lo ≤ b ∧ b ≤ hi)) → decD (s.drop f) = slowP (s.drop f) 3 lo hi → Agree s f := by
    intro lo hi c1 c2 l1 l2 hc e
    by_cases l3 : f + 3 ≤ s.length ∧ lo ≤ (bt s (f + 1)).toNat ∧ (bt s (f + 1)).toNat ≤ hi ∧ isC (bt s (f + 2)).toNat
    · have := (hc _ (show isC (bt s (f + 1)).toNat by omega)).2 ⟨l3.2.1, l3.2.2.1⟩
      exact good3 lo hi l3.1 (ge3.2 ⟨c1, c2, by omega, l3.2.2.2, this.1, this.2⟩) l3.2.1 l3.2.2.1 e
    · refine bad (fun _ h => by have := ge2.1 h; omega) (fun l h => ?_) (fun _ h => by have := ge4.1 h; omega) (by rw [e]; exact slowBad _ _ _ (by omega))
      obtain ⟨g1, g2, g3, g4, g5, g6⟩ := ge3.1 h
      have := (hc _ g3).1 ⟨g5, g6⟩
      exact l3 ⟨l, this.1, this.2, g4⟩
  have four : ∀ lo hi : Nat, 240 ≤ (bt s f).toNat → (bt s f).toNat ≤ 244 → 128 ≤ lo → hi ≤ 191 → (∀ b : Nat, isC b → (((bt s f).toNat = 240 → 144 ≤ b) ∧ ((bt s f).toNat = 244 → b ≤ 143) ↔ lo ≤ b ∧ b ≤ hi)) → decD (s.drop f) = slowP (s.drop f) 4 lo hi → Agree s f := by
    intro lo hi c1 c2 l1 l2 hc e
    by_cases l3 : f + 4 ≤ s.length ∧ lo ≤ (bt s (f + 1)).toNat ∧ (bt s (f + 1)).toNat ≤ hi ∧ isC (bt s (f + 2)).toNat ∧ isC (bt s (f + 3)).toNat
    · have := (hc _ (show isC (bt s (f + 1)).toNat by omega)).2 ⟨l3.2.1, l3.2.2.1⟩
      exact good4 lo hi l3.1 (ge4.2 ⟨c1, c2, by omega, l3.2.2.2.1, l3.2.2.2.2, this.1, this.2⟩) l3.2.1 l3.2.2.1 e
    · refine bad (fun _ h => by have := ge2.1 h; omega) (fun _ h => by have := ge3.1 h; omega) (fun l h => ?_) (by rw [e]; exact slowBad _ _ _ (by omega))
      obtain ⟨g1, g2, g3, g4, g5, g6, g7⟩ := ge4.1 h
      have := (hc _ g3).1 ⟨g6, g7⟩
      exact l3 ⟨l, this.1, this.2, g4, g5⟩
  rcases firstT_cls (bt s f).toNat (by omega) with ⟨c, e⟩ | ⟨c1, c2, e⟩ | ⟨c, e⟩ | ⟨c, e⟩ | ⟨c1, c2, c3, e⟩ | ⟨c, e⟩ | ⟨c, e⟩ | ⟨c1, c2, e⟩
  · exact bad (fun _ h => by have := ge2.1 h; omega) (fun _ h => by have := ge3.1 h; omega) (fun _ h => by have := ge4.1 h; omega) (by rw [hd, e]; rfl)
  · have e2 := x2 2 e (by decide)
    by_cases l2 : f + 2 ≤ s.length ∧ isC (bt s (f + 1)).toNat
    · exact good2 l2.1 c1 c2 l2.2 e2
    · refine bad (fun l h => l2 ⟨l, (ge2.1 h).2.2⟩) (fun _ h => by have := ge3.1 h; omega) (fun _ h => by have := ge4.1 h; omega) (by rw [e2]; exact slowBad _ 128 191 (by omega))
  · exact three 160 191 (by omega) (by omega) (by omega) (by omega) (fun b hb => by omega) (x2 19 e (by decide))
  · exact three 128 159 (by omega) (by omega) (by omega) (by omega) (fun b hb => by omega) (x2 35 e (by decide))
  · exact three 128 191 (by omega) (by omega) (by omega) (by omega) (fun b hb => by omega) (x2 3 e (by decide))
  · exact four 144 191 (by omega) (by omega) (by omega) (by omega) (fun b hb => by omega) (x2 52 e (by decide))
  · exact four 128 143 (by omega) (by omega) (by omega) (by omega) (fun b hb => by omega) (x2 68 e (by decide))
  · exact four 128 191 (by omega) (by omega) (by omega) (by omega) (fun b hb => by omega) (x2 4 e (by decide))
end AI.Tok
end

section
namespace AI.Tok
open Go AI
set_option maxRecDepth 100000
set_option maxHeartbeats 4000000
set_option linter.unusedSimpArgs false
set_option linter.unusedVariables false

def bsOf (zs : List Int) : Option (List Int) := if zs = [] then none else some (zs.flatMap encZ)
theorem bsOf_text (zs : List Int) : bsText (bsOf zs) = textZ zs := by
  unfold bsOf
  split
  · rename_i h; subst h; rfl
  · rfl
theorem bsOf_add {zs : List Int} {r : Int} (h : isRuneN r = true) : bsAdd (bsOf zs) (encP r) = bsOf (zs ++ [r]) := by
  rw [encP_eq h]
  unfold bsOf bsAdd
  rw [if_neg (show ¬ zs ++ [r] = [] by simp)]
  split
  · rename_i h; subst h; simp
  · simp
/-- Where a literal's loop leaves. -/
def out38 (s : List UInt8) (r : List UInt8 × Nat × Int) (x : Option (AI.Exit × St)) : Prop :=
  x = some (.ret, ⟨sV s :: bads 3 ++ sV r.1 :: iV r.2.1 :: iV r.2.2 :: bads 78, [], []⟩) ∨ (r = ([], s.length, 21) ∧ x = some (.exit 1, ⟨sV s :: bads 84, [], []⟩))

section
variable {M : Prims} (pm : PM M) {S : SFn} {Lp : (St → St) → (St → Option (AI.Exit × St)) → St → Option (AI.Exit × St)} {N : Nat} {s : List UInt8}
include pm
variable (h45 : ∀ f : Nat, f < s.length → S (.fn 45) [.pv (.str (s.drop f))] [] = some (.ret (.tup [.pv (.int .i32 (decD (s.drop f)).1), .pv (.int .i64 (decD (s.drop f)).2)]), []))
  (h47 : ∀ f : Nat, f < s.length → S (.fn 47) [.pv (.str s), .pv (.int .i64 f)] [] = some (.ret (.tup [.pv (.int .i32 (escN s f).1), .pv (.int .i64 (escN s f).2.1), .pv (.int .i64 (escN s f).2.2)]), []))
  (h46 : ∀ zs : List Int, zs.length ≤ 1048576 → S (.fn 46) [.ptr 0 0] (bldH (bsOf zs)) = some (.ret (.pv (.str (bsText (bsOf zs)))), bldD (bsOf zs)))
  (h48 : ∀ (zs : List Int) (r : Int), zs.length ≤ 1048576 → ∃ x, S (.fn 48) [.ptr 0 0, .pv (.int .i32 r)] (bldH (bsOf zs)) = some (.ret (.tup [.pv (.int .i64 x), .pv .nili]), bldH1 (bsOf zs) (encP r)))
include h45 h47 h46 h48
theorem w38_loop (hs : s.length ≤ 1048576) : ∀ (k N f : Nat) (zs : List Int), s.length - f < k → k ≤ N → zs.length ≤ f → f ≤ s.length + 12 →
    out38 s (unqR s k f zs) (outOf (head 0 ⟨[0, 4, 5, 6], [], [], []⟩) (loopAt M N (head 0 rf38_a0) (exec M S Lp 0 rf38_b0) ⟨sV s :: iV f :: bads 5 ++ .ptr 0 0 :: bads 77, bldH (bsOf zs), []⟩))
  | 0, _, f, zs, h, _, _, _ => by omega
  | k + 1, 0, _, _, _, h, _, _ => by omega
  | k + 1, N + 1, f, zs, h, hN, hl, hf12 => by
    simp only [unqR]
    by_cases hf : f < s.length
    · rw [if_pos hf]
      have e45 := h45 f hf
      rcases agree hf with ⟨n, z, ha, hd, hst, hz1, hz2, hz3⟩ | ⟨ha, hd⟩
      · rw [hd] at e45
        simp only at e45
        obtain ⟨g1, g2, g3⟩ := atFrom_ok (s := s) (f := f) 5 1 (by omega)
        have g3' : isRuneN n = true := by have : (atFrom s f 5 1) = atN s f := rfl; rw [this, ha] at g3; exact g3
        rw [ha]
        simp only
        by_cases h1 : n = 34
        · rw [if_pos h1]
          have hz : z = 1 := by omega
          subst hz
          rw [← bsOf_text]
          exact .inl (loop_out (w38_quote pm hf hs e45 h1 (h46 zs (by omega))) (by simp) (fun _ _ => head_oks _ _))
        · rw [if_neg h1]
          by_cases h2 : n < 32
          · rw [if_pos h2]
            exact .inl (loop_out (w38_ctrl pm hf hs e45 h1 h2) (by simp) (fun _ _ => head_oks _ _))
          · rw [if_neg h2, if_neg (by simp)]
            by_cases h4 : n = 92
            · rw [if_neg (by simp [h4])]
              by_cases h5 : (escN s f).2.2 = 0
              · rw [if_neg (by simp [h5])]
                obtain ⟨e1, e2, e3⟩ := escN_ok h5
                obtain ⟨x, hx⟩ := h48 zs (escN s f).1 (by omega)
                have st := w38_esc (Lp := Lp) (bs := bsOf zs) pm hf hs e45 h4 (h47 f hf) h5 (by omega) e3 hx
                rw [bsOf_add e1] at st
                have ih := w38_loop hs k N (escN s f).2.1 (zs ++ [(escN s f).1]) (by omega) (by omega) (by simp; omega) (by omega)
                rcases ih with ih | ⟨ih1, ih⟩
                · exact .inl (loop_next st ih)
                · exact .inr ⟨ih1, loop_next st ih⟩
              · rw [if_pos h5]
                exact .inl (loop_out (w38_escBad pm hf hs e45 h4 (h47 f hf) h5) (by simp) (fun _ _ => head_oks _ _))
            · rw [if_pos h4]
              obtain ⟨x, hx⟩ := h48 zs n (by omega)
              have st := w38_plain (Lp := Lp) (bs := bsOf zs) pm hf hs e45 h1 h2 hst h4 (by omega) hx
              rw [bsOf_add g3'] at st
              have ih := w38_loop hs k N (f + z) (zs ++ [n]) (by omega) (by omega) (by simp; omega) (by omega)
              rcases ih with ih | ⟨ih1, ih⟩
              · exact .inl (loop_next st ih)
              · exact .inr ⟨ih1, loop_next st ih⟩
      · rw [hd] at e45
        simp only at e45
        rw [ha]
        simp only
        rw [if_neg (by decide), if_neg (by decide), if_pos trivial]
        exact .inl (loop_out (w38_stray pm hf hs e45 rfl rfl) (by simp) (fun _ _ => head_oks _ _))
    · rw [if_neg hf]
      exact .inr ⟨rfl, loop_out (w38_end pm hf) (by simp) (fun _ _ => head_oks _ _)⟩
theorem w38 {f : Nat} (hs : s.length ≤ 1048576) (hf : f < s.length) (hN : s.length + 10 < N) :
    runFn M S (loopAt M N) rf38 [sV s, iV f] [] = some (.ret (.tup [.pv (.str (unquoteN s f).1), .pv (.int .i64 (unquoteN s f).2.1), .pv (.int .i64 (unquoteN s f).2.2)]), []) := by
  have hge : ¬ (s.length ≤ f) := by omega
  have hw1 : IntKind.i64.wrap ((f : Int) + 1) = f + 1 := wrap64 (by omega) (by omega)
  by_cases h34' : (bt s f).toNat = 34
  · have hlp := w38_loop (Lp := loopAt M N) pm h45 h47 h46 h48 hs (s.length + 1) N (f + 1) [] (by omega) (by omega) (by simp) (by omega)
    have hu : unquoteN s f = unqR s (s.length + 1) (f + 1) [] := by simp [unquoteN, h34']
    rw [← hu] at hlp
    simp only [bsOf, if_true, bldH, sV, iV, bads, List.replicate, List.cons_append, List.nil_append, Int.natCast_add, Int.natCast_one] at hlp
    rcases hlp with hlp | ⟨h0, hlp⟩
    · simp only [sV, iV, bads, List.replicate, List.cons_append, List.nil_append] at hlp
      simp [rf38, hf, hge, h34', hw1, hlp, exec, runOps, stepG, opRun, sv, strip, evalO, sV, iV, bV, bads, put, ROp.dst, ROp.quiet, guardOf, impAll, pvOf, pvOf?, callRun, callFn, prep, argOf, handOver, behind, takeBack, List.replicate, reachable, reach, addNew, idsOfs, idsOf, Blk.ids, rens, ren, renBlks, renBlk, layOld, layNew, posIn, AM.lent, tell, head, openAll, forget, tidy, List.range, List.range.loop, backR, backV, backId, backVer, toZero, verOf, cellsOf, widOk, mkAgg, splice, resOne, resAll, resVal, runFn, freeze, freezeAll, depth, allPV, isRow, lit?, eqNil, nilOp, flatL, flatLs, headVer, rowsOf, isRow, freezeRow, LV.sc, rowParts, buildParts, okAll, touch, meets, apart, apartAll, runDraw, argIds, rowIds, List.range', rowsWide, byteOf?, byteRow, pm.chk, pm.isB, pm.truth, pm.gd, pm.imp, pm.and, pm.pickT, pm.pickF, pm.not, pm.notOk, pm.len, pm.lenL, pm.lenOk, pm.lenOkL, pm.sidx, pm.sidxOk, pm.add, pm.sub, pm.mul, pm.quo, pm.rem, pm.eql, pm.neq, pm.lss, pm.leq, pm.gtr, pm.geq, pm.addOk, pm.subOk, pm.mulOk, pm.quoOk, pm.remOk, pm.eqlOk, pm.neqOk, pm.lssOk, pm.leqOk, pm.gtrOk, pm.geqOk, pm.seql, pm.sneq, pm.seqlOk, pm.sneqOk, pm.beql, pm.bneq, pm.beqlOk, pm.bneqOk, pm.conv, pm.convOk, pm.cut, pm.cutA, pm.cutOk, pm.cutAOk, pm.rowsOk, pm.rlen, pm.cell, pm.wid, pm.widGe, pm.repl, pm.replOk, pm.nat, pm.natOk, pm.rget, pm.rput, pm.sub2, pm.lidx, pm.lidxOk, pm.lim, pm.rapp, pm.rowsL, pm.rowsS, pm.rowsOkL, pm.str, pm.strOk, pm.flatI, pm.flatB, pm.flatS, pm.join, pm.joinOk, pm.pidx, pm.pidxOk, pm.shl, pm.shr, pm.shlOk, pm.shrOk, pm.orI, pm.andI, pm.orOk, pm.andOk, pm.andNI, pm.andNOk]
    · simp only [sV, iV, bads, List.replicate, List.cons_append, List.nil_append] at hlp
      simp [rf38, hf, hge, h34', hw1, hlp, h0, exec, runOps, stepG, opRun, sv, strip, evalO, sV, iV, bV, bads, put, ROp.dst, ROp.quiet, guardOf, impAll, pvOf, pvOf?, callRun, callFn, prep, argOf, handOver, behind, takeBack, List.replicate, reachable, reach, addNew, idsOfs, idsOf, Blk.ids, rens, ren, renBlks, renBlk, layOld, layNew, posIn, AM.lent, tell, head, openAll, forget, tidy, List.range, List.range.loop, backR, backV, backId, backVer, toZero, verOf, cellsOf, widOk, mkAgg, splice, resOne, resAll, resVal, runFn, freeze, freezeAll, depth, allPV, isRow, lit?, eqNil, nilOp, flatL, flatLs, headVer, rowsOf, isRow, freezeRow, LV.sc, rowParts, buildParts, okAll, touch, meets, apart, apartAll, runDraw, argIds, rowIds, List.range', rowsWide, byteOf?, byteRow, pm.chk, pm.isB, pm.truth, pm.gd, pm.imp, pm.and, pm.pickT, pm.pickF, pm.not, pm.notOk, pm.len, pm.lenL, pm.lenOk, pm.lenOkL, pm.sidx, pm.sidxOk, pm.add, pm.sub, pm.mul, pm.quo, pm.rem, pm.eql, pm.neq, pm.lss, pm.leq, pm.gtr, pm.geq, pm.addOk, pm.subOk, pm.mulOk, pm.quoOk, pm.remOk, pm.eqlOk, pm.neqOk, pm.lssOk, pm.leqOk, pm.gtrOk, pm.geqOk, pm.seql, pm.sneq, pm.seqlOk, pm.sneqOk, pm.beql, pm.bneq, pm.beqlOk, pm.bneqOk, pm.conv, pm.convOk, pm.cut, pm.cutA, pm.cutOk, pm.cutAOk, pm.rowsOk, pm.rlen, pm.cell, pm.wid, pm.widGe, pm.repl, pm.replOk, pm.nat, pm.natOk, pm.rget, pm.rput, pm.sub2, pm.lidx, pm.lidxOk, pm.lim, pm.rapp, pm.rowsL, pm.rowsS, pm.rowsOkL, pm.str, pm.strOk, pm.flatI, pm.flatB, pm.flatS, pm.join, pm.joinOk, pm.pidx, pm.pidxOk, pm.shl, pm.shr, pm.shlOk, pm.shrOk, pm.orI, pm.andI, pm.orOk, pm.andOk, pm.andNI, pm.andNOk]
  · simp [rf38, hf, hge, h34', unquoteN, exec, runOps, stepG, opRun, sv, strip, evalO, sV, iV, bV, bads, put, ROp.dst, ROp.quiet, guardOf, impAll, pvOf, pvOf?, callRun, callFn, prep, argOf, handOver, behind, takeBack, List.replicate, reachable, reach, addNew, idsOfs, idsOf, Blk.ids, rens, ren, renBlks, renBlk, layOld, layNew, posIn, AM.lent, tell, head, openAll, forget, tidy, List.range, List.range.loop, backR, backV, backId, backVer, toZero, verOf, cellsOf, widOk, mkAgg, splice, resOne, resAll, resVal, runFn, freeze, freezeAll, depth, allPV, isRow, lit?, eqNil, nilOp, flatL, flatLs, headVer, rowsOf, isRow, freezeRow, LV.sc, rowParts, buildParts, okAll, touch, meets, apart, apartAll, runDraw, argIds, rowIds, List.range', rowsWide, byteOf?, byteRow, pm.chk, pm.isB, pm.truth, pm.gd, pm.imp, pm.and, pm.pickT, pm.pickF, pm.not, pm.notOk, pm.len, pm.lenL, pm.lenOk, pm.lenOkL, pm.sidx, pm.sidxOk, pm.add, pm.sub, pm.mul, pm.quo, pm.rem, pm.eql, pm.neq, pm.lss, pm.leq, pm.gtr, pm.geq, pm.addOk, pm.subOk, pm.mulOk, pm.quoOk, pm.remOk, pm.eqlOk, pm.neqOk, pm.lssOk, pm.leqOk, pm.gtrOk, pm.geqOk, pm.seql, pm.sneq, pm.seqlOk, pm.sneqOk, pm.beql, pm.bneq, pm.beqlOk, pm.bneqOk, pm.conv, pm.convOk, pm.cut, pm.cutA, pm.cutOk, pm.cutAOk, pm.rowsOk, pm.rlen, pm.cell, pm.wid, pm.widGe, pm.repl, pm.replOk, pm.nat, pm.natOk, pm.rget, pm.rput, pm.sub2, pm.lidx, pm.lidxOk, pm.lim, pm.rapp, pm.rowsL, pm.rowsS, pm.rowsOkL, pm.str, pm.strOk, pm.flatI, pm.flatB, pm.flatS, pm.join, pm.joinOk, pm.pidx, pm.pidxOk, pm.shl, pm.shr, pm.shlOk, pm.shrOk, pm.orI, pm.andI, pm.orOk, pm.andOk, pm.andNI, pm.andNOk]
end
end AI.Tok
end

section
namespace AI.Tok
open Go AI
set_option maxRecDepth 100000
set_option linter.unusedSectionVars false

theorem R_at {k f : Nat} {rf : RFn} (hk : 0 < k) (h0 : ov f = none) (ht : tab f = some rf) (args : List LV) (h : List Blk) : R k (.fn f) args h = runFn M0 (R (k - 1)) (loopAt M0 (k - 1)) rf args h := by
  obtain ⟨j, rfl⟩ : ∃ j, k = j + 1 := ⟨k - 1, by omega⟩
  exact R_fn h0 ht args h
theorem R_ovAt {k f : Nat} {F : Over} (hk : 0 < k) (h0 : ov f = some F) (args : List LV) (h : List Blk) : R k (.fn f) args h = F (R (k - 1)) args h := by
  obtain ⟨j, rfl⟩ : ∃ j, k = j + 1 := ⟨k - 1, by omega⟩
  exact R_ov h0 args h
theorem R_yld {k id : Nat} (hk : 0 < k) (args : List LV) (h : List Blk) : R k (.yld id) args h = runYld M0 (R (k - 1)) (loopAt M0 (k - 1)) id args h := by
  obtain ⟨j, rfl⟩ : ∃ j, k = j + 1 := ⟨k - 1, by omega⟩
  rfl
abbrev pm : PM M0 := pm0 globT

/-- A level from which on a text's loops end. -/
def Lv (d k : Nat) : Prop := 1100000 + 100 * d ≤ k
theorem Lv.pos {d k : Nat} (h : Lv d k) : 0 < k := by unfold Lv at h; omega
theorem Lv.pred {d k : Nat} (h : Lv (d + 1) k) : Lv d (k - 1) := by unfold Lv at *; omega
theorem Lv.down {d e k : Nat} (h : Lv e k) (hd : d ≤ e) : Lv d k := by unfold Lv at *; omega
theorem Lv.n {d k : Nat} (h : Lv d k) : 1099990 < k - 1 := by unfold Lv at h; omega

theorem q19 {k : Nat} (h : Lv 0 k) (c : UInt8) : R k (.fn 19) [bV c] [] = some (.ret (.pv (.bool (letterB c))), []) := by
  obtain ⟨j, rfl⟩ : ∃ j, k = j + 1 := ⟨k - 1, by have := h.pos; omega⟩; exact f19 c
theorem q31 {k : Nat} (h : Lv 0 k) (c : UInt8) : R k (.fn 31) [bV c] [] = some (.ret (.pv (.bool (letterB c))), []) := by
  obtain ⟨j, rfl⟩ : ∃ j, k = j + 1 := ⟨k - 1, by have := h.pos; omega⟩; exact f31 c
theorem q22 {k : Nat} (h : Lv 0 k) (c : UInt8) : R k (.fn 22) [bV c] [] = some (.ret (.pv (.bool (digitB c))), []) := by
  obtain ⟨j, rfl⟩ : ∃ j, k = j + 1 := ⟨k - 1, by have := h.pos; omega⟩; exact f22 c
theorem q32 {k : Nat} (h : Lv 0 k) (c : UInt8) : R k (.fn 32) [bV c] [] = some (.ret (.pv (.bool (digitB c))), []) := by
  obtain ⟨j, rfl⟩ : ∃ j, k = j + 1 := ⟨k - 1, by have := h.pos; omega⟩; exact f32 c
theorem q8 {k : Nat} (h : Lv 0 k) (c : UInt8) : R k (.fn 8) [bV c] [] = some (.ret (.pv (.bool (blankB c))), []) := by
  obtain ⟨j, rfl⟩ : ∃ j, k = j + 1 := ⟨k - 1, by have := h.pos; omega⟩; exact f8 c
theorem q17 {k : Nat} (h : Lv 0 k) (c : UInt8) : R k (.fn 17) [bV c] [] = some (.ret (.pv (.int .i64 (markN c))), []) := by
  obtain ⟨j, rfl⟩ : ∃ j, k = j + 1 := ⟨k - 1, by have := h.pos; omega⟩; exact f17 c
theorem q12 {k : Nat} (h : Lv 0 k) (c : UInt8) : R k (.fn 12) [bV c] [] = some (.ret (.pv (.int .i64 (pickN c))), []) := by
  obtain ⟨j, rfl⟩ : ∃ j, k = j + 20 := ⟨k - 20, by unfold Lv at h; omega⟩; exact f12 c
theorem q30m {k : Nat} (h : Lv 0 k) (c : UInt8) : R k (.fn 30) [.pv (.str [123, 125, 91, 93, 58, 44]), bV c] [] = some (.ret (.pv (.int .i64 (markN c - 1))), []) := by
  obtain ⟨j, rfl⟩ : ∃ j, k = j + 20 := ⟨k - 20, by unfold Lv at h; omega⟩; exact f30m c
theorem q52 {k : Nat} (h : Lv 0 k) (c : UInt8) : R k (.fn 52) [bV c] [] = some (.ret (.pv (.int .i64 (hexN c))), []) := by
  obtain ⟨j, rfl⟩ : ∃ j, k = j + 20 := ⟨k - 20, by unfold Lv at h; omega⟩; exact f52 c
theorem q61 {k : Nat} (h : Lv 0 k) (c : UInt8) : R k (.fn 61) [bV c] [] = some (.ret (.pv (.int .i32 (hexN c))), []) := by
  obtain ⟨j, rfl⟩ : ∃ j, k = j + 20 := ⟨k - 20, by unfold Lv at h; omega⟩; exact f61 c
theorem q56 {k : Nat} (h : Lv 0 k) (c : UInt8) : R k (.fn 56) [bV c] [] = some (.ret (.pv (.int .i32 (shortP c))), []) := by
  obtain ⟨j, rfl⟩ : ∃ j, k = j + 20 := ⟨k - 20, by unfold Lv at h; omega⟩; exact f56 c
theorem q7 {k : Nat} (h : Lv 0 k) : R k (.fn 7) [] [] = some (.ret (.pv (.bool true)), []) := by
  obtain ⟨j, rfl⟩ : ∃ j, k = j + 400 := ⟨k - 400, by unfold Lv at h; omega⟩; exact f7

section
variable {s : List UInt8} (hs : s.length ≤ 1048576)
include hs
theorem q20 {k a : Nat} (h : Lv 1 k) : R k (.fn 20) [sV s, iV a] [] = some (.ret (iV (runEnd wordB s a)), []) := by
  rw [R_at h.pos rfl rfl]
  exact w20 pm (fun c => q19 h.pred c) (fun c => q22 h.pred c) hs (by have := h.n; omega)
omit hs in
theorem q21 {k : Nat} (h : Lv 1 k) (s : List UInt8) : R k (.fn 21) [sV s] [] = some (.ret (iV (wordN s)), []) := by
  rw [R_at h.pos rfl rfl]; exact w21 pm
theorem q23 {k a : Nat} (h : Lv 1 k) : R k (.fn 23) [sV s, iV a] [] = some (.ret (iV (runEnd numB s a)), []) := by
  rw [R_at h.pos rfl rfl]
  exact w23 pm (fun c => q19 h.pred c) (fun c => q22 h.pred c) hs (by have := h.n; omega)
theorem q24 {k : Nat} (h : Lv 1 k) : R k (.fn 24) [sV s] [] = some (.ret (.pv (.bool (formed s))), []) := by
  rw [R_at h.pos rfl rfl]; exact w24 pm hs (by have := h.n; omega)
omit hs in
theorem q50 {k : Nat} (h : Lv 1 k) (n : Int) : R k (.fn 50) [iV n] [] = some (.ret (.pv (.bool (isRuneN n))), []) := by
  rw [R_at h.pos rfl rfl]; exact w50 pm n
omit hs in
theorem q51 {k : Nat} (h : Lv 1 k) (n : Int) : R k (.fn 51) [iV n] [] = some (.ret (iV (sizeN n)), []) := by
  rw [R_at h.pos rfl rfl]; exact w51 pm n
omit hs in
theorem q42 {k : Nat} (h : Lv 2 k) {n : Int} (hn : isRuneN n = true) : R k (.fn 42) [iV n] [] = some (.ret (.pv (.list ((encZ n).map rowB))), []) := by
  rw [R_at h.pos rfl rfl]
  exact w42 pm (fun n => q50 h.pred n) (fun n => q51 h.pred n) hn (by have := h.n; omega)
theorem q41 {k f : Nat} (h : Lv 1 k) {zs : List Int} (hz : zs.length ≤ 8) (hf : f ≤ s.length) : R k (.fn 41) [sV s, iV f, .pv (.list (zs.map rowB))] [] = some (.ret (.pv (.bool (sameN s f zs))), []) := by
  rw [R_at h.pos rfl rfl]; exact w41 pm hs hz hf (by have := h.n; omega)
theorem q40 {k f z : Nat} (h : Lv 2 k) (hz : z = 1 ∨ z = 2 ∨ z = 3 ∨ z = 4) (hf : f + z ≤ s.length) : R k (.fn 40) [sV s, iV f, iV z] [] = some (.ret (iV (spelledN s f z)), []) := by
  rw [R_at h.pos rfl rfl]
  exact w40 pm (fun n => q50 h.pred n) (fun n => q51 h.pred n) hz hs hf (by have := h.n; omega)
theorem q33 {k f : Nat} (h : Lv 3 k) (hf : f ≤ s.length) : R k (.fn 33) [sV s, iV f] [] = some (.ret (pieceV f (atN s f)), []) := by
  rw [R_at h.pos rfl rfl]
  exact w33 pm (fun z h1 h4 hz => q40 hs h.pred (by omega) hz) (fun n hn => q42 h.pred hn) (fun n => q41 hs (h.pred.down (by omega)) (by have := encZ_len n; omega) hf) hs hf (by have := h.n; omega)
omit hs in
theorem q53 {k : Nat} (h : Lv 1 k) (n : Int) : R k (.fn 53) [iV n] [] = some (.ret (.pv (.int .u8 (signN n))), []) := by
  rw [R_at h.pos rfl rfl]; exact w53 pm n
omit hs in
theorem q44 {k : Nat} (h : Lv 2 k) (c : UInt8) : R k (.fn 44) [bV c] [] = some (.ret (iV (shortN c)), []) := by
  rw [R_at h.pos rfl rfl]; exact w44 pm (fun n => q53 h.pred n) (by have := h.n; omega)
theorem q43 {k f : Nat} (h : Lv 2 k) (hf : f ≤ 2 * s.length + 100) : R k (.fn 43) [sV s, iV f] [] = some (.ret (iV (numberedN s f)), []) := by
  rw [R_at h.pos rfl rfl]; exact w43 pm (fun c => q52 (h.pred.down (by omega)) c) hs hf (by have := h.n; omega)
theorem q35 {k f : Nat} (h : Lv 3 k) (hf : f < s.length) : R k (.fn 35) [sV s, iV f] [] = some (.ret (.tup [.pv (.int .i64 (escN s f).1), .pv (.int .i64 (escN s f).2.1), .pv (.int .i64 (escN s f).2.2)]), []) := by
  rw [R_at h.pos rfl rfl]
  exact w35 pm (fun p hp => q43 hs h.pred (by omega)) (fun c => q44 h.pred c) hs hf
omit hs in
theorem q34 {k : Nat} (h : Lv 3 k) {zs : List Int} (hr : ∀ z ∈ zs, isRuneN z = true) (hl : zs.length ≤ 1048576) : R k (.fn 34) [.ref 0 0] [.arr 1 0 (false, 0) (zs.map rowI)] = some (.ret (.pv (.str (textZ zs))), [.arr 1 0 (false, 0) (zs.map rowI)]) := by
  rw [R_at h.pos rfl rfl]
  exact w34 pm (fun n hn => q42 h.pred hn) hr hl (by have := h.n; omega) (strOk_enc zs)
theorem q18 {k f : Nat} (h : Lv 4 k) (hf : f < s.length) : R k (.fn 18) [sV s, iV f] [] = some (.ret (.tup [.pv (.str (unquoteN s f).1), .pv (.int .i64 (unquoteN s f).2.1), .pv (.int .i64 (unquoteN s f).2.2)]), []) := by
  rw [R_at h.pos rfl rfl]
  exact w18 pm (fun f hf => q33 hs h.pred (by omega)) (fun f hf => q35 hs h.pred hf) (fun zs hr hl => q34 h.pred hr hl) hs hf (by have := h.n; omega)
theorem q9 {k f : Nat} (h : Lv 5 k) (hf : f < s.length) : R k (.fn 9) [sV s, iV f] [] = some (.ret (.tup [.prow (nextN s f).1, .pv (.int .i64 (nextN s f).2.1), .pv (.int .i64 (nextN s f).2.2)]), []) := by
  rw [R_at h.pos rfl rfl]
  exact w9 pm (fun c => q17 (h.pred.down (by omega)) c) (q18 hs h.pred hf) (fun c => q19 (h.pred.down (by omega)) c) (fun c => q22 (h.pred.down (by omega)) c) (q20 hs (h.pred.down (by omega)))
    (fun u => q21 (h.pred.down (by omega)) u) (q23 hs (h.pred.down (by omega))) (fun u hu => q24 hu (h.pred.down (by omega))) hs hf
theorem q4 {k : Nat} (h : Lv 6 k) : R k (.fn 4) [sV s] [] = some (.ret (.tup [(toksV (seqN s (s.length + 1) 0).1).1, iV (seqN s (s.length + 1) 0).2.1, iV (seqN s (s.length + 1) 0).2.2]), (toksV (seqN s (s.length + 1) 0).1).2) := by
  rw [R_at h.pos rfl rfl]
  exact w4 pm (fun c => q8 (h.pred.down (by omega)) c) hs (by have := h.n; omega) (fun f hf => q9 hs h.pred hf)

/-! ### The program's -/
omit hs in
theorem q49 {k : Nat} (h : Lv 0 k) (s : List UInt8) (c : UInt8) : R k (.fn 49) [sV s, bV c] [] = some (.ret (.pv (.int .i64 (Lib.indexByte s c))), []) := by
  rw [R_ovAt h.pos rfl]
  show some (Out.ret (.pv (.int .i64 (Lib.indexByte s ((c.toNat : Int).toNat.toUInt8)))), ([] : List Blk)) = _
  rw [Int.toNat_natCast, show c.toNat.toUInt8 = c from UInt8.ofNat_toNat]
omit hs in
theorem q39 {k : Nat} (h : Lv 1 k) (s : List UInt8) (c : UInt8) : R k (.fn 39) [sV s, bV c] [] = some (.ret (.pv (.int .i64 (Lib.indexByte s c))), []) := by
  rw [R_at h.pos rfl rfl]; exact w39 pm (q49 h.pred s c)
omit hs in
theorem q30 {k : Nat} (h : Lv 2 k) (s : List UInt8) (c : UInt8) : R k (.fn 30) [sV s, bV c] [] = some (.ret (.pv (.int .i64 (Lib.indexByte s c))), []) := by
  rw [R_at h.pos rfl rfl]; exact w30 pm (q39 h.pred s c)
theorem q36 {k a : Nat} {pl : PV} (h : Lv 3 k) (fu : List UInt8) {q : UInt8 → Bool} (hq : ∀ c, (0 ≤ Lib.indexByte fu c) = (q c = true)) :
    R k (.fn 36) [.fp [.str s, .int .i64 a, pl] 0, sV fu] [] = some (.ret (iV (runEnd (fun c => letterB c || digitB c || q c) s a)), []) := by
  rw [R_at h.pos rfl rfl]
  exact w36 pm (fun c => q31 (h.pred.down (by omega)) c) (fun c => q32 (h.pred.down (by omega)) c) (fun c => q30 h.pred fu c) hq hs (by have := h.n; omega)
theorem q37 {k : Nat} (h : Lv 1 k) : R k (.fn 37) [sV s] [] = some (.ret (.pv (.bool (formedP s))), []) := by
  rw [R_at h.pos rfl rfl]; exact w37 pm hs (by have := h.n; omega)

theorem q57 {k : Nat} (h : Lv 1 k) (n : Int) : R k (.fn 57) [.pv (.int .i32 n)] [] = some (.ret (.pv (.bool (isLowN n))), []) := by
  rw [R_at h.pos rfl rfl]; exact w57 pm n
theorem q58 {k : Nat} (h : Lv 1 k) (n : Int) : R k (.fn 58) [.pv (.int .i32 n)] [] = some (.ret (.pv (.bool (isHighN n))), []) := by
  rw [R_at h.pos rfl rfl]; exact w58 pm n
theorem q55 {k : Nat} (h : Lv 1 k) : R k (.fn 55) [sV s] [] = some (.ret (.pv (.int .i32 (numberedP s))), []) := by
  rw [R_at h.pos rfl rfl]; exact w55 pm (fun c => q61 h.pred c) hs (by have := h.n; omega)
theorem q47 {k f : Nat} (h : Lv 2 k) (hf : f < s.length) : R k (.fn 47) [sV s, iV f] [] = some (.ret (.tup [.pv (.int .i32 (escN s f).1), .pv (.int .i64 (escN s f).2.1), .pv (.int .i64 (escN s f).2.2)]), []) := by
  rw [R_at h.pos rfl rfl, ← esc_eq hf]
  exact w47 pm rfl (fun u hu => q55 (by omega) h.pred) (fun c => q56 (h.pred.down (by omega)) c) (fun n => q57 hs h.pred n) (fun n => q58 hs h.pred n) hs hf
end
theorem q63 {k : Nat} (h : Lv 1 k) {n : Int} {bs : Option (List Int)} (h127 : ¬ IntKind.u32.wrap n ≤ 127) (hl : ∀ l, bs = some l → l.length + 4 ≤ 17592186044416) :
    R k (.fn 63) [(bufIn bs).1, .pv (.int .i32 n)] (bufIn bs).2 = some (.ret (bufOut bs (encP n)).1, (bufOut bs (encP n)).2) := by
  rw [R_at h.pos rfl rfl]; exact w63 pm h127 hl
end AI.Tok
end
