/-
  LITERALS of the reference.
  PLAIN FACTS about what the reference's functions compute.
-/
import Derived.Test.YthkidjlemhgnfaaDoorTsJ
set_option linter.unusedVariables false
set_option linter.unusedSimpArgs false
set_option linter.unusedSectionVars false
section
namespace AI.Tok
open Go AI
set_option maxRecDepth 100000
set_option maxHeartbeats 4000000
set_option linter.unusedSimpArgs false
set_option linter.unusedVariables false

def pairN (n low : Int) : Int := IntKind.i64.wrap (IntKind.i64.wrap (IntKind.i64.wrap (65536 + IntKind.i64.wrap (IntKind.i64.wrap (n - 55296) * 1024)) + low) - 56320)
/-- An escape: its rune, its end, its error. -/
def escN (s : List UInt8) (f : Nat) : Int × Nat × Int :=
  if numberedN s f < 0 then
    (if (bt s f).toNat = 92 ∧ f + 1 < s.length ∧ 0 ≤ shortN (bt s (f + 1)) then (shortN (bt s (f + 1)), f + 2, 0) else (0, f, 23))
  else if numberedN s f < 55296 ∨ 57343 < numberedN s f then (numberedN s f, f + 6, 0)
  else if 56320 ≤ numberedN s f ∨ numberedN s (f + 6) < 56320 ∨ 57343 < numberedN s (f + 6) then (0, f, 24)
  else (pairN (numberedN s f) (numberedN s (f + 6)), f + 12, 0)
def rowI (z : Int) : Row := [PV.int .i64 z]
theorem encZ_len (z : Int) : (encZ z).length ≤ 4 := by unfold encZ; split <;> simp

section
variable {M : Prims} (pm : PM M) {S : SFn} {Lp : (St → St) → (St → Option (AI.Exit × St)) → St → Option (AI.Exit × St)} {N : Nat} {s : List UInt8} {f : Nat}
include pm
theorem w35 (h43 : ∀ p : Nat, p ≤ s.length + 6 → S (.fn 43) [.pv (.str s), .pv (.int .i64 p)] [] = some (.ret (.pv (.int .i64 (numberedN s p))), []))
    (h44 : ∀ c : UInt8, S (.fn 44) [.pv (.int .u8 c.toNat)] [] = some (.ret (.pv (.int .i64 (shortN c))), [])) (hs : s.length ≤ 1048576) (hf : f < s.length) :
    runFn M S Lp rf35 [sV s, iV f] [] = some (.ret (.tup [.pv (.int .i64 (escN s f).1), .pv (.int .i64 (escN s f).2.1), .pv (.int .i64 (escN s f).2.2)]), []) := by
  have hw1 : IntKind.i64.wrap ((f : Int) + 1) = f + 1 := wrap64 (by omega) (by omega)
  have hw2 : IntKind.i64.wrap ((f : Int) + 2) = f + 2 := wrap64 (by omega) (by omega)
  have hw6 : IntKind.i64.wrap ((f : Int) + 6) = f + 6 := wrap64 (by omega) (by omega)
  have hw12 : IntKind.i64.wrap ((f : Int) + 12) = f + 12 := wrap64 (by omega) (by omega)
  have hT : ((f : Int) + 1).toNat = f + 1 := by omega
  have hP : (0 : Int) ≤ (f : Int) + 1 := by omega
  have e0 := h43 f (by omega)
  have hge : ¬ (s.length ≤ f) := by omega
  by_cases h1 : numberedN s f < 0
  · by_cases h92 : (bt s f).toNat = 92
    · by_cases hl : f + 1 < s.length
      · have hl' : (f : Int) + 1 < s.length := by omega
        by_cases hsh : 0 ≤ shortN (bt s (f + 1))
        · simp [rf35, hf, hge, e0, h1, h92, hl, hl', hw1, hw2, hT, hP, h44, hsh, escN, exec, runOps, stepG, opRun, sv, strip, evalO, sV, iV, bV, bads, put, ROp.dst, ROp.quiet, guardOf, impAll, pvOf, pvOf?, callRun, callFn, prep, argOf, handOver, behind, takeBack, List.replicate, reachable, reach, addNew, idsOfs, idsOf, Blk.ids, rens, ren, renBlks, renBlk, layOld, layNew, posIn, AM.lent, tell, head, openAll, forget, tidy, List.range, List.range.loop, backR, backV, backId, backVer, toZero, verOf, cellsOf, widOk, mkAgg, splice, resOne, resAll, resVal, runFn, freeze, freezeAll, depth, allPV, isRow, lit?, eqNil, nilOp, flatL, flatLs, headVer, rowsOf, isRow, freezeRow, LV.sc, rowParts, buildParts, okAll, touch, meets, apart, apartAll, runDraw, argIds, rowIds, List.range', rowsWide, byteOf?, byteRow, pm.chk, pm.isB, pm.truth, pm.gd, pm.imp, pm.and, pm.pickT, pm.pickF, pm.not, pm.notOk, pm.len, pm.lenL, pm.lenOk, pm.lenOkL, pm.sidx, pm.sidxOk, pm.add, pm.sub, pm.mul, pm.quo, pm.rem, pm.eql, pm.neq, pm.lss, pm.leq, pm.gtr, pm.geq, pm.addOk, pm.subOk, pm.mulOk, pm.quoOk, pm.remOk, pm.eqlOk, pm.neqOk, pm.lssOk, pm.leqOk, pm.gtrOk, pm.geqOk, pm.seql, pm.sneq, pm.seqlOk, pm.sneqOk, pm.beql, pm.bneq, pm.beqlOk, pm.bneqOk, pm.conv, pm.convOk, pm.cut, pm.cutA, pm.cutOk, pm.cutAOk, pm.rowsOk, pm.rlen, pm.cell, pm.wid, pm.widGe, pm.repl, pm.replOk, pm.nat, pm.natOk, pm.rget, pm.rput, pm.sub2, pm.lidx, pm.lidxOk, pm.lim, pm.rapp, pm.rowsL, pm.rowsS, pm.rowsOkL, pm.str, pm.strOk, pm.flatI, pm.flatB, pm.flatS, pm.join, pm.joinOk, pm.pidx, pm.pidxOk, pm.shl, pm.shr, pm.shlOk, pm.shrOk, pm.orI, pm.andI, pm.orOk, pm.andOk]
        · simp [rf35, hf, hge, e0, h1, h92, hl, hl', hw1, hw2, hT, hP, h44, hsh, escN, exec, runOps, stepG, opRun, sv, strip, evalO, sV, iV, bV, bads, put, ROp.dst, ROp.quiet, guardOf, impAll, pvOf, pvOf?, callRun, callFn, prep, argOf, handOver, behind, takeBack, List.replicate, reachable, reach, addNew, idsOfs, idsOf, Blk.ids, rens, ren, renBlks, renBlk, layOld, layNew, posIn, AM.lent, tell, head, openAll, forget, tidy, List.range, List.range.loop, backR, backV, backId, backVer, toZero, verOf, cellsOf, widOk, mkAgg, splice, resOne, resAll, resVal, runFn, freeze, freezeAll, depth, allPV, isRow, lit?, eqNil, nilOp, flatL, flatLs, headVer, rowsOf, isRow, freezeRow, LV.sc, rowParts, buildParts, okAll, touch, meets, apart, apartAll, runDraw, argIds, rowIds, List.range', rowsWide, byteOf?, byteRow, pm.chk, pm.isB, pm.truth, pm.gd, pm.imp, pm.and, pm.pickT, pm.pickF, pm.not, pm.notOk, pm.len, pm.lenL, pm.lenOk, pm.lenOkL, pm.sidx, pm.sidxOk, pm.add, pm.sub, pm.mul, pm.quo, pm.rem, pm.eql, pm.neq, pm.lss, pm.leq, pm.gtr, pm.geq, pm.addOk, pm.subOk, pm.mulOk, pm.quoOk, pm.remOk, pm.eqlOk, pm.neqOk, pm.lssOk, pm.leqOk, pm.gtrOk, pm.geqOk, pm.seql, pm.sneq, pm.seqlOk, pm.sneqOk, pm.beql, pm.bneq, pm.beqlOk, pm.bneqOk, pm.conv, pm.convOk, pm.cut, pm.cutA, pm.cutOk, pm.cutAOk, pm.rowsOk, pm.rlen, pm.cell, pm.wid, pm.widGe, pm.repl, pm.replOk, pm.nat, pm.natOk, pm.rget, pm.rput, pm.sub2, pm.lidx, pm.lidxOk, pm.lim, pm.rapp, pm.rowsL, pm.rowsS, pm.rowsOkL, pm.str, pm.strOk, pm.flatI, pm.flatB, pm.flatS, pm.join, pm.joinOk, pm.pidx, pm.pidxOk, pm.shl, pm.shr, pm.shlOk, pm.shrOk, pm.orI, pm.andI, pm.orOk, pm.andOk]
      · have hl' : ¬ (f : Int) + 1 < s.length := by omega
        simp [rf35, hf, hge, e0, h1, h92, hl, hl', hw1, escN, exec, runOps, stepG, opRun, sv, strip, evalO, sV, iV, bV, bads, put, ROp.dst, ROp.quiet, guardOf, impAll, pvOf, pvOf?, callRun, callFn, prep, argOf, handOver, behind, takeBack, List.replicate, reachable, reach, addNew, idsOfs, idsOf, Blk.ids, rens, ren, renBlks, renBlk, layOld, layNew, posIn, AM.lent, tell, head, openAll, forget, tidy, List.range, List.range.loop, backR, backV, backId, backVer, toZero, verOf, cellsOf, widOk, mkAgg, splice, resOne, resAll, resVal, runFn, freeze, freezeAll, depth, allPV, isRow, lit?, eqNil, nilOp, flatL, flatLs, headVer, rowsOf, isRow, freezeRow, LV.sc, rowParts, buildParts, okAll, touch, meets, apart, apartAll, runDraw, argIds, rowIds, List.range', rowsWide, byteOf?, byteRow, pm.chk, pm.isB, pm.truth, pm.gd, pm.imp, pm.and, pm.pickT, pm.pickF, pm.not, pm.notOk, pm.len, pm.lenL, pm.lenOk, pm.lenOkL, pm.sidx, pm.sidxOk, pm.add, pm.sub, pm.mul, pm.quo, pm.rem, pm.eql, pm.neq, pm.lss, pm.leq, pm.gtr, pm.geq, pm.addOk, pm.subOk, pm.mulOk, pm.quoOk, pm.remOk, pm.eqlOk, pm.neqOk, pm.lssOk, pm.leqOk, pm.gtrOk, pm.geqOk, pm.seql, pm.sneq, pm.seqlOk, pm.sneqOk, pm.beql, pm.bneq, pm.beqlOk, pm.bneqOk, pm.conv, pm.convOk, pm.cut, pm.cutA, pm.cutOk, pm.cutAOk, pm.rowsOk, pm.rlen, pm.cell, pm.wid, pm.widGe, pm.repl, pm.replOk, pm.nat, pm.natOk, pm.rget, pm.rput, pm.sub2, pm.lidx, pm.lidxOk, pm.lim, pm.rapp, pm.rowsL, pm.rowsS, pm.rowsOkL, pm.str, pm.strOk, pm.flatI, pm.flatB, pm.flatS, pm.join, pm.joinOk, pm.pidx, pm.pidxOk, pm.shl, pm.shr, pm.shlOk, pm.shrOk, pm.orI, pm.andI, pm.orOk, pm.andOk]
    · simp [rf35, hf, hge, e0, h1, h92, escN, exec, runOps, stepG, opRun, sv, strip, evalO, sV, iV, bV, bads, put, ROp.dst, ROp.quiet, guardOf, impAll, pvOf, pvOf?, callRun, callFn, prep, argOf, handOver, behind, takeBack, List.replicate, reachable, reach, addNew, idsOfs, idsOf, Blk.ids, rens, ren, renBlks, renBlk, layOld, layNew, posIn, AM.lent, tell, head, openAll, forget, tidy, List.range, List.range.loop, backR, backV, backId, backVer, toZero, verOf, cellsOf, widOk, mkAgg, splice, resOne, resAll, resVal, runFn, freeze, freezeAll, depth, allPV, isRow, lit?, eqNil, nilOp, flatL, flatLs, headVer, rowsOf, isRow, freezeRow, LV.sc, rowParts, buildParts, okAll, touch, meets, apart, apartAll, runDraw, argIds, rowIds, List.range', rowsWide, byteOf?, byteRow, pm.chk, pm.isB, pm.truth, pm.gd, pm.imp, pm.and, pm.pickT, pm.pickF, pm.not, pm.notOk, pm.len, pm.lenL, pm.lenOk, pm.lenOkL, pm.sidx, pm.sidxOk, pm.add, pm.sub, pm.mul, pm.quo, pm.rem, pm.eql, pm.neq, pm.lss, pm.leq, pm.gtr, pm.geq, pm.addOk, pm.subOk, pm.mulOk, pm.quoOk, pm.remOk, pm.eqlOk, pm.neqOk, pm.lssOk, pm.leqOk, pm.gtrOk, pm.geqOk, pm.seql, pm.sneq, pm.seqlOk, pm.sneqOk, pm.beql, pm.bneq, pm.beqlOk, pm.bneqOk, pm.conv, pm.convOk, pm.cut, pm.cutA, pm.cutOk, pm.cutAOk, pm.rowsOk, pm.rlen, pm.cell, pm.wid, pm.widGe, pm.repl, pm.replOk, pm.nat, pm.natOk, pm.rget, pm.rput, pm.sub2, pm.lidx, pm.lidxOk, pm.lim, pm.rapp, pm.rowsL, pm.rowsS, pm.rowsOkL, pm.str, pm.strOk, pm.flatI, pm.flatB, pm.flatS, pm.join, pm.joinOk, pm.pidx, pm.pidxOk, pm.shl, pm.shr, pm.shlOk, pm.shrOk, pm.orI, pm.andI, pm.orOk, pm.andOk]
  · by_cases h2 : numberedN s f < 55296
    · simp [rf35, hf, hge, e0, h1, h2, hw6, escN, exec, runOps, stepG, opRun, sv, strip, evalO, sV, iV, bV, bads, put, ROp.dst, ROp.quiet, guardOf, impAll, pvOf, pvOf?, callRun, callFn, prep, argOf, handOver, behind, takeBack, List.replicate, reachable, reach, addNew, idsOfs, idsOf, Blk.ids, rens, ren, renBlks, renBlk, layOld, layNew, posIn, AM.lent, tell, head, openAll, forget, tidy, List.range, List.range.loop, backR, backV, backId, backVer, toZero, verOf, cellsOf, widOk, mkAgg, splice, resOne, resAll, resVal, runFn, freeze, freezeAll, depth, allPV, isRow, lit?, eqNil, nilOp, flatL, flatLs, headVer, rowsOf, isRow, freezeRow, LV.sc, rowParts, buildParts, okAll, touch, meets, apart, apartAll, runDraw, argIds, rowIds, List.range', rowsWide, byteOf?, byteRow, pm.chk, pm.isB, pm.truth, pm.gd, pm.imp, pm.and, pm.pickT, pm.pickF, pm.not, pm.notOk, pm.len, pm.lenL, pm.lenOk, pm.lenOkL, pm.sidx, pm.sidxOk, pm.add, pm.sub, pm.mul, pm.quo, pm.rem, pm.eql, pm.neq, pm.lss, pm.leq, pm.gtr, pm.geq, pm.addOk, pm.subOk, pm.mulOk, pm.quoOk, pm.remOk, pm.eqlOk, pm.neqOk, pm.lssOk, pm.leqOk, pm.gtrOk, pm.geqOk, pm.seql, pm.sneq, pm.seqlOk, pm.sneqOk, pm.beql, pm.bneq, pm.beqlOk, pm.bneqOk, pm.conv, pm.convOk, pm.cut, pm.cutA, pm.cutOk, pm.cutAOk, pm.rowsOk, pm.rlen, pm.cell, pm.wid, pm.widGe, pm.repl, pm.replOk, pm.nat, pm.natOk, pm.rget, pm.rput, pm.sub2, pm.lidx, pm.lidxOk, pm.lim, pm.rapp, pm.rowsL, pm.rowsS, pm.rowsOkL, pm.str, pm.strOk, pm.flatI, pm.flatB, pm.flatS, pm.join, pm.joinOk, pm.pidx, pm.pidxOk, pm.shl, pm.shr, pm.shlOk, pm.shrOk, pm.orI, pm.andI, pm.orOk, pm.andOk]
    · by_cases h3 : 57343 < numberedN s f
      · simp [rf35, hf, hge, e0, h1, h2, h3, hw6, escN, exec, runOps, stepG, opRun, sv, strip, evalO, sV, iV, bV, bads, put, ROp.dst, ROp.quiet, guardOf, impAll, pvOf, pvOf?, callRun, callFn, prep, argOf, handOver, behind, takeBack, List.replicate, reachable, reach, addNew, idsOfs, idsOf, Blk.ids, rens, ren, renBlks, renBlk, layOld, layNew, posIn, AM.lent, tell, head, openAll, forget, tidy, List.range, List.range.loop, backR, backV, backId, backVer, toZero, verOf, cellsOf, widOk, mkAgg, splice, resOne, resAll, resVal, runFn, freeze, freezeAll, depth, allPV, isRow, lit?, eqNil, nilOp, flatL, flatLs, headVer, rowsOf, isRow, freezeRow, LV.sc, rowParts, buildParts, okAll, touch, meets, apart, apartAll, runDraw, argIds, rowIds, List.range', rowsWide, byteOf?, byteRow, pm.chk, pm.isB, pm.truth, pm.gd, pm.imp, pm.and, pm.pickT, pm.pickF, pm.not, pm.notOk, pm.len, pm.lenL, pm.lenOk, pm.lenOkL, pm.sidx, pm.sidxOk, pm.add, pm.sub, pm.mul, pm.quo, pm.rem, pm.eql, pm.neq, pm.lss, pm.leq, pm.gtr, pm.geq, pm.addOk, pm.subOk, pm.mulOk, pm.quoOk, pm.remOk, pm.eqlOk, pm.neqOk, pm.lssOk, pm.leqOk, pm.gtrOk, pm.geqOk, pm.seql, pm.sneq, pm.seqlOk, pm.sneqOk, pm.beql, pm.bneq, pm.beqlOk, pm.bneqOk, pm.conv, pm.convOk, pm.cut, pm.cutA, pm.cutOk, pm.cutAOk, pm.rowsOk, pm.rlen, pm.cell, pm.wid, pm.widGe, pm.repl, pm.replOk, pm.nat, pm.natOk, pm.rget, pm.rput, pm.sub2, pm.lidx, pm.lidxOk, pm.lim, pm.rapp, pm.rowsL, pm.rowsS, pm.rowsOkL, pm.str, pm.strOk, pm.flatI, pm.flatB, pm.flatS, pm.join, pm.joinOk, pm.pidx, pm.pidxOk, pm.shl, pm.shr, pm.shlOk, pm.shrOk, pm.orI, pm.andI, pm.orOk, pm.andOk]
      · have e6 := h43 (f + 6) (by omega)
        have e6' : S (.fn 43) [.pv (.str s), .pv (.int .i64 ((f : Int) + 6))] [] = some (.ret (.pv (.int .i64 (numberedN s (f + 6)))), []) := e6
        by_cases h4 : 56320 ≤ numberedN s f
        · simp [rf35, hf, hge, e0, e6', h1, h2, h3, h4, hw6, escN, exec, runOps, stepG, opRun, sv, strip, evalO, sV, iV, bV, bads, put, ROp.dst, ROp.quiet, guardOf, impAll, pvOf, pvOf?, callRun, callFn, prep, argOf, handOver, behind, takeBack, List.replicate, reachable, reach, addNew, idsOfs, idsOf, Blk.ids, rens, ren, renBlks, renBlk, layOld, layNew, posIn, AM.lent, tell, head, openAll, forget, tidy, List.range, List.range.loop, backR, backV, backId, backVer, toZero, verOf, cellsOf, widOk, mkAgg, splice, resOne, resAll, resVal, runFn, freeze, freezeAll, depth, allPV, isRow, lit?, eqNil, nilOp, flatL, flatLs, headVer, rowsOf, isRow, freezeRow, LV.sc, rowParts, buildParts, okAll, touch, meets, apart, apartAll, runDraw, argIds, rowIds, List.range', rowsWide, byteOf?, byteRow, pm.chk, pm.isB, pm.truth, pm.gd, pm.imp, pm.and, pm.pickT, pm.pickF, pm.not, pm.notOk, pm.len, pm.lenL, pm.lenOk, pm.lenOkL, pm.sidx, pm.sidxOk, pm.add, pm.sub, pm.mul, pm.quo, pm.rem, pm.eql, pm.neq, pm.lss, pm.leq, pm.gtr, pm.geq, pm.addOk, pm.subOk, pm.mulOk, pm.quoOk, pm.remOk, pm.eqlOk, pm.neqOk, pm.lssOk, pm.leqOk, pm.gtrOk, pm.geqOk, pm.seql, pm.sneq, pm.seqlOk, pm.sneqOk, pm.beql, pm.bneq, pm.beqlOk, pm.bneqOk, pm.conv, pm.convOk, pm.cut, pm.cutA, pm.cutOk, pm.cutAOk, pm.rowsOk, pm.rlen, pm.cell, pm.wid, pm.widGe, pm.repl, pm.replOk, pm.nat, pm.natOk, pm.rget, pm.rput, pm.sub2, pm.lidx, pm.lidxOk, pm.lim, pm.rapp, pm.rowsL, pm.rowsS, pm.rowsOkL, pm.str, pm.strOk, pm.flatI, pm.flatB, pm.flatS, pm.join, pm.joinOk, pm.pidx, pm.pidxOk, pm.shl, pm.shr, pm.shlOk, pm.shrOk, pm.orI, pm.andI, pm.orOk, pm.andOk]
        · by_cases h5 : numberedN s (f + 6) < 56320
          · simp [rf35, hf, hge, e0, e6', h1, h2, h3, h4, h5, hw6, escN, exec, runOps, stepG, opRun, sv, strip, evalO, sV, iV, bV, bads, put, ROp.dst, ROp.quiet, guardOf, impAll, pvOf, pvOf?, callRun, callFn, prep, argOf, handOver, behind, takeBack, List.replicate, reachable, reach, addNew, idsOfs, idsOf, Blk.ids, rens, ren, renBlks, renBlk, layOld, layNew, posIn, AM.lent, tell, head, openAll, forget, tidy, List.range, List.range.loop, backR, backV, backId, backVer, toZero, verOf, cellsOf, widOk, mkAgg, splice, resOne, resAll, resVal, runFn, freeze, freezeAll, depth, allPV, isRow, lit?, eqNil, nilOp, flatL, flatLs, headVer, rowsOf, isRow, freezeRow, LV.sc, rowParts, buildParts, okAll, touch, meets, apart, apartAll, runDraw, argIds, rowIds, List.range', rowsWide, byteOf?, byteRow, pm.chk, pm.isB, pm.truth, pm.gd, pm.imp, pm.and, pm.pickT, pm.pickF, pm.not, pm.notOk, pm.len, pm.lenL, pm.lenOk, pm.lenOkL, pm.sidx, pm.sidxOk, pm.add, pm.sub, pm.mul, pm.quo, pm.rem, pm.eql, pm.neq, pm.lss, pm.leq, pm.gtr, pm.geq, pm.addOk, pm.subOk, pm.mulOk, pm.quoOk, pm.remOk, pm.eqlOk, pm.neqOk, pm.lssOk, pm.leqOk, pm.gtrOk, pm.geqOk, pm.seql, pm.sneq, pm.seqlOk, pm.sneqOk, pm.beql, pm.bneq, pm.beqlOk, pm.bneqOk, pm.conv, pm.convOk, pm.cut, pm.cutA, pm.cutOk, pm.cutAOk, pm.rowsOk, pm.rlen, pm.cell, pm.wid, pm.widGe, pm.repl, pm.replOk, pm.nat, pm.natOk, pm.rget, pm.rput, pm.sub2, pm.lidx, pm.lidxOk, pm.lim, pm.rapp, pm.rowsL, pm.rowsS, pm.rowsOkL, pm.str, pm.strOk, pm.flatI, pm.flatB, pm.flatS, pm.join, pm.joinOk, pm.pidx, pm.pidxOk, pm.shl, pm.shr, pm.shlOk, pm.shrOk, pm.orI, pm.andI, pm.orOk, pm.andOk]
          · by_cases h6 : 57343 < numberedN s (f + 6)
            · simp [rf35, hf, hge, e0, e6', h1, h2, h3, h4, h5, h6, hw6, escN, exec, runOps, stepG, opRun, sv, strip, evalO, sV, iV, bV, bads, put, ROp.dst, ROp.quiet, guardOf, impAll, pvOf, pvOf?, callRun, callFn, prep, argOf, handOver, behind, takeBack, List.replicate, reachable, reach, addNew, idsOfs, idsOf, Blk.ids, rens, ren, renBlks, renBlk, layOld, layNew, posIn, AM.lent, tell, head, openAll, forget, tidy, List.range, List.range.loop, backR, backV, backId, backVer, toZero, verOf, cellsOf, widOk, mkAgg, splice, resOne, resAll, resVal, runFn, freeze, freezeAll, depth, allPV, isRow, lit?, eqNil, nilOp, flatL, flatLs, headVer, rowsOf, isRow, freezeRow, LV.sc, rowParts, buildParts, okAll, touch, meets, apart, apartAll, runDraw, argIds, rowIds, List.range', rowsWide, byteOf?, byteRow, pm.chk, pm.isB, pm.truth, pm.gd, pm.imp, pm.and, pm.pickT, pm.pickF, pm.not, pm.notOk, pm.len, pm.lenL, pm.lenOk, pm.lenOkL, pm.sidx, pm.sidxOk, pm.add, pm.sub, pm.mul, pm.quo, pm.rem, pm.eql, pm.neq, pm.lss, pm.leq, pm.gtr, pm.geq, pm.addOk, pm.subOk, pm.mulOk, pm.quoOk, pm.remOk, pm.eqlOk, pm.neqOk, pm.lssOk, pm.leqOk, pm.gtrOk, pm.geqOk, pm.seql, pm.sneq, pm.seqlOk, pm.sneqOk, pm.beql, pm.bneq, pm.beqlOk, pm.bneqOk, pm.conv, pm.convOk, pm.cut, pm.cutA, pm.cutOk, pm.cutAOk, pm.rowsOk, pm.rlen, pm.cell, pm.wid, pm.widGe, pm.repl, pm.replOk, pm.nat, pm.natOk, pm.rget, pm.rput, pm.sub2, pm.lidx, pm.lidxOk, pm.lim, pm.rapp, pm.rowsL, pm.rowsS, pm.rowsOkL, pm.str, pm.strOk, pm.flatI, pm.flatB, pm.flatS, pm.join, pm.joinOk, pm.pidx, pm.pidxOk, pm.shl, pm.shr, pm.shlOk, pm.shrOk, pm.orI, pm.andI, pm.orOk, pm.andOk]
            · simp [rf35, hf, hge, e0, e6', h1, h2, h3, h4, h5, h6, hw6, hw12, escN, pairN, exec, runOps, stepG, opRun, sv, strip, evalO, sV, iV, bV, bads, put, ROp.dst, ROp.quiet, guardOf, impAll, pvOf, pvOf?, callRun, callFn, prep, argOf, handOver, behind, takeBack, List.replicate, reachable, reach, addNew, idsOfs, idsOf, Blk.ids, rens, ren, renBlks, renBlk, layOld, layNew, posIn, AM.lent, tell, head, openAll, forget, tidy, List.range, List.range.loop, backR, backV, backId, backVer, toZero, verOf, cellsOf, widOk, mkAgg, splice, resOne, resAll, resVal, runFn, freeze, freezeAll, depth, allPV, isRow, lit?, eqNil, nilOp, flatL, flatLs, headVer, rowsOf, isRow, freezeRow, LV.sc, rowParts, buildParts, okAll, touch, meets, apart, apartAll, runDraw, argIds, rowIds, List.range', rowsWide, byteOf?, byteRow, pm.chk, pm.isB, pm.truth, pm.gd, pm.imp, pm.and, pm.pickT, pm.pickF, pm.not, pm.notOk, pm.len, pm.lenL, pm.lenOk, pm.lenOkL, pm.sidx, pm.sidxOk, pm.add, pm.sub, pm.mul, pm.quo, pm.rem, pm.eql, pm.neq, pm.lss, pm.leq, pm.gtr, pm.geq, pm.addOk, pm.subOk, pm.mulOk, pm.quoOk, pm.remOk, pm.eqlOk, pm.neqOk, pm.lssOk, pm.leqOk, pm.gtrOk, pm.geqOk, pm.seql, pm.sneq, pm.seqlOk, pm.sneqOk, pm.beql, pm.bneq, pm.beqlOk, pm.bneqOk, pm.conv, pm.convOk, pm.cut, pm.cutA, pm.cutOk, pm.cutAOk, pm.rowsOk, pm.rlen, pm.cell, pm.wid, pm.widGe, pm.repl, pm.replOk, pm.nat, pm.natOk, pm.rget, pm.rput, pm.sub2, pm.lidx, pm.lidxOk, pm.lim, pm.rapp, pm.rowsL, pm.rowsS, pm.rowsOkL, pm.str, pm.strOk, pm.flatI, pm.flatB, pm.flatS, pm.join, pm.joinOk, pm.pidx, pm.pidxOk, pm.shl, pm.shr, pm.shlOk, pm.shrOk, pm.orI, pm.andI, pm.orOk, pm.andOk]

section
variable (h42 : ∀ n : Int, isRuneN n = true → S (.fn 42) [.pv (.int .i64 n)] [] = some (.ret (.pv (.list ((encZ n).map rowB))), []))
include h42
theorem w34_step {zs out : List Int} {fx : Bool × Nat} {i : Nat} {z : Int} (hz : zs[i]? = some z) (hr : isRuneN z = true) (hl : zs.length ≤ 1048576) (hlim : out.length + (encZ z).length ≤ 17592186044416) :
    tell M (head 1 rf34_a0) (exec M S Lp 1 rf34_b0 ⟨.ref 0 0 :: .bad :: .bad :: .ref 1 0 :: iV i :: bads 18, [.arr 1 0 fx (zs.map rowI), .arr 1 0 (false, 0) (out.map rowB)], []⟩) =
      some (.normal, true, ⟨.ref 0 0 :: .bad :: .bad :: .ref 1 0 :: iV ((i + 1 : Nat)) :: bads 18, [.arr 1 0 fx (zs.map rowI), .arr 1 0 (false, 0) ((out ++ encZ z).map rowB)], []⟩) := by
  have hlt : i < zs.length := (List.getElem?_eq_some_iff.1 hz).1
  have hz' : zs[i] = z := (List.getElem?_eq_some_iff.1 hz).2
  have hw : IntKind.i64.wrap ((i : Int) + 1) = i + 1 := wrap64 (by omega) (by omega)
  have e42 := h42 z hr
  have hwide : rowsWide 1 ((encZ z).map rowB) = true := by simp [rowsWide, rowB]
  have hwide' : ∀ x ∈ encZ z, (rowB x).length = 1 := fun x _ => rfl
  simp [hlt, hz, hz', hw, e42, hwide, hlim, fxApp, rf34_b0, rowI, exec, runOps, stepG, opRun, sv, strip, evalO, sV, iV, bV, bads, put, ROp.dst, ROp.quiet, guardOf, impAll, pvOf, pvOf?, callRun, callFn, prep, argOf, handOver, behind, takeBack, List.replicate, reachable, reach, addNew, idsOfs, idsOf, Blk.ids, rens, ren, renBlks, renBlk, layOld, layNew, posIn, AM.lent, tell, head, openAll, forget, tidy, List.range, List.range.loop, backR, backV, backId, backVer, toZero, verOf, cellsOf, widOk, mkAgg, splice, resOne, resAll, resVal, runFn, freeze, freezeAll, depth, allPV, isRow, lit?, eqNil, nilOp, flatL, flatLs, headVer, rowsOf, isRow, freezeRow, LV.sc, rowParts, buildParts, okAll, touch, meets, apart, apartAll, runDraw, argIds, rowIds, List.range', rowsWide, byteOf?, byteRow, pm.chk, pm.isB, pm.truth, pm.gd, pm.imp, pm.and, pm.pickT, pm.pickF, pm.not, pm.notOk, pm.len, pm.lenL, pm.lenOk, pm.lenOkL, pm.sidx, pm.sidxOk, pm.add, pm.sub, pm.mul, pm.quo, pm.rem, pm.eql, pm.neq, pm.lss, pm.leq, pm.gtr, pm.geq, pm.addOk, pm.subOk, pm.mulOk, pm.quoOk, pm.remOk, pm.eqlOk, pm.neqOk, pm.lssOk, pm.leqOk, pm.gtrOk, pm.geqOk, pm.seql, pm.sneq, pm.seqlOk, pm.sneqOk, pm.beql, pm.bneq, pm.beqlOk, pm.bneqOk, pm.conv, pm.convOk, pm.cut, pm.cutA, pm.cutOk, pm.cutAOk, pm.rowsOk, pm.rlen, pm.cell, pm.wid, pm.widGe, pm.repl, pm.replOk, pm.nat, pm.natOk, pm.rget, pm.rput, pm.sub2, pm.lidx, pm.lidxOk, pm.lim, pm.rapp, pm.rowsL, pm.rowsS, pm.rowsOkL, pm.str, pm.strOk, pm.flatI, pm.flatB, pm.flatS, pm.join, pm.joinOk, pm.pidx, pm.pidxOk, pm.shl, pm.shr, pm.shlOk, pm.shrOk, pm.orI, pm.andI, pm.orOk, pm.andOk]
  exact fun x _ => rfl
omit h42 in
theorem w34_end {zs out : List Int} {fx : Bool × Nat} {i : Nat} (hi : ¬ i < zs.length) :
    tell M (head 1 ⟨[3], [], [], []⟩) (exec M S Lp 1 rf34_b0 ⟨.ref 0 0 :: .bad :: .bad :: .ref 1 0 :: iV i :: bads 18, [.arr 1 0 fx (zs.map rowI), .arr 1 0 (false, 0) (out.map rowB)], []⟩) =
      some (.exit 0, true, ⟨.bad :: .bad :: .bad :: .ref 1 0 :: bads 19, [.arr 1 0 fx (zs.map rowI), .arr 1 0 (false, 0) (out.map rowB)], []⟩) := by
  simp [hi, rf34_b0, exec, runOps, stepG, opRun, sv, strip, evalO, sV, iV, bV, bads, put, ROp.dst, ROp.quiet, guardOf, impAll, pvOf, pvOf?, callRun, callFn, prep, argOf, handOver, behind, takeBack, List.replicate, reachable, reach, addNew, idsOfs, idsOf, Blk.ids, rens, ren, renBlks, renBlk, layOld, layNew, posIn, AM.lent, tell, head, openAll, forget, tidy, List.range, List.range.loop, backR, backV, backId, backVer, toZero, verOf, cellsOf, widOk, mkAgg, splice, resOne, resAll, resVal, runFn, freeze, freezeAll, depth, allPV, isRow, lit?, eqNil, nilOp, flatL, flatLs, headVer, rowsOf, isRow, freezeRow, LV.sc, rowParts, buildParts, okAll, touch, meets, apart, apartAll, runDraw, argIds, rowIds, List.range', rowsWide, byteOf?, byteRow, pm.chk, pm.isB, pm.truth, pm.gd, pm.imp, pm.and, pm.pickT, pm.pickF, pm.not, pm.notOk, pm.len, pm.lenL, pm.lenOk, pm.lenOkL, pm.sidx, pm.sidxOk, pm.add, pm.sub, pm.mul, pm.quo, pm.rem, pm.eql, pm.neq, pm.lss, pm.leq, pm.gtr, pm.geq, pm.addOk, pm.subOk, pm.mulOk, pm.quoOk, pm.remOk, pm.eqlOk, pm.neqOk, pm.lssOk, pm.leqOk, pm.gtrOk, pm.geqOk, pm.seql, pm.sneq, pm.seqlOk, pm.sneqOk, pm.beql, pm.bneq, pm.beqlOk, pm.bneqOk, pm.conv, pm.convOk, pm.cut, pm.cutA, pm.cutOk, pm.cutAOk, pm.rowsOk, pm.rlen, pm.cell, pm.wid, pm.widGe, pm.repl, pm.replOk, pm.nat, pm.natOk, pm.rget, pm.rput, pm.sub2, pm.lidx, pm.lidxOk, pm.lim, pm.rapp, pm.rowsL, pm.rowsS, pm.rowsOkL, pm.str, pm.strOk, pm.flatI, pm.flatB, pm.flatS, pm.join, pm.joinOk, pm.pidx, pm.pidxOk, pm.shl, pm.shr, pm.shlOk, pm.shrOk, pm.orI, pm.andI, pm.orOk, pm.andOk]
theorem w34_loop {zs : List Int} {fx : Bool × Nat} (hr : ∀ z ∈ zs, isRuneN z = true) (hl : zs.length ≤ 1048576) : ∀ (k N i : Nat) (out : List Int), i + k = zs.length → k < N → out.length ≤ 4 * i →
    outOf (head 1 ⟨[3], [], [], []⟩) (loopAt M N (head 1 rf34_a0) (exec M S Lp 1 rf34_b0) ⟨.ref 0 0 :: .bad :: .bad :: .ref 1 0 :: iV i :: bads 18, [.arr 1 0 fx (zs.map rowI), .arr 1 0 (false, 0) (out.map rowB)], []⟩) =
      some (.exit 0, ⟨.bad :: .bad :: .bad :: .ref 1 0 :: bads 19, [.arr 1 0 fx (zs.map rowI), .arr 1 0 (false, 0) ((out ++ (zs.drop i).flatMap encZ).map rowB)], []⟩)
  | _, 0, _, _, _, h, _ => by omega
  | 0, N + 1, i, out, h, _, _ => by
    rw [List.drop_eq_nil_of_le (by omega)]
    simpa using loop_out (w34_end pm (by omega)) (by simp) (fun _ _ => head_oks _ _)
  | k + 1, N + 1, i, out, h, hN, ho => by
    have hi : i < zs.length := by omega
    have h4 := encZ_len zs[i]
    rw [List.drop_eq_getElem_cons hi, List.flatMap_cons, ← List.append_assoc]
    exact loop_next (w34_step pm h42 (List.getElem?_eq_getElem hi) (hr _ (List.getElem_mem hi)) hl (by omega)) (w34_loop hr hl k N (i + 1) (out ++ encZ zs[i]) (by omega) (by omega) (by simp; omega))
theorem w34 {zs : List Int} {fx : Bool × Nat} (hr : ∀ z ∈ zs, isRuneN z = true) (hl : zs.length ≤ 1048576) (hN : zs.length < N) (hok : strOkR ((zs.flatMap encZ).map rowB) = true) :
    runFn M S (loopAt M N) rf34 [.ref 0 0] [.arr 1 0 fx (zs.map rowI)] = some (.ret (.pv (.str (strOf ((zs.flatMap encZ).map rowB)))), [.arr 1 0 fx (zs.map rowI)]) := by
  have hlp := w34_loop (fx := fx) (Lp := loopAt M N) (S := S) pm h42 hr hl zs.length N 0 [] (by omega) hN (by simp)
  simp only [sV, iV, bads, List.replicate, List.map_nil, List.nil_append, List.drop_zero, Int.natCast_zero] at hlp
  simp [rf34, hlp, hok, exec, runOps, stepG, opRun, sv, strip, evalO, sV, iV, bV, bads, put, ROp.dst, ROp.quiet, guardOf, impAll, pvOf, pvOf?, callRun, callFn, prep, argOf, handOver, behind, takeBack, List.replicate, reachable, reach, addNew, idsOfs, idsOf, Blk.ids, rens, ren, renBlks, renBlk, layOld, layNew, posIn, AM.lent, tell, head, openAll, forget, tidy, List.range, List.range.loop, backR, backV, backId, backVer, toZero, verOf, cellsOf, widOk, mkAgg, splice, resOne, resAll, resVal, runFn, freeze, freezeAll, depth, allPV, isRow, lit?, eqNil, nilOp, flatL, flatLs, headVer, rowsOf, isRow, freezeRow, LV.sc, rowParts, buildParts, okAll, touch, meets, apart, apartAll, runDraw, argIds, rowIds, List.range', rowsWide, byteOf?, byteRow, pm.chk, pm.isB, pm.truth, pm.gd, pm.imp, pm.and, pm.pickT, pm.pickF, pm.not, pm.notOk, pm.len, pm.lenL, pm.lenOk, pm.lenOkL, pm.sidx, pm.sidxOk, pm.add, pm.sub, pm.mul, pm.quo, pm.rem, pm.eql, pm.neq, pm.lss, pm.leq, pm.gtr, pm.geq, pm.addOk, pm.subOk, pm.mulOk, pm.quoOk, pm.remOk, pm.eqlOk, pm.neqOk, pm.lssOk, pm.leqOk, pm.gtrOk, pm.geqOk, pm.seql, pm.sneq, pm.seqlOk, pm.sneqOk, pm.beql, pm.bneq, pm.beqlOk, pm.bneqOk, pm.conv, pm.convOk, pm.cut, pm.cutA, pm.cutOk, pm.cutAOk, pm.rowsOk, pm.rlen, pm.cell, pm.wid, pm.widGe, pm.repl, pm.replOk, pm.nat, pm.natOk, pm.rget, pm.rput, pm.sub2, pm.lidx, pm.lidxOk, pm.lim, pm.rapp, pm.rowsL, pm.rowsS, pm.rowsOkL, pm.str, pm.strOk, pm.flatI, pm.flatB, pm.flatS, pm.join, pm.joinOk, pm.pidx, pm.pidxOk, pm.shl, pm.shr, pm.shlOk, pm.shrOk, pm.orI, pm.andI, pm.orOk, pm.andOk]
end

def textZ (zs : List Int) : List UInt8 := strOf ((zs.flatMap encZ).map rowB)
section
variable (h33 : f < s.length → S (.fn 33) [.pv (.str s), .pv (.int .i64 f)] [] = some (.ret (pieceV f (atN s f)), []))
  (h35 : f < s.length → S (.fn 35) [.pv (.str s), .pv (.int .i64 f)] [] = some (.ret (.tup [.pv (.int .i64 (escN s f).1), .pv (.int .i64 (escN s f).2.1), .pv (.int .i64 (escN s f).2.2)]), []))
include h33
theorem w18_quote {zs : List Int} (hf : f < s.length) (h1 : (atN s f).2.1 = 34)
    (h34 : S (.fn 34) [.ref 0 0] [.arr 1 0 (false, 0) (zs.map rowI)] = some (.ret (.pv (.str (textZ zs))), [.arr 1 0 (false, 0) (zs.map rowI)])) :
    tell M (head 0 ⟨[0, 4, 5, 6], [], [], []⟩) (exec M S Lp 0 rf18_b0 ⟨sV s :: iV f :: bads 5 ++ .ref 0 0 :: bads 69, [.arr 1 0 (false, 0) (zs.map rowI)], []⟩) =
      some (.ret, true, ⟨sV s :: bads 3 ++ .pv (.str (textZ zs)) :: iV (atN s f).1 :: iV 0 :: bads 70, [], []⟩) := by
  have e33 := h33 hf
  simp [hf, e33, h34, h1, pieceV, rf18_b0, exec, runOps, stepG, opRun, sv, strip, evalO, sV, iV, bV, bads, put, ROp.dst, ROp.quiet, guardOf, impAll, pvOf, pvOf?, callRun, callFn, prep, argOf, handOver, behind, takeBack, List.replicate, reachable, reach, addNew, idsOfs, idsOf, Blk.ids, rens, ren, renBlks, renBlk, layOld, layNew, posIn, AM.lent, tell, head, openAll, forget, tidy, List.range, List.range.loop, backR, backV, backId, backVer, toZero, verOf, cellsOf, widOk, mkAgg, splice, resOne, resAll, resVal, runFn, freeze, freezeAll, depth, allPV, isRow, lit?, eqNil, nilOp, flatL, flatLs, headVer, rowsOf, isRow, freezeRow, LV.sc, rowParts, buildParts, okAll, touch, meets, apart, apartAll, runDraw, argIds, rowIds, List.range', rowsWide, byteOf?, byteRow, pm.chk, pm.isB, pm.truth, pm.gd, pm.imp, pm.and, pm.pickT, pm.pickF, pm.not, pm.notOk, pm.len, pm.lenL, pm.lenOk, pm.lenOkL, pm.sidx, pm.sidxOk, pm.add, pm.sub, pm.mul, pm.quo, pm.rem, pm.eql, pm.neq, pm.lss, pm.leq, pm.gtr, pm.geq, pm.addOk, pm.subOk, pm.mulOk, pm.quoOk, pm.remOk, pm.eqlOk, pm.neqOk, pm.lssOk, pm.leqOk, pm.gtrOk, pm.geqOk, pm.seql, pm.sneq, pm.seqlOk, pm.sneqOk, pm.beql, pm.bneq, pm.beqlOk, pm.bneqOk, pm.conv, pm.convOk, pm.cut, pm.cutA, pm.cutOk, pm.cutAOk, pm.rowsOk, pm.rlen, pm.cell, pm.wid, pm.widGe, pm.repl, pm.replOk, pm.nat, pm.natOk, pm.rget, pm.rput, pm.sub2, pm.lidx, pm.lidxOk, pm.lim, pm.rapp, pm.rowsL, pm.rowsS, pm.rowsOkL, pm.str, pm.strOk, pm.flatI, pm.flatB, pm.flatS, pm.join, pm.joinOk, pm.pidx, pm.pidxOk, pm.shl, pm.shr, pm.shlOk, pm.shrOk, pm.orI, pm.andI, pm.orOk, pm.andOk]
theorem w18_ctrl {zs : List Int} (hf : f < s.length) (h1 : ¬ (atN s f).2.1 = 34) (h2 : (atN s f).2.1 < 32) :
    tell M (head 0 ⟨[0, 4, 5, 6], [], [], []⟩) (exec M S Lp 0 rf18_b0 ⟨sV s :: iV f :: bads 5 ++ .ref 0 0 :: bads 69, [.arr 1 0 (false, 0) (zs.map rowI)], []⟩) =
      some (.ret, true, ⟨sV s :: bads 3 ++ sV [] :: iV f :: iV 22 :: bads 70, [], []⟩) := by
  have e33 := h33 hf
  simp [hf, e33, h1, h2, pieceV, rf18_b0, exec, runOps, stepG, opRun, sv, strip, evalO, sV, iV, bV, bads, put, ROp.dst, ROp.quiet, guardOf, impAll, pvOf, pvOf?, callRun, callFn, prep, argOf, handOver, behind, takeBack, List.replicate, reachable, reach, addNew, idsOfs, idsOf, Blk.ids, rens, ren, renBlks, renBlk, layOld, layNew, posIn, AM.lent, tell, head, openAll, forget, tidy, List.range, List.range.loop, backR, backV, backId, backVer, toZero, verOf, cellsOf, widOk, mkAgg, splice, resOne, resAll, resVal, runFn, freeze, freezeAll, depth, allPV, isRow, lit?, eqNil, nilOp, flatL, flatLs, headVer, rowsOf, isRow, freezeRow, LV.sc, rowParts, buildParts, okAll, touch, meets, apart, apartAll, runDraw, argIds, rowIds, List.range', rowsWide, byteOf?, byteRow, pm.chk, pm.isB, pm.truth, pm.gd, pm.imp, pm.and, pm.pickT, pm.pickF, pm.not, pm.notOk, pm.len, pm.lenL, pm.lenOk, pm.lenOkL, pm.sidx, pm.sidxOk, pm.add, pm.sub, pm.mul, pm.quo, pm.rem, pm.eql, pm.neq, pm.lss, pm.leq, pm.gtr, pm.geq, pm.addOk, pm.subOk, pm.mulOk, pm.quoOk, pm.remOk, pm.eqlOk, pm.neqOk, pm.lssOk, pm.leqOk, pm.gtrOk, pm.geqOk, pm.seql, pm.sneq, pm.seqlOk, pm.sneqOk, pm.beql, pm.bneq, pm.beqlOk, pm.bneqOk, pm.conv, pm.convOk, pm.cut, pm.cutA, pm.cutOk, pm.cutAOk, pm.rowsOk, pm.rlen, pm.cell, pm.wid, pm.widGe, pm.repl, pm.replOk, pm.nat, pm.natOk, pm.rget, pm.rput, pm.sub2, pm.lidx, pm.lidxOk, pm.lim, pm.rapp, pm.rowsL, pm.rowsS, pm.rowsOkL, pm.str, pm.strOk, pm.flatI, pm.flatB, pm.flatS, pm.join, pm.joinOk, pm.pidx, pm.pidxOk, pm.shl, pm.shr, pm.shlOk, pm.shrOk, pm.orI, pm.andI, pm.orOk, pm.andOk]
theorem w18_stray {zs : List Int} (hf : f < s.length) (h1 : ¬ (atN s f).2.1 = 34) (h2 : ¬ (atN s f).2.1 < 32) (h3 : (atN s f).2.2 = true) :
    tell M (head 0 ⟨[0, 4, 5, 6], [], [], []⟩) (exec M S Lp 0 rf18_b0 ⟨sV s :: iV f :: bads 5 ++ .ref 0 0 :: bads 69, [.arr 1 0 (false, 0) (zs.map rowI)], []⟩) =
      some (.ret, true, ⟨sV s :: bads 3 ++ sV [] :: iV f :: iV 20 :: bads 70, [], []⟩) := by
  have e33 := h33 hf
  simp [hf, e33, h1, h2, h3, pieceV, rf18_b0, exec, runOps, stepG, opRun, sv, strip, evalO, sV, iV, bV, bads, put, ROp.dst, ROp.quiet, guardOf, impAll, pvOf, pvOf?, callRun, callFn, prep, argOf, handOver, behind, takeBack, List.replicate, reachable, reach, addNew, idsOfs, idsOf, Blk.ids, rens, ren, renBlks, renBlk, layOld, layNew, posIn, AM.lent, tell, head, openAll, forget, tidy, List.range, List.range.loop, backR, backV, backId, backVer, toZero, verOf, cellsOf, widOk, mkAgg, splice, resOne, resAll, resVal, runFn, freeze, freezeAll, depth, allPV, isRow, lit?, eqNil, nilOp, flatL, flatLs, headVer, rowsOf, isRow, freezeRow, LV.sc, rowParts, buildParts, okAll, touch, meets, apart, apartAll, runDraw, argIds, rowIds, List.range', rowsWide, byteOf?, byteRow, pm.chk, pm.isB, pm.truth, pm.gd, pm.imp, pm.and, pm.pickT, pm.pickF, pm.not, pm.notOk, pm.len, pm.lenL, pm.lenOk, pm.lenOkL, pm.sidx, pm.sidxOk, pm.add, pm.sub, pm.mul, pm.quo, pm.rem, pm.eql, pm.neq, pm.lss, pm.leq, pm.gtr, pm.geq, pm.addOk, pm.subOk, pm.mulOk, pm.quoOk, pm.remOk, pm.eqlOk, pm.neqOk, pm.lssOk, pm.leqOk, pm.gtrOk, pm.geqOk, pm.seql, pm.sneq, pm.seqlOk, pm.sneqOk, pm.beql, pm.bneq, pm.beqlOk, pm.bneqOk, pm.conv, pm.convOk, pm.cut, pm.cutA, pm.cutOk, pm.cutAOk, pm.rowsOk, pm.rlen, pm.cell, pm.wid, pm.widGe, pm.repl, pm.replOk, pm.nat, pm.natOk, pm.rget, pm.rput, pm.sub2, pm.lidx, pm.lidxOk, pm.lim, pm.rapp, pm.rowsL, pm.rowsS, pm.rowsOkL, pm.str, pm.strOk, pm.flatI, pm.flatB, pm.flatS, pm.join, pm.joinOk, pm.pidx, pm.pidxOk, pm.shl, pm.shr, pm.shlOk, pm.shrOk, pm.orI, pm.andI, pm.orOk, pm.andOk]
theorem w18_plain {zs : List Int} (hf : f < s.length) (h1 : ¬ (atN s f).2.1 = 34) (h2 : ¬ (atN s f).2.1 < 32) (h3 : (atN s f).2.2 = false) (h4 : ¬ (atN s f).2.1 = 92) (hl : zs.length + 1 ≤ 2199023255552) :
    tell M (head 0 rf18_a0) (exec M S Lp 0 rf18_b0 ⟨sV s :: iV f :: bads 5 ++ .ref 0 0 :: bads 69, [.arr 1 0 (false, 0) (zs.map rowI)], []⟩) =
      some (.normal, true, ⟨sV s :: iV (atN s f).1 :: bads 5 ++ .ref 0 0 :: bads 69, [.arr 1 0 (false, 0) ((zs ++ [(atN s f).2.1]).map rowI)], []⟩) := by
  have e33 := h33 hf
  have hl' : (zs.length + 1) * 8 ≤ 17592186044416 := by omega
  simp [hf, e33, h1, h2, h3, h4, hl', pieceV, fxApp, rowI, rf18_b0, exec, runOps, stepG, opRun, sv, strip, evalO, sV, iV, bV, bads, put, ROp.dst, ROp.quiet, guardOf, impAll, pvOf, pvOf?, callRun, callFn, prep, argOf, handOver, behind, takeBack, List.replicate, reachable, reach, addNew, idsOfs, idsOf, Blk.ids, rens, ren, renBlks, renBlk, layOld, layNew, posIn, AM.lent, tell, head, openAll, forget, tidy, List.range, List.range.loop, backR, backV, backId, backVer, toZero, verOf, cellsOf, widOk, mkAgg, splice, resOne, resAll, resVal, runFn, freeze, freezeAll, depth, allPV, isRow, lit?, eqNil, nilOp, flatL, flatLs, headVer, rowsOf, isRow, freezeRow, LV.sc, rowParts, buildParts, okAll, touch, meets, apart, apartAll, runDraw, argIds, rowIds, List.range', rowsWide, byteOf?, byteRow, pm.chk, pm.isB, pm.truth, pm.gd, pm.imp, pm.and, pm.pickT, pm.pickF, pm.not, pm.notOk, pm.len, pm.lenL, pm.lenOk, pm.lenOkL, pm.sidx, pm.sidxOk, pm.add, pm.sub, pm.mul, pm.quo, pm.rem, pm.eql, pm.neq, pm.lss, pm.leq, pm.gtr, pm.geq, pm.addOk, pm.subOk, pm.mulOk, pm.quoOk, pm.remOk, pm.eqlOk, pm.neqOk, pm.lssOk, pm.leqOk, pm.gtrOk, pm.geqOk, pm.seql, pm.sneq, pm.seqlOk, pm.sneqOk, pm.beql, pm.bneq, pm.beqlOk, pm.bneqOk, pm.conv, pm.convOk, pm.cut, pm.cutA, pm.cutOk, pm.cutAOk, pm.rowsOk, pm.rlen, pm.cell, pm.wid, pm.widGe, pm.repl, pm.replOk, pm.nat, pm.natOk, pm.rget, pm.rput, pm.sub2, pm.lidx, pm.lidxOk, pm.lim, pm.rapp, pm.rowsL, pm.rowsS, pm.rowsOkL, pm.str, pm.strOk, pm.flatI, pm.flatB, pm.flatS, pm.join, pm.joinOk, pm.pidx, pm.pidxOk, pm.shl, pm.shr, pm.shlOk, pm.shrOk, pm.orI, pm.andI, pm.orOk, pm.andOk]
include h35
theorem w18_esc {zs : List Int} (hf : f < s.length) (h3 : (atN s f).2.2 = false) (h4 : (atN s f).2.1 = 92) (h5 : (escN s f).2.2 = 0) (hl : zs.length + 1 ≤ 2199023255552) :
    tell M (head 0 rf18_a0) (exec M S Lp 0 rf18_b0 ⟨sV s :: iV f :: bads 5 ++ .ref 0 0 :: bads 69, [.arr 1 0 (false, 0) (zs.map rowI)], []⟩) =
      some (.normal, true, ⟨sV s :: iV (escN s f).2.1 :: bads 5 ++ .ref 0 0 :: bads 69, [.arr 1 0 (false, 0) ((zs ++ [(escN s f).1]).map rowI)], []⟩) := by
  have e33 := h33 hf
  have e35 := h35 hf
  have hl' : (zs.length + 1) * 8 ≤ 17592186044416 := by omega
  simp [hf, e33, e35, h3, h4, h5, hl', pieceV, fxApp, rowI, rf18_b0, exec, runOps, stepG, opRun, sv, strip, evalO, sV, iV, bV, bads, put, ROp.dst, ROp.quiet, guardOf, impAll, pvOf, pvOf?, callRun, callFn, prep, argOf, handOver, behind, takeBack, List.replicate, reachable, reach, addNew, idsOfs, idsOf, Blk.ids, rens, ren, renBlks, renBlk, layOld, layNew, posIn, AM.lent, tell, head, openAll, forget, tidy, List.range, List.range.loop, backR, backV, backId, backVer, toZero, verOf, cellsOf, widOk, mkAgg, splice, resOne, resAll, resVal, runFn, freeze, freezeAll, depth, allPV, isRow, lit?, eqNil, nilOp, flatL, flatLs, headVer, rowsOf, isRow, freezeRow, LV.sc, rowParts, buildParts, okAll, touch, meets, apart, apartAll, runDraw, argIds, rowIds, List.range', rowsWide, byteOf?, byteRow, pm.chk, pm.isB, pm.truth, pm.gd, pm.imp, pm.and, pm.pickT, pm.pickF, pm.not, pm.notOk, pm.len, pm.lenL, pm.lenOk, pm.lenOkL, pm.sidx, pm.sidxOk, pm.add, pm.sub, pm.mul, pm.quo, pm.rem, pm.eql, pm.neq, pm.lss, pm.leq, pm.gtr, pm.geq, pm.addOk, pm.subOk, pm.mulOk, pm.quoOk, pm.remOk, pm.eqlOk, pm.neqOk, pm.lssOk, pm.leqOk, pm.gtrOk, pm.geqOk, pm.seql, pm.sneq, pm.seqlOk, pm.sneqOk, pm.beql, pm.bneq, pm.beqlOk, pm.bneqOk, pm.conv, pm.convOk, pm.cut, pm.cutA, pm.cutOk, pm.cutAOk, pm.rowsOk, pm.rlen, pm.cell, pm.wid, pm.widGe, pm.repl, pm.replOk, pm.nat, pm.natOk, pm.rget, pm.rput, pm.sub2, pm.lidx, pm.lidxOk, pm.lim, pm.rapp, pm.rowsL, pm.rowsS, pm.rowsOkL, pm.str, pm.strOk, pm.flatI, pm.flatB, pm.flatS, pm.join, pm.joinOk, pm.pidx, pm.pidxOk, pm.shl, pm.shr, pm.shlOk, pm.shrOk, pm.orI, pm.andI, pm.orOk, pm.andOk]
theorem w18_escBad {zs : List Int} (hf : f < s.length) (h3 : (atN s f).2.2 = false) (h4 : (atN s f).2.1 = 92) (h5 : ¬ (escN s f).2.2 = 0) :
    tell M (head 0 ⟨[0, 4, 5, 6], [], [], []⟩) (exec M S Lp 0 rf18_b0 ⟨sV s :: iV f :: bads 5 ++ .ref 0 0 :: bads 69, [.arr 1 0 (false, 0) (zs.map rowI)], []⟩) =
      some (.ret, true, ⟨sV s :: bads 3 ++ sV [] :: iV f :: iV (escN s f).2.2 :: bads 70, [], []⟩) := by
  have e33 := h33 hf
  have e35 := h35 hf
  simp [hf, e33, e35, h3, h4, h5, pieceV, rf18_b0, exec, runOps, stepG, opRun, sv, strip, evalO, sV, iV, bV, bads, put, ROp.dst, ROp.quiet, guardOf, impAll, pvOf, pvOf?, callRun, callFn, prep, argOf, handOver, behind, takeBack, List.replicate, reachable, reach, addNew, idsOfs, idsOf, Blk.ids, rens, ren, renBlks, renBlk, layOld, layNew, posIn, AM.lent, tell, head, openAll, forget, tidy, List.range, List.range.loop, backR, backV, backId, backVer, toZero, verOf, cellsOf, widOk, mkAgg, splice, resOne, resAll, resVal, runFn, freeze, freezeAll, depth, allPV, isRow, lit?, eqNil, nilOp, flatL, flatLs, headVer, rowsOf, isRow, freezeRow, LV.sc, rowParts, buildParts, okAll, touch, meets, apart, apartAll, runDraw, argIds, rowIds, List.range', rowsWide, byteOf?, byteRow, pm.chk, pm.isB, pm.truth, pm.gd, pm.imp, pm.and, pm.pickT, pm.pickF, pm.not, pm.notOk, pm.len, pm.lenL, pm.lenOk, pm.lenOkL, pm.sidx, pm.sidxOk, pm.add, pm.sub, pm.mul, pm.quo, pm.rem, pm.eql, pm.neq, pm.lss, pm.leq, pm.gtr, pm.geq, pm.addOk, pm.subOk, pm.mulOk, pm.quoOk, pm.remOk, pm.eqlOk, pm.neqOk, pm.lssOk, pm.leqOk, pm.gtrOk, pm.geqOk, pm.seql, pm.sneq, pm.seqlOk, pm.sneqOk, pm.beql, pm.bneq, pm.beqlOk, pm.bneqOk, pm.conv, pm.convOk, pm.cut, pm.cutA, pm.cutOk, pm.cutAOk, pm.rowsOk, pm.rlen, pm.cell, pm.wid, pm.widGe, pm.repl, pm.replOk, pm.nat, pm.natOk, pm.rget, pm.rput, pm.sub2, pm.lidx, pm.lidxOk, pm.lim, pm.rapp, pm.rowsL, pm.rowsS, pm.rowsOkL, pm.str, pm.strOk, pm.flatI, pm.flatB, pm.flatS, pm.join, pm.joinOk, pm.pidx, pm.pidxOk, pm.shl, pm.shr, pm.shlOk, pm.shrOk, pm.orI, pm.andI, pm.orOk, pm.andOk]
omit h33 h35 in
theorem w18_end {zs : List Int} (hf : ¬ f < s.length) :
    tell M (head 0 ⟨[0, 4, 5, 6], [], [], []⟩) (exec M S Lp 0 rf18_b0 ⟨sV s :: iV f :: bads 5 ++ .ref 0 0 :: bads 69, [.arr 1 0 (false, 0) (zs.map rowI)], []⟩) =
      some (.exit 0, true, ⟨sV s :: bads 76, [], []⟩) := by
  simp [hf, rf18_b0, exec, runOps, stepG, opRun, sv, strip, evalO, sV, iV, bV, bads, put, ROp.dst, ROp.quiet, guardOf, impAll, pvOf, pvOf?, callRun, callFn, prep, argOf, handOver, behind, takeBack, List.replicate, reachable, reach, addNew, idsOfs, idsOf, Blk.ids, rens, ren, renBlks, renBlk, layOld, layNew, posIn, AM.lent, tell, head, openAll, forget, tidy, List.range, List.range.loop, backR, backV, backId, backVer, toZero, verOf, cellsOf, widOk, mkAgg, splice, resOne, resAll, resVal, runFn, freeze, freezeAll, depth, allPV, isRow, lit?, eqNil, nilOp, flatL, flatLs, headVer, rowsOf, isRow, freezeRow, LV.sc, rowParts, buildParts, okAll, touch, meets, apart, apartAll, runDraw, argIds, rowIds, List.range', rowsWide, byteOf?, byteRow, pm.chk, pm.isB, pm.truth, pm.gd, pm.imp, pm.and, pm.pickT, pm.pickF, pm.not, pm.notOk, pm.len, pm.lenL, pm.lenOk, pm.lenOkL, pm.sidx, pm.sidxOk, pm.add, pm.sub, pm.mul, pm.quo, pm.rem, pm.eql, pm.neq, pm.lss, pm.leq, pm.gtr, pm.geq, pm.addOk, pm.subOk, pm.mulOk, pm.quoOk, pm.remOk, pm.eqlOk, pm.neqOk, pm.lssOk, pm.leqOk, pm.gtrOk, pm.geqOk, pm.seql, pm.sneq, pm.seqlOk, pm.sneqOk, pm.beql, pm.bneq, pm.beqlOk, pm.bneqOk, pm.conv, pm.convOk, pm.cut, pm.cutA, pm.cutOk, pm.cutAOk, pm.rowsOk, pm.rlen, pm.cell, pm.wid, pm.widGe, pm.repl, pm.replOk, pm.nat, pm.natOk, pm.rget, pm.rput, pm.sub2, pm.lidx, pm.lidxOk, pm.lim, pm.rapp, pm.rowsL, pm.rowsS, pm.rowsOkL, pm.str, pm.strOk, pm.flatI, pm.flatB, pm.flatS, pm.join, pm.joinOk, pm.pidx, pm.pidxOk, pm.shl, pm.shr, pm.shlOk, pm.shrOk, pm.orI, pm.andI, pm.orOk, pm.andOk]
end
end
end AI.Tok
end

section
namespace AI.Tok
open Go AI

theorem wrap8 (z : Int) : 0 ≤ IntKind.u8.wrap z ∧ IntKind.u8.wrap z < 256 := by
  simp [IntKind.wrap, IntKind.bits, IntKind.signed]
  omega
theorem wrap8_id {z : Int} (h1 : 0 ≤ z) (h2 : z < 256) : IntKind.u8.wrap z = z := by
  simp [IntKind.wrap, IntKind.bits, IntKind.signed]
  omega
theorem byteOf_row {z : Int} (h1 : 0 ≤ z) (h2 : z < 256) : byteOf? (rowB z) = some (UInt8.ofNat z.toNat) := by
  simp [byteOf?, rowB, h1, h2]
theorem encZ_range (n : Int) : ∀ x ∈ encZ n, 0 ≤ x ∧ x < 256 := by
  intro x hx
  unfold encZ at hx
  split at hx <;> simp only [List.mem_cons, List.mem_nil_iff, or_false, encL, encB] at hx
  · subst hx; exact wrap8 _
  · rcases hx with rfl | rfl <;> exact wrap8 _
  · rcases hx with rfl | rfl | rfl <;> exact wrap8 _
  · rcases hx with rfl | rfl | rfl | rfl <;> exact wrap8 _
theorem strOk_enc (zs : List Int) : strOkR ((zs.flatMap encZ).map rowB) = true := by
  unfold strOkR
  rw [List.all_eq_true]
  intro r hr
  obtain ⟨x, hx, rfl⟩ := List.mem_map.1 hr
  obtain ⟨z, hz, hx⟩ := List.mem_flatMap.1 hx
  obtain ⟨h1, h2⟩ := encZ_range z x hx
  rw [byteOf_row h1 h2]; rfl

theorem hexN_range (c : UInt8) : -1 ≤ hexN c ∧ hexN c ≤ 15 := by
  unfold hexN
  split
  · omega
  · split
    · omega
    · split <;> omega
theorem hexFrom_range (s : List UInt8) : ∀ (k p : Nat) (n : Int), 0 ≤ n → (n + 1) * 16 ^ k ≤ 65536 → ∀ x, hexFrom s k p n = some x → 0 ≤ x ∧ x < (n + 1) * 16 ^ k
  | 0, p, n, h, hk, x, e => by simp [hexFrom] at e; subst e; simp; omega
  | k + 1, p, n, h, hk, x, e => by
    simp only [hexFrom] at e
    split at e
    · cases e
    rename_i hn
    obtain ⟨g1, g2⟩ := hexN_range (bt s p)
    have hp : 1 ≤ (16 : Int) ^ k := by
      have : (0 : Int) < 16 ^ k := Int.pow_pos (by decide)
      omega
    have h16 : (16 : Int) ^ (k + 1) = 16 * 16 ^ k := by rw [Int.pow_succ]; omega
    rw [h16] at hk ⊢
    have hb : (n + 1) * (16 * 16 ^ k) = (16 * n + 16) * 16 ^ k := by
      rw [← Int.mul_assoc]; congr 1; omega
    rw [hb] at hk ⊢
    have hn16 : 16 * n + 16 ≤ 65536 := by
      have : (16 * n + 16) * 1 ≤ (16 * n + 16) * 16 ^ k := Int.mul_le_mul_of_nonneg_left hp (by omega)
      omega
    have w1 : IntKind.i64.wrap (16 * n) = 16 * n := wrap64 (by omega) (by omega)
    have w2 : IntKind.i64.wrap (16 * n + hexN (bt s p)) = 16 * n + hexN (bt s p) := wrap64 (by omega) (by omega)
    rw [w1, w2] at e
    have hle : (16 * n + hexN (bt s p) + 1) * 16 ^ k ≤ (16 * n + 16) * 16 ^ k := Int.mul_le_mul_of_nonneg_right (by omega) (by omega)
    obtain ⟨q1, q2⟩ := hexFrom_range s k (p + 1) (16 * n + hexN (bt s p)) (by omega) (by omega) x e
    exact ⟨q1, by omega⟩
theorem numberedN_range (s : List UInt8) (f : Nat) : -1 ≤ numberedN s f ∧ numberedN s f ≤ 65535 := by
  unfold numberedN
  split
  · omega
  · split
    · omega
    · rename_i n h
      have := hexFrom_range s 4 (f + 2) 0 (by omega) (by decide) n h
      have h16 : ((0 : Int) + 1) * 16 ^ 4 = 65536 := by decide
      omega
theorem shortFrom_range (c : UInt8) : ∀ (k i : Nat), i + k ≤ 128 → -1 ≤ shortFrom c k i ∧ shortFrom c k i < 128
  | 0, i, _ => by simp [shortFrom]
  | k + 1, i, h => by
    simp only [shortFrom]
    split
    · omega
    · exact shortFrom_range c k (i + 1) (by omega)
theorem shortN_range (c : UInt8) : -1 ≤ shortN c ∧ shortN c < 128 := by
  unfold shortN
  split
  · omega
  · exact shortFrom_range c 128 0 (by omega)
theorem rune_iff {n : Int} : isRuneN n = true ↔ 0 ≤ n ∧ n ≤ 1114111 ∧ (n < 55296 ∨ 57343 < n) := by simp [isRuneN, and_assoc]

theorem pairN_eq {n low : Int} (h1 : 55296 ≤ n) (h2 : n < 56320) (h3 : 56320 ≤ low) (h4 : low ≤ 57343) : pairN n low = 65536 + (n - 55296) * 1024 + (low - 56320) := by
  unfold pairN
  rw [wrap64 (z := n - 55296) (by omega) (by omega), wrap64 (z := (n - 55296) * 1024) (by omega) (by omega), wrap64 (z := 65536 + (n - 55296) * 1024) (by omega) (by omega),
    wrap64 (z := 65536 + (n - 55296) * 1024 + low) (by omega) (by omega), wrap64 (by omega) (by omega)]
  omega
theorem escN_ok {s : List UInt8} {f : Nat} (h : (escN s f).2.2 = 0) : isRuneN (escN s f).1 = true ∧ f < (escN s f).2.1 ∧ (escN s f).2.1 ≤ f + 12 := by
  obtain ⟨r1, r2⟩ := numberedN_range s f
  unfold escN at h ⊢
  split
  · rename_i h1
    rw [if_pos h1] at h
    split
    · rename_i h2
      have := shortN_range (bt s (f + 1))
      exact ⟨rune_iff.2 ⟨h2.2.2, by omega, by omega⟩, by simp, by simp⟩
    · rename_i h2; rw [if_neg h2] at h; simp at h
  · rename_i h1
    rw [if_neg h1] at h
    split
    · rename_i h2
      exact ⟨rune_iff.2 ⟨by omega, by omega, h2⟩, by simp, by simp⟩
    · rename_i h2
      rw [if_neg h2] at h
      split
      · rename_i h3; rw [if_pos h3] at h; simp at h
      · rename_i h3
        simp only
        rw [pairN_eq (by omega) (by omega) (by omega) (by omega)]
        exact ⟨rune_iff.2 ⟨by omega, by omega, by omega⟩, by omega, by omega⟩
theorem atFrom_ok {s : List UInt8} {f : Nat} : ∀ (k z : Nat), 1 ≤ z → f < (atFrom s f k z).1 ∧ (atFrom s f k z).1 ≤ f + z + k ∧ isRuneN (atFrom s f k z).2.1 = true
  | 0, z, h => ⟨by simp [atFrom], by simp [atFrom]; omega, show isRuneN 65533 = true by decide⟩
  | k + 1, z, h => by
    simp only [atFrom]
    split
    · split
      · rename_i h2
        exact ⟨by simp; omega, by simp, spelled_rune h2.1⟩
      · obtain ⟨q1, q2, q3⟩ := atFrom_ok (s := s) (f := f) k (z + 1) (by omega)
        exact ⟨q1, by omega, q3⟩
    · exact ⟨by simp, by simp; omega, show isRuneN 65533 = true by decide⟩

/-- The reference's literal: its text, its end, its error. -/
def unqR (s : List UInt8) : Nat → Nat → List Int → List UInt8 × Nat × Int
  | 0, _, _ => ([], s.length, 21)
  | k + 1, f, zs =>
    if f < s.length then
      if (atN s f).2.1 = 34 then (textZ zs, (atN s f).1, 0)
      else if (atN s f).2.1 < 32 then ([], f, 22)
      else if (atN s f).2.2 = true then ([], f, 20)
      else if ¬ (atN s f).2.1 = 92 then unqR s k (atN s f).1 (zs ++ [(atN s f).2.1])
      else if ¬ (escN s f).2.2 = 0 then ([], f, (escN s f).2.2)
      else unqR s k (escN s f).2.1 (zs ++ [(escN s f).1])
    else ([], s.length, 21)
def unquoteN (s : List UInt8) (f : Nat) : List UInt8 × Nat × Int :=
  if (bt s f).toNat = 34 then unqR s (s.length + 1) (f + 1) [] else ([], f, 21)
end AI.Tok
end
