/-
  THE LAW: its loop, and the whole.
-/
import Derived.Test.YthkidjlemhgnfaaDoorTsS
set_option linter.unusedVariables false
set_option linter.unusedSimpArgs false
set_option linter.unusedSectionVars false
section
namespace AI.Tok
open Go AI
set_option maxRecDepth 100000
set_option maxHeartbeats 4000000
set_option linter.unusedSimpArgs false
set_option linter.unusedVariables false

def keep3 : List LV := .bad :: .bad :: .bad :: .ptr 0 0 :: .ptr 1 0 :: .ptr 2 0 :: .ptr 3 0 :: .bad :: .clo 10 [] [.ptr 4 0] :: .ptr 5 0 :: bads 88
def heap3 (s : List UInt8) (most e rd : Int) (l : Option Rows) : List Blk :=
  [.data [.pv (.int .i64 most)] 0, .data [.pv (.bool false)] 4, .data [arrL 6 l] 22, .data [.pv (.int .i64 e)] 23, .data [.pv (.str s)] 0, .data [.pv (.int .i64 rd)] 3] ++ arrB l
def lenL (l : Option Rows) : Nat := match l with | none => 0 | some r => r.length

section
variable {M : Prims} (pm : PM M) {S : SFn} {Lp : (St → St) → (St → Option (AI.Exit × St)) → St → Option (AI.Exit × St)} {N : Nat} {s : List UInt8} {most e rd : Int} {rows : Rows}
include pm
theorem w5 : runFn M S Lp rf5 [sV s] [] = some (.ret (.clo 10 [] [.ptr 0 0]), [.data [.pv (.str s)] 0]) := by
  simp [rf5, exec, runOps, stepG, opRun, sv, strip, evalO, sV, iV, bV, bads, put, ROp.dst, ROp.quiet, guardOf, impAll, pvOf, pvOf?, callRun, callFn, prep, argOf, handOver, behind, takeBack, List.replicate, reachable, reach, addNew, idsOfs, idsOf, Blk.ids, rens, ren, renBlks, renBlk, layOld, layNew, posIn, AM.lent, tell, head, openAll, forget, tidy, List.range, List.range.loop, backR, backV, backId, backVer, toZero, verOf, cellsOf, widOk, mkAgg, splice, resOne, resAll, resVal, runFn, freeze, freezeAll, depth, allPV, isRow, lit?, eqNil, nilOp, flatL, flatLs, headVer, rowsOf, isRow, freezeRow, LV.sc, rowParts, buildParts, okAll, touch, meets, apart, apartAll, runDraw, argIds, rowIds, List.range', rowsWide, byteOf?, byteRow, lendP, Nat.testBit_eq_decide_div_mod_eq, pm.chk, pm.isB, pm.truth, pm.gd, pm.imp, pm.and, pm.pickT, pm.pickF, pm.not, pm.notOk, pm.len, pm.lenL, pm.lenOk, pm.lenOkL, pm.sidx, pm.sidxOk, pm.add, pm.sub, pm.mul, pm.quo, pm.rem, pm.eql, pm.neq, pm.lss, pm.leq, pm.gtr, pm.geq, pm.addOk, pm.subOk, pm.mulOk, pm.quoOk, pm.remOk, pm.eqlOk, pm.neqOk, pm.lssOk, pm.leqOk, pm.gtrOk, pm.geqOk, pm.seql, pm.sneq, pm.seqlOk, pm.sneqOk, pm.beql, pm.bneq, pm.beqlOk, pm.bneqOk, pm.conv, pm.convOk, pm.cut, pm.cutA, pm.cutOk, pm.cutAOk, pm.rowsOk, pm.rlen, pm.cell, pm.wid, pm.widGe, pm.repl, pm.replOk, pm.nat, pm.natOk, pm.rget, pm.rput, pm.sub2, pm.lidx, pm.lidxOk, pm.lim, pm.rapp, pm.rowsL, pm.rowsS, pm.rowsOkL, pm.str, pm.strOk, pm.flatI, pm.flatB, pm.flatS, pm.join, pm.joinOk, pm.pidx, pm.pidxOk, pm.shl, pm.shr, pm.shlOk, pm.shrOk, pm.orI, pm.andI, pm.orOk, pm.andOk, pm.andNI, pm.andNOk]
theorem w11 : runFn M S Lp rf11 [] [] = some (.ret (.row takL), []) := by
  simp [rf11, takL, exec, runOps, stepG, opRun, sv, strip, evalO, sV, iV, bV, bads, put, ROp.dst, ROp.quiet, guardOf, impAll, pvOf, pvOf?, callRun, callFn, prep, argOf, handOver, behind, takeBack, List.replicate, reachable, reach, addNew, idsOfs, idsOf, Blk.ids, rens, ren, renBlks, renBlk, layOld, layNew, posIn, AM.lent, tell, head, openAll, forget, tidy, List.range, List.range.loop, backR, backV, backId, backVer, toZero, verOf, cellsOf, widOk, mkAgg, splice, resOne, resAll, resVal, runFn, freeze, freezeAll, depth, allPV, isRow, lit?, eqNil, nilOp, flatL, flatLs, headVer, rowsOf, isRow, freezeRow, LV.sc, rowParts, buildParts, okAll, touch, meets, apart, apartAll, runDraw, argIds, rowIds, List.range', rowsWide, byteOf?, byteRow, lendP, Nat.testBit_eq_decide_div_mod_eq, pm.chk, pm.isB, pm.truth, pm.gd, pm.imp, pm.and, pm.pickT, pm.pickF, pm.not, pm.notOk, pm.len, pm.lenL, pm.lenOk, pm.lenOkL, pm.sidx, pm.sidxOk, pm.add, pm.sub, pm.mul, pm.quo, pm.rem, pm.eql, pm.neq, pm.lss, pm.leq, pm.gtr, pm.geq, pm.addOk, pm.subOk, pm.mulOk, pm.quoOk, pm.remOk, pm.eqlOk, pm.neqOk, pm.lssOk, pm.leqOk, pm.gtrOk, pm.geqOk, pm.seql, pm.sneq, pm.seqlOk, pm.sneqOk, pm.beql, pm.bneq, pm.beqlOk, pm.bneqOk, pm.conv, pm.convOk, pm.cut, pm.cutA, pm.cutOk, pm.cutAOk, pm.rowsOk, pm.rlen, pm.cell, pm.wid, pm.widGe, pm.repl, pm.replOk, pm.nat, pm.natOk, pm.rget, pm.rput, pm.sub2, pm.lidx, pm.lidxOk, pm.lim, pm.rapp, pm.rowsL, pm.rowsS, pm.rowsOkL, pm.str, pm.strOk, pm.flatI, pm.flatB, pm.flatS, pm.join, pm.joinOk, pm.pidx, pm.pidxOk, pm.shl, pm.shr, pm.shlOk, pm.shrOk, pm.orI, pm.andI, pm.orOk, pm.andOk, pm.andNI, pm.andNOk]
theorem w6 {k : Int} {a e : Nat} {t : List UInt8} : runFn M S Lp rf6 [.prow (tokR k a e t), .prow (tokR k a e t)] [] = some (.ret (.pv (.bool true)), []) := by
  simp [rf6, tokR, exec, runOps, stepG, opRun, sv, strip, evalO, sV, iV, bV, bads, put, ROp.dst, ROp.quiet, guardOf, impAll, pvOf, pvOf?, callRun, callFn, prep, argOf, handOver, behind, takeBack, List.replicate, reachable, reach, addNew, idsOfs, idsOf, Blk.ids, rens, ren, renBlks, renBlk, layOld, layNew, posIn, AM.lent, tell, head, openAll, forget, tidy, List.range, List.range.loop, backR, backV, backId, backVer, toZero, verOf, cellsOf, widOk, mkAgg, splice, resOne, resAll, resVal, runFn, freeze, freezeAll, depth, allPV, isRow, lit?, eqNil, nilOp, flatL, flatLs, headVer, rowsOf, isRow, freezeRow, LV.sc, rowParts, buildParts, okAll, touch, meets, apart, apartAll, runDraw, argIds, rowIds, List.range', rowsWide, byteOf?, byteRow, lendP, Nat.testBit_eq_decide_div_mod_eq, pm.chk, pm.isB, pm.truth, pm.gd, pm.imp, pm.and, pm.pickT, pm.pickF, pm.not, pm.notOk, pm.len, pm.lenL, pm.lenOk, pm.lenOkL, pm.sidx, pm.sidxOk, pm.add, pm.sub, pm.mul, pm.quo, pm.rem, pm.eql, pm.neq, pm.lss, pm.leq, pm.gtr, pm.geq, pm.addOk, pm.subOk, pm.mulOk, pm.quoOk, pm.remOk, pm.eqlOk, pm.neqOk, pm.lssOk, pm.leqOk, pm.gtrOk, pm.geqOk, pm.seql, pm.sneq, pm.seqlOk, pm.sneqOk, pm.beql, pm.bneq, pm.beqlOk, pm.bneqOk, pm.conv, pm.convOk, pm.cut, pm.cutA, pm.cutOk, pm.cutAOk, pm.rowsOk, pm.rlen, pm.cell, pm.wid, pm.widGe, pm.repl, pm.replOk, pm.nat, pm.natOk, pm.rget, pm.rput, pm.sub2, pm.lidx, pm.lidxOk, pm.lim, pm.rapp, pm.rowsL, pm.rowsS, pm.rowsOkL, pm.str, pm.strOk, pm.flatI, pm.flatB, pm.flatS, pm.join, pm.joinOk, pm.pidx, pm.pidxOk, pm.shl, pm.shr, pm.shlOk, pm.shrOk, pm.orI, pm.andI, pm.orOk, pm.andOk, pm.andNI, pm.andNOk]

theorem w3_round (rows : Rows) {a : Nat} {p : Option Jump} (h0 : 0 ≤ rd) (h2 : rd < 2) (hl : rows.length ≤ 2097152)
    (h10 : S (.fn 10) [.yld 0, .ptr 1 0] (hGn s most e rd (some rows) 0 none) = some (.ret (.tup []), hGn s most e rd (some rows) a p))
    (hp : (p = none ∧ a = rows.length) ∨ (p = some (.exit 2) ∧ rd = 0 ∧ (a : Int) = most)) :
    tell M (head 0 rf3_a0) (exec M S Lp 0 rf3_b0 ⟨keep3, heap3 s most e rd (some rows), []⟩) = some (.normal, true, ⟨keep3, heap3 s most e (rd + 1) (some rows), []⟩) := by
  have hw : IntKind.i64.wrap (rd + 1) = rd + 1 := wrap64 (by omega) (by omega)
  have ho : handOver (heap3 s most e rd (some rows) ++ [atB 0, .loop (ltm 0 1 2 3 4 5 7 rd) [37, 38] rA rB none]) [.yld 8, .ptr 4 0] = ([8, 4, 0, 1, 2, 3, 5, 7, 6], [.yld 0, .ptr 1 0], hGn s most e rd (some rows) 0 none) := by kernel_rfl
  have tb : takeBack (heap3 s most e rd (some rows) ++ [atB 0, .loop (ltm 0 1 2 3 4 5 7 rd) [37, 38] rA rB none]) [8, 4, 0, 1, 2, 3, 5, 7, 6] (hGn s most e rd (some rows) a p) (.tup []) =
    (.tup [], heap3 s most e rd (some rows) ++ [atB a, .loop (ltm 0 1 2 3 4 5 7 rd) [37, 38] rA rB p]) := by kernel_rfl
  have td : tidy 0 [] (heap3 s most e rd (some rows) ++ [atB a, .dead, .data [.pv (.int .i64 (rd + 1))] 3]) (.bad :: .bad :: .bad :: .ptr 0 0 :: .ptr 1 0 :: .ptr 2 0 :: .ptr 3 0 :: .bad :: .clo 10 [] [.ptr 4 0] :: .ptr 9 0 :: bads 88) = (keep3, heap3 s most e (rd + 1) (some rows)) := by kernel_rfl
  have hlen : (hGn s most e rd (some rows) a p).length = 9 := rfl
  generalize hGn s most e rd (some rows) a p = H1 at *
  generalize hGn s most e rd (some rows) 0 none = H0 at *
  have bB : ∃ B, B = rB := ⟨_, rfl⟩
  obtain ⟨B, hB⟩ := bB
  have bA : ∃ A, A = rA := ⟨_, rfl⟩
  obtain ⟨A, hA⟩ := bA
  rw [b3_eq, b3, ← hB, ← hA]
  rw [← hB, ← hA] at ho tb
  clear hA hB
  simp only [heap3, keep3, ltm, atB, arrL, arrB, bads, List.replicate, List.cons_append, List.nil_append, Int.natCast_zero] at ho tb td
  rcases hp with ⟨rfl, rfl⟩ | ⟨rfl, hrd, hm⟩
  · simp [rf3_a0, heap3, keep3, arrL, arrB, ho, tb, td, h10, hlen, hw, h2, exec, runOps, stepG, opRun, sv, strip, evalO, sV, iV, bV, bads, put, ROp.dst, ROp.quiet, guardOf, impAll, pvOf, pvOf?, callRun, callFn, prep, argOf, behind, List.replicate, idsOfs, idsOf, AM.lent, tell, head, openAll, forget, List.range, List.range.loop, cellsOf, widOk, mkAgg, splice, resOne, resAll, resVal, runFn, freeze, freezeAll, depth, allPV, isRow, lit?, eqNil, nilOp, flatL, flatLs, rowsOf, isRow, freezeRow, LV.sc, rowParts, buildParts, okAll, touch, meets, apart, apartAll, runDraw, argIds, rowIds, List.range', rowsWide, byteOf?, byteRow, lendP, Nat.testBit_eq_decide_div_mod_eq, callYld, pm.chk, pm.isB, pm.truth, pm.gd, pm.imp, pm.and, pm.pickT, pm.pickF, pm.not, pm.notOk, pm.len, pm.lenL, pm.lenOk, pm.lenOkL, pm.sidx, pm.sidxOk, pm.add, pm.sub, pm.mul, pm.quo, pm.rem, pm.eql, pm.neq, pm.lss, pm.leq, pm.gtr, pm.geq, pm.addOk, pm.subOk, pm.mulOk, pm.quoOk, pm.remOk, pm.eqlOk, pm.neqOk, pm.lssOk, pm.leqOk, pm.gtrOk, pm.geqOk, pm.seql, pm.sneq, pm.seqlOk, pm.sneqOk, pm.beql, pm.bneq, pm.beqlOk, pm.bneqOk, pm.conv, pm.convOk, pm.cut, pm.cutA, pm.cutOk, pm.cutAOk, pm.rowsOk, pm.rlen, pm.cell, pm.wid, pm.widGe, pm.repl, pm.replOk, pm.nat, pm.natOk, pm.rget, pm.rput, pm.sub2, pm.lidx, pm.lidxOk, pm.lim, pm.rapp, pm.rowsL, pm.rowsS, pm.rowsOkL, pm.str, pm.strOk, pm.flatI, pm.flatB, pm.flatS, pm.join, pm.joinOk, pm.pidx, pm.pidxOk, pm.shl, pm.shr, pm.shlOk, pm.shrOk, pm.orI, pm.andI, pm.orOk, pm.andOk, pm.andNI, pm.andNOk]
  · have hrd' : decide (rd = 0) = true := decide_eq_true hrd
    have hm' : decide ((a : Int) = most) = true := decide_eq_true hm
    by_cases hr' : a = rows.length
    · subst hr'
      simp [rf3_a0, heap3, keep3, arrL, arrB, ho, tb, td, h10, hlen, hw, h2, exec, runOps, stepG, opRun, sv, strip, evalO, sV, iV, bV, bads, put, ROp.dst, ROp.quiet, guardOf, impAll, pvOf, pvOf?, callRun, callFn, prep, argOf, behind, List.replicate, idsOfs, idsOf, AM.lent, tell, head, openAll, forget, List.range, List.range.loop, cellsOf, widOk, mkAgg, splice, resOne, resAll, resVal, runFn, freeze, freezeAll, depth, allPV, isRow, lit?, eqNil, nilOp, flatL, flatLs, rowsOf, isRow, freezeRow, LV.sc, rowParts, buildParts, okAll, touch, meets, apart, apartAll, runDraw, argIds, rowIds, List.range', rowsWide, byteOf?, byteRow, lendP, Nat.testBit_eq_decide_div_mod_eq, callYld, pm.chk, pm.isB, pm.truth, pm.gd, pm.imp, pm.and, pm.pickT, pm.pickF, pm.not, pm.notOk, pm.len, pm.lenL, pm.lenOk, pm.lenOkL, pm.sidx, pm.sidxOk, pm.add, pm.sub, pm.mul, pm.quo, pm.rem, pm.eql, pm.neq, pm.lss, pm.leq, pm.gtr, pm.geq, pm.addOk, pm.subOk, pm.mulOk, pm.quoOk, pm.remOk, pm.eqlOk, pm.neqOk, pm.lssOk, pm.leqOk, pm.gtrOk, pm.geqOk, pm.seql, pm.sneq, pm.seqlOk, pm.sneqOk, pm.beql, pm.bneq, pm.beqlOk, pm.bneqOk, pm.conv, pm.convOk, pm.cut, pm.cutA, pm.cutOk, pm.cutAOk, pm.rowsOk, pm.rlen, pm.cell, pm.wid, pm.widGe, pm.repl, pm.replOk, pm.nat, pm.natOk, pm.rget, pm.rput, pm.sub2, pm.lidx, pm.lidxOk, pm.lim, pm.rapp, pm.rowsL, pm.rowsS, pm.rowsOkL, pm.str, pm.strOk, pm.flatI, pm.flatB, pm.flatS, pm.join, pm.joinOk, pm.pidx, pm.pidxOk, pm.shl, pm.shr, pm.shlOk, pm.shrOk, pm.orI, pm.andI, pm.orOk, pm.andOk, pm.andNI, pm.andNOk]
    · have hrc : decide ((a : Int) = (rows.length : Int)) = false := decide_eq_false (by omega)
      simp [rf3_a0, heap3, keep3, arrL, arrB, ho, tb, td, h10, hlen, hw, h2, hrc, hm', hrd', exec, runOps, stepG, opRun, sv, strip, evalO, sV, iV, bV, bads, put, ROp.dst, ROp.quiet, guardOf, impAll, pvOf, pvOf?, callRun, callFn, prep, argOf, behind, List.replicate, idsOfs, idsOf, AM.lent, tell, head, openAll, forget, List.range, List.range.loop, cellsOf, widOk, mkAgg, splice, resOne, resAll, resVal, runFn, freeze, freezeAll, depth, allPV, isRow, lit?, eqNil, nilOp, flatL, flatLs, rowsOf, isRow, freezeRow, LV.sc, rowParts, buildParts, okAll, touch, meets, apart, apartAll, runDraw, argIds, rowIds, List.range', rowsWide, byteOf?, byteRow, lendP, Nat.testBit_eq_decide_div_mod_eq, callYld, pm.chk, pm.isB, pm.truth, pm.gd, pm.imp, pm.and, pm.pickT, pm.pickF, pm.not, pm.notOk, pm.len, pm.lenL, pm.lenOk, pm.lenOkL, pm.sidx, pm.sidxOk, pm.add, pm.sub, pm.mul, pm.quo, pm.rem, pm.eql, pm.neq, pm.lss, pm.leq, pm.gtr, pm.geq, pm.addOk, pm.subOk, pm.mulOk, pm.quoOk, pm.remOk, pm.eqlOk, pm.neqOk, pm.lssOk, pm.leqOk, pm.gtrOk, pm.geqOk, pm.seql, pm.sneq, pm.seqlOk, pm.sneqOk, pm.beql, pm.bneq, pm.beqlOk, pm.bneqOk, pm.conv, pm.convOk, pm.cut, pm.cutA, pm.cutOk, pm.cutAOk, pm.rowsOk, pm.rlen, pm.cell, pm.wid, pm.widGe, pm.repl, pm.replOk, pm.nat, pm.natOk, pm.rget, pm.rput, pm.sub2, pm.lidx, pm.lidxOk, pm.lim, pm.rapp, pm.rowsL, pm.rowsS, pm.rowsOkL, pm.str, pm.strOk, pm.flatI, pm.flatB, pm.flatS, pm.join, pm.joinOk, pm.pidx, pm.pidxOk, pm.shl, pm.shr, pm.shlOk, pm.shrOk, pm.orI, pm.andI, pm.orOk, pm.andOk, pm.andNI, pm.andNOk]
theorem w3_roundN {a : Nat} {p : Option Jump} (h0 : 0 ≤ rd) (h2 : rd < 2)
    (h10 : S (.fn 10) [.yld 0, .ptr 1 0] (hGn s most e rd none 0 none) = some (.ret (.tup []), hGn s most e rd none a p))
    (hp : (p = none ∧ a = 0) ∨ (p = some (.exit 2) ∧ rd = 0 ∧ (a : Int) = most)) :
    tell M (head 0 rf3_a0) (exec M S Lp 0 rf3_b0 ⟨keep3, heap3 s most e rd none, []⟩) = some (.normal, true, ⟨keep3, heap3 s most e (rd + 1) none, []⟩) := by
  have hw : IntKind.i64.wrap (rd + 1) = rd + 1 := wrap64 (by omega) (by omega)
  have ho : handOver (heap3 s most e rd none ++ [atB 0, .loop (ltm 0 1 2 3 4 5 6 rd) [37, 38] rA rB none]) [.yld 7, .ptr 4 0] = ([7, 4, 0, 1, 2, 3, 5, 6], [.yld 0, .ptr 1 0], hGn s most e rd none 0 none) := by kernel_rfl
  have tb : takeBack (heap3 s most e rd none ++ [atB 0, .loop (ltm 0 1 2 3 4 5 6 rd) [37, 38] rA rB none]) [7, 4, 0, 1, 2, 3, 5, 6] (hGn s most e rd none a p) (.tup []) =
    (.tup [], heap3 s most e rd none ++ [atB a, .loop (ltm 0 1 2 3 4 5 6 rd) [37, 38] rA rB p]) := by kernel_rfl
  have td : tidy 0 [] (heap3 s most e rd none ++ [atB a, .dead, .data [.pv (.int .i64 (rd + 1))] 3]) (.bad :: .bad :: .bad :: .ptr 0 0 :: .ptr 1 0 :: .ptr 2 0 :: .ptr 3 0 :: .bad :: .clo 10 [] [.ptr 4 0] :: .ptr 8 0 :: bads 88) = (keep3, heap3 s most e (rd + 1) none) := by kernel_rfl
  have hlen : (hGn s most e rd none a p).length = 8 := rfl
  generalize hGn s most e rd none a p = H1 at *
  generalize hGn s most e rd none 0 none = H0 at *
  have bB : ∃ B, B = rB := ⟨_, rfl⟩
  obtain ⟨B, hB⟩ := bB
  have bA : ∃ A, A = rA := ⟨_, rfl⟩
  obtain ⟨A, hA⟩ := bA
  rw [b3_eq, b3, ← hB, ← hA]
  rw [← hB, ← hA] at ho tb
  clear hA hB
  simp only [heap3, keep3, ltm, atB, arrL, arrB, bads, List.replicate, List.cons_append, List.nil_append, Int.natCast_zero] at ho tb td
  rcases hp with ⟨rfl, rfl⟩ | ⟨rfl, hrd, hm⟩
  · simp only [Int.natCast_zero] at tb td
    simp [rf3_a0, heap3, keep3, arrL, arrB, ho, tb, td, h10, hlen, hw, h2, exec, runOps, stepG, opRun, sv, strip, evalO, sV, iV, bV, bads, put, ROp.dst, ROp.quiet, guardOf, impAll, pvOf, pvOf?, callRun, callFn, prep, argOf, behind, List.replicate, idsOfs, idsOf, AM.lent, tell, head, openAll, forget, List.range, List.range.loop, cellsOf, widOk, mkAgg, splice, resOne, resAll, resVal, runFn, freeze, freezeAll, depth, allPV, isRow, lit?, eqNil, nilOp, flatL, flatLs, rowsOf, isRow, freezeRow, LV.sc, rowParts, buildParts, okAll, touch, meets, apart, apartAll, runDraw, argIds, rowIds, List.range', rowsWide, byteOf?, byteRow, lendP, Nat.testBit_eq_decide_div_mod_eq, callYld, pm.chk, pm.isB, pm.truth, pm.gd, pm.imp, pm.and, pm.pickT, pm.pickF, pm.not, pm.notOk, pm.len, pm.lenL, pm.lenOk, pm.lenOkL, pm.sidx, pm.sidxOk, pm.add, pm.sub, pm.mul, pm.quo, pm.rem, pm.eql, pm.neq, pm.lss, pm.leq, pm.gtr, pm.geq, pm.addOk, pm.subOk, pm.mulOk, pm.quoOk, pm.remOk, pm.eqlOk, pm.neqOk, pm.lssOk, pm.leqOk, pm.gtrOk, pm.geqOk, pm.seql, pm.sneq, pm.seqlOk, pm.sneqOk, pm.beql, pm.bneq, pm.beqlOk, pm.bneqOk, pm.conv, pm.convOk, pm.cut, pm.cutA, pm.cutOk, pm.cutAOk, pm.rowsOk, pm.rlen, pm.cell, pm.wid, pm.widGe, pm.repl, pm.replOk, pm.nat, pm.natOk, pm.rget, pm.rput, pm.sub2, pm.lidx, pm.lidxOk, pm.lim, pm.rapp, pm.rowsL, pm.rowsS, pm.rowsOkL, pm.str, pm.strOk, pm.flatI, pm.flatB, pm.flatS, pm.join, pm.joinOk, pm.pidx, pm.pidxOk, pm.shl, pm.shr, pm.shlOk, pm.shrOk, pm.orI, pm.andI, pm.orOk, pm.andOk, pm.andNI, pm.andNOk]
  · have hrd' : decide (rd = 0) = true := decide_eq_true hrd
    have hm' : decide ((a : Int) = most) = true := decide_eq_true hm
    by_cases hr' : a = 0
    · subst hr'
      simp only [Int.natCast_zero] at tb td hm
      simp [rf3_a0, heap3, keep3, arrL, arrB, ho, tb, td, h10, hlen, hw, h2, exec, runOps, stepG, opRun, sv, strip, evalO, sV, iV, bV, bads, put, ROp.dst, ROp.quiet, guardOf, impAll, pvOf, pvOf?, callRun, callFn, prep, argOf, behind, List.replicate, idsOfs, idsOf, AM.lent, tell, head, openAll, forget, List.range, List.range.loop, cellsOf, widOk, mkAgg, splice, resOne, resAll, resVal, runFn, freeze, freezeAll, depth, allPV, isRow, lit?, eqNil, nilOp, flatL, flatLs, rowsOf, isRow, freezeRow, LV.sc, rowParts, buildParts, okAll, touch, meets, apart, apartAll, runDraw, argIds, rowIds, List.range', rowsWide, byteOf?, byteRow, lendP, Nat.testBit_eq_decide_div_mod_eq, callYld, pm.chk, pm.isB, pm.truth, pm.gd, pm.imp, pm.and, pm.pickT, pm.pickF, pm.not, pm.notOk, pm.len, pm.lenL, pm.lenOk, pm.lenOkL, pm.sidx, pm.sidxOk, pm.add, pm.sub, pm.mul, pm.quo, pm.rem, pm.eql, pm.neq, pm.lss, pm.leq, pm.gtr, pm.geq, pm.addOk, pm.subOk, pm.mulOk, pm.quoOk, pm.remOk, pm.eqlOk, pm.neqOk, pm.lssOk, pm.leqOk, pm.gtrOk, pm.geqOk, pm.seql, pm.sneq, pm.seqlOk, pm.sneqOk, pm.beql, pm.bneq, pm.beqlOk, pm.bneqOk, pm.conv, pm.convOk, pm.cut, pm.cutA, pm.cutOk, pm.cutAOk, pm.rowsOk, pm.rlen, pm.cell, pm.wid, pm.widGe, pm.repl, pm.replOk, pm.nat, pm.natOk, pm.rget, pm.rput, pm.sub2, pm.lidx, pm.lidxOk, pm.lim, pm.rapp, pm.rowsL, pm.rowsS, pm.rowsOkL, pm.str, pm.strOk, pm.flatI, pm.flatB, pm.flatS, pm.join, pm.joinOk, pm.pidx, pm.pidxOk, pm.shl, pm.shr, pm.shlOk, pm.shrOk, pm.orI, pm.andI, pm.orOk, pm.andOk, pm.andNI, pm.andNOk]
    · simp [rf3_a0, heap3, keep3, arrL, arrB, ho, tb, td, h10, hlen, hw, h2, hr', hm', hrd', exec, runOps, stepG, opRun, sv, strip, evalO, sV, iV, bV, bads, put, ROp.dst, ROp.quiet, guardOf, impAll, pvOf, pvOf?, callRun, callFn, prep, argOf, behind, List.replicate, idsOfs, idsOf, AM.lent, tell, head, openAll, forget, List.range, List.range.loop, cellsOf, widOk, mkAgg, splice, resOne, resAll, resVal, runFn, freeze, freezeAll, depth, allPV, isRow, lit?, eqNil, nilOp, flatL, flatLs, rowsOf, isRow, freezeRow, LV.sc, rowParts, buildParts, okAll, touch, meets, apart, apartAll, runDraw, argIds, rowIds, List.range', rowsWide, byteOf?, byteRow, lendP, Nat.testBit_eq_decide_div_mod_eq, callYld, pm.chk, pm.isB, pm.truth, pm.gd, pm.imp, pm.and, pm.pickT, pm.pickF, pm.not, pm.notOk, pm.len, pm.lenL, pm.lenOk, pm.lenOkL, pm.sidx, pm.sidxOk, pm.add, pm.sub, pm.mul, pm.quo, pm.rem, pm.eql, pm.neq, pm.lss, pm.leq, pm.gtr, pm.geq, pm.addOk, pm.subOk, pm.mulOk, pm.quoOk, pm.remOk, pm.eqlOk, pm.neqOk, pm.lssOk, pm.leqOk, pm.gtrOk, pm.geqOk, pm.seql, pm.sneq, pm.seqlOk, pm.sneqOk, pm.beql, pm.bneq, pm.beqlOk, pm.bneqOk, pm.conv, pm.convOk, pm.cut, pm.cutA, pm.cutOk, pm.cutAOk, pm.rowsOk, pm.rlen, pm.cell, pm.wid, pm.widGe, pm.repl, pm.replOk, pm.nat, pm.natOk, pm.rget, pm.rput, pm.sub2, pm.lidx, pm.lidxOk, pm.lim, pm.rapp, pm.rowsL, pm.rowsS, pm.rowsOkL, pm.str, pm.strOk, pm.flatI, pm.flatB, pm.flatS, pm.join, pm.joinOk, pm.pidx, pm.pidxOk, pm.shl, pm.shr, pm.shlOk, pm.shrOk, pm.orI, pm.andI, pm.orOk, pm.andOk, pm.andNI, pm.andNOk]
omit pm in
theorem lt22 : decide ((2 : Int) < 2) = false := by decide
theorem w3_end {L : Option Rows} : tell M (head 0 ⟨[4], [], [], []⟩) (exec M S Lp 0 rf3_b0 ⟨keep3, heap3 s most e 2 L, []⟩) = some (.exit 0, true, ⟨bads 4 ++ .ptr 0 0 :: bads 93, [.data [.pv (.bool false)] 4], []⟩) := by
  have td : tidy 0 [] (heap3 s most e 2 L) (.bad :: .bad :: .bad :: .bad :: .ptr 1 0 :: bads 93) = (bads 4 ++ .ptr 0 0 :: bads 93, [.data [.pv (.bool false)] 4]) := by
    cases L <;> kernel_rfl
  have bB : ∃ B, B = rB := ⟨_, rfl⟩
  obtain ⟨B, hB⟩ := bB
  have bA : ∃ A, A = rA := ⟨_, rfl⟩
  obtain ⟨A, hA⟩ := bA
  rw [b3_eq, b3, ← hB, ← hA]
  clear hA hB
  cases L <;> simp only [heap3, keep3, arrL, arrB, bads, List.replicate, List.cons_append, List.nil_append, List.append_nil] at td <;>
  simp [rf3_a0, heap3, keep3, arrL, arrB, td, exec, runOps, stepG, opRun, sv, strip, evalO, sV, iV, bV, bads, put, ROp.dst, ROp.quiet, guardOf, impAll, pvOf, pvOf?, callRun, callFn, prep, argOf, behind, List.replicate, idsOfs, idsOf, AM.lent, tell, head, openAll, forget, List.range, List.range.loop, cellsOf, widOk, mkAgg, splice, resOne, resAll, resVal, runFn, freeze, freezeAll, depth, allPV, isRow, lit?, eqNil, nilOp, flatL, flatLs, rowsOf, isRow, freezeRow, LV.sc, rowParts, buildParts, okAll, touch, meets, apart, apartAll, runDraw, argIds, rowIds, List.range', rowsWide, byteOf?, byteRow, lendP, Nat.testBit_eq_decide_div_mod_eq, callYld, pm.chk, pm.isB, pm.truth, pm.gd, pm.imp, pm.and, pm.pickT, pm.pickF, pm.not, pm.notOk, pm.len, pm.lenL, pm.lenOk, pm.lenOkL, pm.sidx, pm.sidxOk, pm.add, pm.sub, pm.mul, pm.quo, pm.rem, pm.eql, pm.neq, pm.lss, pm.leq, pm.gtr, pm.geq, pm.addOk, pm.subOk, pm.mulOk, pm.quoOk, pm.remOk, pm.eqlOk, pm.neqOk, pm.lssOk, pm.leqOk, pm.gtrOk, pm.geqOk, pm.seql, pm.sneq, pm.seqlOk, pm.sneqOk, pm.beql, pm.bneq, pm.beqlOk, pm.bneqOk, pm.conv, pm.convOk, pm.cut, pm.cutA, pm.cutOk, pm.cutAOk, pm.rowsOk, pm.rlen, pm.cell, pm.wid, pm.widGe, pm.repl, pm.replOk, pm.nat, pm.natOk, pm.rget, pm.rput, pm.sub2, pm.lidx, pm.lidxOk, pm.lim, pm.rapp, pm.rowsL, pm.rowsS, pm.rowsOkL, pm.str, pm.strOk, pm.flatI, pm.flatB, pm.flatS, pm.join, pm.joinOk, pm.pidx, pm.pidxOk, pm.shl, pm.shr, pm.shlOk, pm.shrOk, pm.orI, pm.andI, pm.orOk, pm.andOk, pm.andNI, pm.andNOk]
theorem w3_loop {L : Option Rows} (hN : 10 < N) (hr : ∀ rd : Int, 0 ≤ rd → rd < 2 → tell M (head 0 rf3_a0) (exec M S Lp 0 rf3_b0 ⟨keep3, heap3 s most e rd L, []⟩) = some (.normal, true, ⟨keep3, heap3 s most e (rd + 1) L, []⟩)) :
    outOf (head 0 ⟨[4], [], [], []⟩) (loopAt M N (head 0 rf3_a0) (exec M S Lp 0 rf3_b0) ⟨keep3, heap3 s most e 0 L, []⟩) = some (.exit 0, ⟨bads 4 ++ .ptr 0 0 :: bads 93, [.data [.pv (.bool false)] 4], []⟩) := by
  match N, hN with
  | N + 3, _ => exact loop_next (hr 0 (by decide) (by decide)) (loop_next (hr 1 (by decide) (by decide)) (loop_out (w3_end pm) (by simp) (fun _ _ => head_oks _ _)))

/-- What the law compares with. -/
def wantL (ws : List (Row × Int)) : Option Rows := match ws with
  | [] => none
  | ws => some (ws.map (·.1))
omit pm in
theorem map_fst (l : List Row) : (l.map (fun t => (t, (0 : Int)))).map (·.1) = l := by
  induction l with
  | nil => rfl
  | cons x y ih => simp only [List.map_cons, ih]
omit pm in
theorem wantL0 (x : Row) (y : List Row) (p : Nat) : wantL (items (x :: y, 0, p)) = some (x :: y) := by
  simp only [items, if_pos, List.append_nil]
  show some (((x :: y).map (fun t => (t, (0 : Int)))).map (·.1)) = _
  rw [map_fst]
omit pm in
theorem wantL1 {e : Int} (he : ¬ e = 0) (l : List Row) (p : Nat) : wantL (items (l, e, p)) = some (l ++ [tokR 0 p 0 []]) := by
  have : items (l, e, p) = l.map (fun t => (t, (0 : Int))) ++ [(tokR 0 p 0 [], e)] := by simp [items, he]
  have h2 : wantL (items (l, e, p)) = some ((items (l, e, p)).map (·.1)) := by
    rw [this]
    cases l <;> rfl
  rw [h2, this, List.map_append, map_fst]; rfl
theorem w3 {l : List Row} {p : Nat} (hl : l.length + 1 ≤ 2097152)
    (h4 : S (.fn 4) [.pv (.str s)] [] = some (.ret (.tup [(toksV l).1, .pv (.int .i64 e), .pv (.int .i64 p)]), (toksV l).2))
    (h5 : S (.fn 5) [.pv (.str s)] [] = some (.ret (.clo 10 [] [.ptr 0 0]), [.data [.pv (.str s)] 0]))
    (h7 : S (.fn 7) [] [] = some (.ret (.pv (.bool true)), []))
    (hlp : outOf (head 0 ⟨[4], [], [], []⟩) (Lp (head 0 rf3_a0) (exec M S Lp 0 rf3_b0) ⟨keep3, heap3 s most e 0 (wantL (items (l, e, p))), []⟩) = some (.exit 0, ⟨bads 4 ++ .ptr 0 0 :: bads 93, [.data [.pv (.bool false)] 4], []⟩)) :
    runFn M S Lp rf3 [sV s, .pv (.int .i64 most)] [] = some (.ret (.pv (.bool true)), []) := by
  have bB : ∃ B, B = rf3_b0 := ⟨_, rfl⟩
  obtain ⟨B, hB⟩ := bB
  rw [rf3]
  rw [← hB] at hlp ⊢
  clear hB
  by_cases he : e = 0
  · subst he
    cases l with
    | nil =>
      simp only [items, wantL, heap3, keep3, arrL, arrB, toksV, tokR, bads, List.replicate, List.cons_append, List.nil_append, List.append_nil, List.map_nil, List.map_cons, List.map_append, if_pos, if_true] at h4 hlp
      simp [h4, h5, h7, hlp, exec, runOps, stepG, opRun, sv, strip, evalO, sV, iV, bV, bads, put, ROp.dst, ROp.quiet, guardOf, impAll, pvOf, pvOf?, callRun, callFn, prep, argOf, handOver, behind, takeBack, List.replicate, reachable, reach, addNew, idsOfs, idsOf, Blk.ids, rens, ren, renBlks, renBlk, layOld, layNew, posIn, AM.lent, tell, head, openAll, forget, tidy, List.range, List.range.loop, backR, backV, backId, backVer, toZero, verOf, cellsOf, widOk, mkAgg, splice, resOne, resAll, resVal, runFn, freeze, freezeAll, depth, allPV, isRow, lit?, eqNil, nilOp, flatL, flatLs, headVer, rowsOf, isRow, freezeRow, LV.sc, rowParts, buildParts, okAll, touch, meets, apart, apartAll, runDraw, argIds, rowIds, List.range', rowsWide, byteOf?, byteRow, lendP, Nat.testBit_eq_decide_div_mod_eq, pm.chk, pm.isB, pm.truth, pm.gd, pm.imp, pm.and, pm.pickT, pm.pickF, pm.not, pm.notOk, pm.len, pm.lenL, pm.lenOk, pm.lenOkL, pm.sidx, pm.sidxOk, pm.add, pm.sub, pm.mul, pm.quo, pm.rem, pm.eql, pm.neq, pm.lss, pm.leq, pm.gtr, pm.geq, pm.addOk, pm.subOk, pm.mulOk, pm.quoOk, pm.remOk, pm.eqlOk, pm.neqOk, pm.lssOk, pm.leqOk, pm.gtrOk, pm.geqOk, pm.seql, pm.sneq, pm.seqlOk, pm.sneqOk, pm.beql, pm.bneq, pm.beqlOk, pm.bneqOk, pm.conv, pm.convOk, pm.cut, pm.cutA, pm.cutOk, pm.cutAOk, pm.rowsOk, pm.rlen, pm.cell, pm.wid, pm.widGe, pm.repl, pm.replOk, pm.nat, pm.natOk, pm.rget, pm.rput, pm.sub2, pm.lidx, pm.lidxOk, pm.lim, pm.rapp, pm.rowsL, pm.rowsS, pm.rowsOkL, pm.str, pm.strOk, pm.flatI, pm.flatB, pm.flatS, pm.join, pm.joinOk, pm.pidx, pm.pidxOk, pm.shl, pm.shr, pm.shlOk, pm.shrOk, pm.orI, pm.andI, pm.orOk, pm.andOk, pm.andNI, pm.andNOk]
    | cons x y =>
      rw [wantL0] at hlp
      simp only [heap3, keep3, arrL, arrB, toksV, bads, List.replicate, List.cons_append, List.nil_append] at h4 hlp
      simp [h4, h5, h7, hlp, exec, runOps, stepG, opRun, sv, strip, evalO, sV, iV, bV, bads, put, ROp.dst, ROp.quiet, guardOf, impAll, pvOf, pvOf?, callRun, callFn, prep, argOf, handOver, behind, takeBack, List.replicate, reachable, reach, addNew, idsOfs, idsOf, Blk.ids, rens, ren, renBlks, renBlk, layOld, layNew, posIn, AM.lent, tell, head, openAll, forget, tidy, List.range, List.range.loop, backR, backV, backId, backVer, toZero, verOf, cellsOf, widOk, mkAgg, splice, resOne, resAll, resVal, runFn, freeze, freezeAll, depth, allPV, isRow, lit?, eqNil, nilOp, flatL, flatLs, headVer, rowsOf, isRow, freezeRow, LV.sc, rowParts, buildParts, okAll, touch, meets, apart, apartAll, runDraw, argIds, rowIds, List.range', rowsWide, byteOf?, byteRow, lendP, Nat.testBit_eq_decide_div_mod_eq, pm.chk, pm.isB, pm.truth, pm.gd, pm.imp, pm.and, pm.pickT, pm.pickF, pm.not, pm.notOk, pm.len, pm.lenL, pm.lenOk, pm.lenOkL, pm.sidx, pm.sidxOk, pm.add, pm.sub, pm.mul, pm.quo, pm.rem, pm.eql, pm.neq, pm.lss, pm.leq, pm.gtr, pm.geq, pm.addOk, pm.subOk, pm.mulOk, pm.quoOk, pm.remOk, pm.eqlOk, pm.neqOk, pm.lssOk, pm.leqOk, pm.gtrOk, pm.geqOk, pm.seql, pm.sneq, pm.seqlOk, pm.sneqOk, pm.beql, pm.bneq, pm.beqlOk, pm.bneqOk, pm.conv, pm.convOk, pm.cut, pm.cutA, pm.cutOk, pm.cutAOk, pm.rowsOk, pm.rlen, pm.cell, pm.wid, pm.widGe, pm.repl, pm.replOk, pm.nat, pm.natOk, pm.rget, pm.rput, pm.sub2, pm.lidx, pm.lidxOk, pm.lim, pm.rapp, pm.rowsL, pm.rowsS, pm.rowsOkL, pm.str, pm.strOk, pm.flatI, pm.flatB, pm.flatS, pm.join, pm.joinOk, pm.pidx, pm.pidxOk, pm.shl, pm.shr, pm.shlOk, pm.shrOk, pm.orI, pm.andI, pm.orOk, pm.andOk, pm.andNI, pm.andNOk]
  · rw [wantL1 he] at hlp
    cases l with
    | nil =>
      simp only [heap3, keep3, arrL, arrB, toksV, tokR, bads, List.replicate, List.cons_append, List.nil_append, Int.natCast_zero] at h4 hlp
      simp [h4, h5, h7, hlp, he, fxApp, exec, runOps, stepG, opRun, sv, strip, evalO, sV, iV, bV, bads, put, ROp.dst, ROp.quiet, guardOf, impAll, pvOf, pvOf?, callRun, callFn, prep, argOf, handOver, behind, takeBack, List.replicate, reachable, reach, addNew, idsOfs, idsOf, Blk.ids, rens, ren, renBlks, renBlk, layOld, layNew, posIn, AM.lent, tell, head, openAll, forget, tidy, List.range, List.range.loop, backR, backV, backId, backVer, toZero, verOf, cellsOf, widOk, mkAgg, splice, resOne, resAll, resVal, runFn, freeze, freezeAll, depth, allPV, isRow, lit?, eqNil, nilOp, flatL, flatLs, headVer, rowsOf, isRow, freezeRow, LV.sc, rowParts, buildParts, okAll, touch, meets, apart, apartAll, runDraw, argIds, rowIds, List.range', rowsWide, byteOf?, byteRow, lendP, Nat.testBit_eq_decide_div_mod_eq, pm.chk, pm.isB, pm.truth, pm.gd, pm.imp, pm.and, pm.pickT, pm.pickF, pm.not, pm.notOk, pm.len, pm.lenL, pm.lenOk, pm.lenOkL, pm.sidx, pm.sidxOk, pm.add, pm.sub, pm.mul, pm.quo, pm.rem, pm.eql, pm.neq, pm.lss, pm.leq, pm.gtr, pm.geq, pm.addOk, pm.subOk, pm.mulOk, pm.quoOk, pm.remOk, pm.eqlOk, pm.neqOk, pm.lssOk, pm.leqOk, pm.gtrOk, pm.geqOk, pm.seql, pm.sneq, pm.seqlOk, pm.sneqOk, pm.beql, pm.bneq, pm.beqlOk, pm.bneqOk, pm.conv, pm.convOk, pm.cut, pm.cutA, pm.cutOk, pm.cutAOk, pm.rowsOk, pm.rlen, pm.cell, pm.wid, pm.widGe, pm.repl, pm.replOk, pm.nat, pm.natOk, pm.rget, pm.rput, pm.sub2, pm.lidx, pm.lidxOk, pm.lim, pm.rapp, pm.rowsL, pm.rowsS, pm.rowsOkL, pm.str, pm.strOk, pm.flatI, pm.flatB, pm.flatS, pm.join, pm.joinOk, pm.pidx, pm.pidxOk, pm.shl, pm.shr, pm.shlOk, pm.shrOk, pm.orI, pm.andI, pm.orOk, pm.andOk, pm.andNI, pm.andNOk]
    | cons x y =>
      simp only [heap3, keep3, arrL, arrB, toksV, tokR, bads, List.replicate, List.cons_append, List.nil_append, Int.natCast_zero] at h4 hlp
      have hl' : (y.length + 1 + 1) * 40 ≤ 17592186044416 := by simp at hl; omega
      simp [h4, h5, h7, hlp, he, fxApp, hl', exec, runOps, stepG, opRun, sv, strip, evalO, sV, iV, bV, bads, put, ROp.dst, ROp.quiet, guardOf, impAll, pvOf, pvOf?, callRun, callFn, prep, argOf, handOver, behind, takeBack, List.replicate, reachable, reach, addNew, idsOfs, idsOf, Blk.ids, rens, ren, renBlks, renBlk, layOld, layNew, posIn, AM.lent, tell, head, openAll, forget, tidy, List.range, List.range.loop, backR, backV, backId, backVer, toZero, verOf, cellsOf, widOk, mkAgg, splice, resOne, resAll, resVal, runFn, freeze, freezeAll, depth, allPV, isRow, lit?, eqNil, nilOp, flatL, flatLs, headVer, rowsOf, isRow, freezeRow, LV.sc, rowParts, buildParts, okAll, touch, meets, apart, apartAll, runDraw, argIds, rowIds, List.range', rowsWide, byteOf?, byteRow, lendP, Nat.testBit_eq_decide_div_mod_eq, pm.chk, pm.isB, pm.truth, pm.gd, pm.imp, pm.and, pm.pickT, pm.pickF, pm.not, pm.notOk, pm.len, pm.lenL, pm.lenOk, pm.lenOkL, pm.sidx, pm.sidxOk, pm.add, pm.sub, pm.mul, pm.quo, pm.rem, pm.eql, pm.neq, pm.lss, pm.leq, pm.gtr, pm.geq, pm.addOk, pm.subOk, pm.mulOk, pm.quoOk, pm.remOk, pm.eqlOk, pm.neqOk, pm.lssOk, pm.leqOk, pm.gtrOk, pm.geqOk, pm.seql, pm.sneq, pm.seqlOk, pm.sneqOk, pm.beql, pm.bneq, pm.beqlOk, pm.bneqOk, pm.conv, pm.convOk, pm.cut, pm.cutA, pm.cutOk, pm.cutAOk, pm.rowsOk, pm.rlen, pm.cell, pm.wid, pm.widGe, pm.repl, pm.replOk, pm.nat, pm.natOk, pm.rget, pm.rput, pm.sub2, pm.lidx, pm.lidxOk, pm.lim, pm.rapp, pm.rowsL, pm.rowsS, pm.rowsOkL, pm.str, pm.strOk, pm.flatI, pm.flatB, pm.flatS, pm.join, pm.joinOk, pm.pidx, pm.pidxOk, pm.shl, pm.shr, pm.shlOk, pm.shrOk, pm.orI, pm.andI, pm.orOk, pm.andOk, pm.andNI, pm.andNOk]
end
end AI.Tok
end
