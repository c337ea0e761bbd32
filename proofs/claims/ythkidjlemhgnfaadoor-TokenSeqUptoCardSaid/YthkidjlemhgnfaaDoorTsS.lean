/-
  THE LAW's LOOP over the sequence: its body.
-/
import Derived.Test.YthkidjlemhgnfaaDoorTsR
set_option linter.unusedVariables false
set_option linter.unusedSimpArgs false
set_option linter.unusedSectionVars false
section
namespace AI.Tok
open Go AI
set_option maxRecDepth 100000
set_option maxHeartbeats 4000000
set_option linter.unusedSimpArgs false
set_option linter.unusedVariables false

theorem gL {l : List Blk} {b : Blk} {i : Nat} (h : l[i]? = some b) (X : List Blk) : (l ++ X)[i]? = some b := by
  rw [List.getElem?_append_left (List.getElem?_eq_some_iff.1 h).1]; exact h
theorem gL' {l : List Blk} {b : Blk} {i : Nat} (h : l[i]? = some b) (X : List Blk) (k : i < (l ++ X).length) : (l ++ X)[i] = b := by
  have := gL h X
  rw [List.getElem?_eq_getElem k] at this
  exact Option.some.inj this
theorem gP' {l : List Blk} {b : Blk} {i : Nat} (h : l[i]? = some b) (k : i < l.length) : l[i] = b := by
  rw [List.getElem?_eq_getElem k] at h
  exact Option.some.inj h
theorem sL {l l' : List Blk} {b : Blk} {i : Nat} (h : l.set i b = l') (k : i < l.length) (X : List Blk) : (l ++ X).set i b = l' ++ X := by
  rw [List.set_append_left _ _ k, h]
theorem ho2 (h : List Blk) (r r' : Row) : handOver h [.prow r, .prow r'] = ([], [.prow r, .prow r'], []) := rfl

/-- Does the law go on behind so many? -/
def goB (rd most : Int) (n : Nat) : Bool := !(decide (rd = 0) && decide ((n : Int) = most))

section
variable {M : Prims} (pm : PM M) {S : SFn} {Lp : (St → St) → (St → Option (AI.Exit × St)) → St → Option (AI.Exit × St)} {s : List UInt8} {most e rd : Int} {rows : Rows} {a : Nat}
include pm

theorem wY {r : Row} {x : Int} (hr : r.length = 4) (h6 : S (.fn 6) [.prow r, .prow r] [] = some (.ret (.pv (.bool true)), []))
    (ha : a < rows.length) (hl : rows.length ≤ 2097152) (hg : rows[a]? = some r) (hx : x = if a + 1 = rows.length then e else 0) :
    runYld M S Lp 0 [.prow r, .pv (.int .i64 x)] (hYn s most e rd (some rows) a none) = some (.ret (.pv (.bool (goB rd most (a + 1)))), hYn s most e rd (some rows) (a + 1) (if goB rd most (a + 1) then none else some (.exit 2))) := by
  match r, hr with
  | [r0, r1, r2, r3], _ =>
  have hw : IntKind.i64.wrap ((a : Int) + 1) = a + 1 := wrap64 (by omega) (by omega)
  have hw2 : IntKind.i64.wrap ((rows.length : Int) - 1) = rows.length - 1 := wrap64 (by omega) (by omega)
  have eB : ∀ m s, exec M S Lp m rB s = exec M S Lp m _ s := fun m s => congrArg (fun c => exec M S Lp m c s) rB.eq_def
  have eA : ∀ m s, exec M S Lp m rA s = exec M S Lp m _ s := fun m s => congrArg (fun c => exec M S Lp m c s) rA.eq_def
  generalize hH : hYn s most e rd (some rows) = H
  have ln : ∀ a p, (H a p).length = 9 := by subst hH; intros; rfl
  have g0 : ∀ a p, (H a p)[0]? = some (.loop (ltm 1 2 3 4 5 6 7 rd) [37, 38] rA rB p) := by subst hH; intros; rfl
  have g1 : ∀ a p, (H a p)[1]? = some (.data [.pv (.int .i64 most)] 0) := by subst hH; intros; rfl
  have g2 : ∀ a p, (H a p)[2]? = some (.data [.pv (.bool false)] 4) := by subst hH; intros; rfl
  have g3 : ∀ a p, (H a p)[3]? = some (.data [.ref 8 0] 22) := by subst hH; intros; rfl
  have g4 : ∀ a p, (H a p)[4]? = some (.data [.pv (.int .i64 e)] 23) := by subst hH; intros; rfl
  have g6 : ∀ a p, (H a p)[6]? = some (.data [.pv (.int .i64 rd)] 3) := by subst hH; intros; rfl
  have g7 : ∀ (a : Nat) p, (H a p)[7]? = some (.data [.pv (.int .i64 a)] 3) := by subst hH; intros; rfl
  have g8 : ∀ a p, (H a p)[8]? = some (.arr 4 0 (false, 27) rows) := by subst hH; intros; rfl
  have t0 : ∀ a p p', (H a p).set 0 (.loop (ltm 1 2 3 4 5 6 7 rd) [37, 38] rA rB p') = H a p' := by subst hH; intros; rfl
  have t7 : ∀ (a : Nat) p, (H a p).set 7 (.data [.pv (.int .i64 ((a : Int) + 1))] 3) = H (a + 1) p := by subst hH; intros; rfl
  have td : ∀ a p x y z w, tidy 9 [] (H a p ++ [.data [.pv x, .pv y, .pv z, .pv w] 27]) [] = ([], H a p) := by subst hH; intros; kernel_rfl
  clear hH
  have sT : ∀ v w, setAll (ltm 1 2 3 4 5 6 7 rd) [37, 38] [v, w] = .bad :: .bad :: .bad :: .ptr 1 0 :: .ptr 2 0 :: .ptr 3 0 :: .ptr 4 0 :: .bad :: .clo 10 [] [.ptr 5 0] :: .ptr 6 0 :: .ptr 7 0 :: bads 19 ++ .pv (.int .i64 rd) :: .pv (.bool true) :: .bad :: .bad :: .clo 10 [] [.ptr 5 0] :: .pv (.bool false) :: .clo 10 [] [.ptr 5 0] :: v :: w :: bads 59 := fun _ _ => rfl
  generalize ltm 1 2 3 4 5 6 7 rd = T at *
  have hrg : rows[a]?.getD [] = [r0, r1, r2, r3] := by rw [hg]; rfl
  have hrg' : ∀ k, rows[a]'k = [r0, r1, r2, r3] := by
    intro k; rw [List.getElem?_eq_getElem k] at hg; exact Option.some.inj hg
  have hna : ¬ rows.length ≤ a := by omega
  have ha' : ((a : Int) < rows.length) = True := by simp; omega
  by_cases hla : a + 1 = rows.length
  · rw [if_pos hla] at hx
    subst hx
    have hq : ((a : Int) = (rows.length : Int) - 1) = True := by simp; omega
    by_cases hx0 : x = 0
    · subst hx0
      by_cases hrd : rd = 0
      · by_cases hmo : (a : Int) + 1 = most
        · have hgo : goB rd most (a + 1) = false := by simp [goB, hrd, hmo]
          have hmo' : decide ((a : Int) + 1 = most) = true := decide_eq_true hmo
          rw [hgo]
          simp [runYld, putBack, sT, eA, eB, ln, gL (g0 _ _), gL (g1 _ _), gL (g2 _ _), gL (g3 _ _), gL (g4 _ _), gL (g6 _ _), gL (g7 _ _), gL (g8 _ _), gL' (g0 _ _), gL' (g1 _ _), gL' (g2 _ _), gL' (g3 _ _), gL' (g4 _ _), gL' (g6 _ _), gL' (g7 _ _), gL' (g8 _ _), gP' (g0 _ _), g0, gA (ln _ _), sA (ln _ _), t0, t7, td, hw, hw2, hrg, hrg', ho2, tb0, h6, hna, ha', hq, hrd, hmo', exec, runOps, stepG, opRun, sv, strip, evalO, sV, iV, bV, bads, put, ROp.dst, ROp.quiet, guardOf, impAll, pvOf, pvOf?, callRun, callFn, prep, argOf, behind, List.replicate, idsOfs, idsOf, AM.lent, tell, head, openAll, forget, List.range, List.range.loop, cellsOf, widOk, mkAgg, splice, resOne, resAll, resVal, runFn, freeze, freezeAll, depth, allPV, isRow, lit?, eqNil, nilOp, flatL, flatLs, rowsOf, isRow, freezeRow, LV.sc, rowParts, buildParts, okAll, touch, meets, apart, apartAll, runDraw, argIds, rowIds, List.range', rowsWide, byteOf?, byteRow, lendP, Nat.testBit_eq_decide_div_mod_eq, callYld, pm.chk, pm.isB, pm.truth, pm.gd, pm.imp, pm.and, pm.pickT, pm.pickF, pm.not, pm.notOk, pm.len, pm.lenL, pm.lenOk, pm.lenOkL, pm.sidx, pm.sidxOk, pm.add, pm.sub, pm.mul, pm.quo, pm.rem, pm.eql, pm.neq, pm.lss, pm.leq, pm.gtr, pm.geq, pm.addOk, pm.subOk, pm.mulOk, pm.quoOk, pm.remOk, pm.eqlOk, pm.neqOk, pm.lssOk, pm.leqOk, pm.gtrOk, pm.geqOk, pm.seql, pm.sneq, pm.seqlOk, pm.sneqOk, pm.beql, pm.bneq, pm.beqlOk, pm.bneqOk, pm.conv, pm.convOk, pm.cut, pm.cutA, pm.cutOk, pm.cutAOk, pm.rowsOk, pm.rlen, pm.cell, pm.wid, pm.widGe, pm.repl, pm.replOk, pm.nat, pm.natOk, pm.rget, pm.rput, pm.sub2, pm.lidx, pm.lidxOk, pm.lim, pm.rapp, pm.rowsL, pm.rowsS, pm.rowsOkL, pm.str, pm.strOk, pm.flatI, pm.flatB, pm.flatS, pm.join, pm.joinOk, pm.pidx, pm.pidxOk, pm.shl, pm.shr, pm.shlOk, pm.shrOk, pm.orI, pm.andI, pm.orOk, pm.andOk, pm.andNI, pm.andNOk]
        · have hgo : goB rd most (a + 1) = true := by simp [goB, hrd, hmo]
          rw [hgo]
          simp [runYld, putBack, sT, eA, eB, ln, gL (g0 _ _), gL (g1 _ _), gL (g2 _ _), gL (g3 _ _), gL (g4 _ _), gL (g6 _ _), gL (g7 _ _), gL (g8 _ _), gL' (g0 _ _), gL' (g1 _ _), gL' (g2 _ _), gL' (g3 _ _), gL' (g4 _ _), gL' (g6 _ _), gL' (g7 _ _), gL' (g8 _ _), gP' (g0 _ _), g0, gA (ln _ _), sA (ln _ _), t0, t7, td, hw, hw2, hrg, hrg', ho2, tb0, h6, hna, ha', hq, hrd, hmo, exec, runOps, stepG, opRun, sv, strip, evalO, sV, iV, bV, bads, put, ROp.dst, ROp.quiet, guardOf, impAll, pvOf, pvOf?, callRun, callFn, prep, argOf, behind, List.replicate, idsOfs, idsOf, AM.lent, tell, head, openAll, forget, List.range, List.range.loop, cellsOf, widOk, mkAgg, splice, resOne, resAll, resVal, runFn, freeze, freezeAll, depth, allPV, isRow, lit?, eqNil, nilOp, flatL, flatLs, rowsOf, isRow, freezeRow, LV.sc, rowParts, buildParts, okAll, touch, meets, apart, apartAll, runDraw, argIds, rowIds, List.range', rowsWide, byteOf?, byteRow, lendP, Nat.testBit_eq_decide_div_mod_eq, callYld, pm.chk, pm.isB, pm.truth, pm.gd, pm.imp, pm.and, pm.pickT, pm.pickF, pm.not, pm.notOk, pm.len, pm.lenL, pm.lenOk, pm.lenOkL, pm.sidx, pm.sidxOk, pm.add, pm.sub, pm.mul, pm.quo, pm.rem, pm.eql, pm.neq, pm.lss, pm.leq, pm.gtr, pm.geq, pm.addOk, pm.subOk, pm.mulOk, pm.quoOk, pm.remOk, pm.eqlOk, pm.neqOk, pm.lssOk, pm.leqOk, pm.gtrOk, pm.geqOk, pm.seql, pm.sneq, pm.seqlOk, pm.sneqOk, pm.beql, pm.bneq, pm.beqlOk, pm.bneqOk, pm.conv, pm.convOk, pm.cut, pm.cutA, pm.cutOk, pm.cutAOk, pm.rowsOk, pm.rlen, pm.cell, pm.wid, pm.widGe, pm.repl, pm.replOk, pm.nat, pm.natOk, pm.rget, pm.rput, pm.sub2, pm.lidx, pm.lidxOk, pm.lim, pm.rapp, pm.rowsL, pm.rowsS, pm.rowsOkL, pm.str, pm.strOk, pm.flatI, pm.flatB, pm.flatS, pm.join, pm.joinOk, pm.pidx, pm.pidxOk, pm.shl, pm.shr, pm.shlOk, pm.shrOk, pm.orI, pm.andI, pm.orOk, pm.andOk, pm.andNI, pm.andNOk]
      · have hgo : goB rd most (a + 1) = true := by simp [goB, hrd]
        rw [hgo]
        simp [runYld, putBack, sT, eA, eB, ln, gL (g0 _ _), gL (g1 _ _), gL (g2 _ _), gL (g3 _ _), gL (g4 _ _), gL (g6 _ _), gL (g7 _ _), gL (g8 _ _), gL' (g0 _ _), gL' (g1 _ _), gL' (g2 _ _), gL' (g3 _ _), gL' (g4 _ _), gL' (g6 _ _), gL' (g7 _ _), gL' (g8 _ _), gP' (g0 _ _), g0, gA (ln _ _), sA (ln _ _), t0, t7, td, hw, hw2, hrg, hrg', ho2, tb0, h6, hna, ha', hq, hrd, exec, runOps, stepG, opRun, sv, strip, evalO, sV, iV, bV, bads, put, ROp.dst, ROp.quiet, guardOf, impAll, pvOf, pvOf?, callRun, callFn, prep, argOf, behind, List.replicate, idsOfs, idsOf, AM.lent, tell, head, openAll, forget, List.range, List.range.loop, cellsOf, widOk, mkAgg, splice, resOne, resAll, resVal, runFn, freeze, freezeAll, depth, allPV, isRow, lit?, eqNil, nilOp, flatL, flatLs, rowsOf, isRow, freezeRow, LV.sc, rowParts, buildParts, okAll, touch, meets, apart, apartAll, runDraw, argIds, rowIds, List.range', rowsWide, byteOf?, byteRow, lendP, Nat.testBit_eq_decide_div_mod_eq, callYld, pm.chk, pm.isB, pm.truth, pm.gd, pm.imp, pm.and, pm.pickT, pm.pickF, pm.not, pm.notOk, pm.len, pm.lenL, pm.lenOk, pm.lenOkL, pm.sidx, pm.sidxOk, pm.add, pm.sub, pm.mul, pm.quo, pm.rem, pm.eql, pm.neq, pm.lss, pm.leq, pm.gtr, pm.geq, pm.addOk, pm.subOk, pm.mulOk, pm.quoOk, pm.remOk, pm.eqlOk, pm.neqOk, pm.lssOk, pm.leqOk, pm.gtrOk, pm.geqOk, pm.seql, pm.sneq, pm.seqlOk, pm.sneqOk, pm.beql, pm.bneq, pm.beqlOk, pm.bneqOk, pm.conv, pm.convOk, pm.cut, pm.cutA, pm.cutOk, pm.cutAOk, pm.rowsOk, pm.rlen, pm.cell, pm.wid, pm.widGe, pm.repl, pm.replOk, pm.nat, pm.natOk, pm.rget, pm.rput, pm.sub2, pm.lidx, pm.lidxOk, pm.lim, pm.rapp, pm.rowsL, pm.rowsS, pm.rowsOkL, pm.str, pm.strOk, pm.flatI, pm.flatB, pm.flatS, pm.join, pm.joinOk, pm.pidx, pm.pidxOk, pm.shl, pm.shr, pm.shlOk, pm.shrOk, pm.orI, pm.andI, pm.orOk, pm.andOk, pm.andNI, pm.andNOk]
    · by_cases hrd : rd = 0
      · by_cases hmo : (a : Int) + 1 = most
        · have hgo : goB rd most (a + 1) = false := by simp [goB, hrd, hmo]
          have hmo' : decide ((a : Int) + 1 = most) = true := decide_eq_true hmo
          rw [hgo]
          simp [runYld, putBack, sT, eA, eB, ln, gL (g0 _ _), gL (g1 _ _), gL (g2 _ _), gL (g3 _ _), gL (g4 _ _), gL (g6 _ _), gL (g7 _ _), gL (g8 _ _), gL' (g0 _ _), gL' (g1 _ _), gL' (g2 _ _), gL' (g3 _ _), gL' (g4 _ _), gL' (g6 _ _), gL' (g7 _ _), gL' (g8 _ _), gP' (g0 _ _), g0, gA (ln _ _), sA (ln _ _), t0, t7, td, hw, hw2, hrg, hrg', ho2, tb0, h6, hna, ha', hq, hrd, hmo', hx0, exec, runOps, stepG, opRun, sv, strip, evalO, sV, iV, bV, bads, put, ROp.dst, ROp.quiet, guardOf, impAll, pvOf, pvOf?, callRun, callFn, prep, argOf, behind, List.replicate, idsOfs, idsOf, AM.lent, tell, head, openAll, forget, List.range, List.range.loop, cellsOf, widOk, mkAgg, splice, resOne, resAll, resVal, runFn, freeze, freezeAll, depth, allPV, isRow, lit?, eqNil, nilOp, flatL, flatLs, rowsOf, isRow, freezeRow, LV.sc, rowParts, buildParts, okAll, touch, meets, apart, apartAll, runDraw, argIds, rowIds, List.range', rowsWide, byteOf?, byteRow, lendP, Nat.testBit_eq_decide_div_mod_eq, callYld, pm.chk, pm.isB, pm.truth, pm.gd, pm.imp, pm.and, pm.pickT, pm.pickF, pm.not, pm.notOk, pm.len, pm.lenL, pm.lenOk, pm.lenOkL, pm.sidx, pm.sidxOk, pm.add, pm.sub, pm.mul, pm.quo, pm.rem, pm.eql, pm.neq, pm.lss, pm.leq, pm.gtr, pm.geq, pm.addOk, pm.subOk, pm.mulOk, pm.quoOk, pm.remOk, pm.eqlOk, pm.neqOk, pm.lssOk, pm.leqOk, pm.gtrOk, pm.geqOk, pm.seql, pm.sneq, pm.seqlOk, pm.sneqOk, pm.beql, pm.bneq, pm.beqlOk, pm.bneqOk, pm.conv, pm.convOk, pm.cut, pm.cutA, pm.cutOk, pm.cutAOk, pm.rowsOk, pm.rlen, pm.cell, pm.wid, pm.widGe, pm.repl, pm.replOk, pm.nat, pm.natOk, pm.rget, pm.rput, pm.sub2, pm.lidx, pm.lidxOk, pm.lim, pm.rapp, pm.rowsL, pm.rowsS, pm.rowsOkL, pm.str, pm.strOk, pm.flatI, pm.flatB, pm.flatS, pm.join, pm.joinOk, pm.pidx, pm.pidxOk, pm.shl, pm.shr, pm.shlOk, pm.shrOk, pm.orI, pm.andI, pm.orOk, pm.andOk, pm.andNI, pm.andNOk]
        · have hgo : goB rd most (a + 1) = true := by simp [goB, hrd, hmo]
          rw [hgo]
          simp [runYld, putBack, sT, eA, eB, ln, gL (g0 _ _), gL (g1 _ _), gL (g2 _ _), gL (g3 _ _), gL (g4 _ _), gL (g6 _ _), gL (g7 _ _), gL (g8 _ _), gL' (g0 _ _), gL' (g1 _ _), gL' (g2 _ _), gL' (g3 _ _), gL' (g4 _ _), gL' (g6 _ _), gL' (g7 _ _), gL' (g8 _ _), gP' (g0 _ _), g0, gA (ln _ _), sA (ln _ _), t0, t7, td, hw, hw2, hrg, hrg', ho2, tb0, h6, hna, ha', hq, hrd, hmo, hx0, exec, runOps, stepG, opRun, sv, strip, evalO, sV, iV, bV, bads, put, ROp.dst, ROp.quiet, guardOf, impAll, pvOf, pvOf?, callRun, callFn, prep, argOf, behind, List.replicate, idsOfs, idsOf, AM.lent, tell, head, openAll, forget, List.range, List.range.loop, cellsOf, widOk, mkAgg, splice, resOne, resAll, resVal, runFn, freeze, freezeAll, depth, allPV, isRow, lit?, eqNil, nilOp, flatL, flatLs, rowsOf, isRow, freezeRow, LV.sc, rowParts, buildParts, okAll, touch, meets, apart, apartAll, runDraw, argIds, rowIds, List.range', rowsWide, byteOf?, byteRow, lendP, Nat.testBit_eq_decide_div_mod_eq, callYld, pm.chk, pm.isB, pm.truth, pm.gd, pm.imp, pm.and, pm.pickT, pm.pickF, pm.not, pm.notOk, pm.len, pm.lenL, pm.lenOk, pm.lenOkL, pm.sidx, pm.sidxOk, pm.add, pm.sub, pm.mul, pm.quo, pm.rem, pm.eql, pm.neq, pm.lss, pm.leq, pm.gtr, pm.geq, pm.addOk, pm.subOk, pm.mulOk, pm.quoOk, pm.remOk, pm.eqlOk, pm.neqOk, pm.lssOk, pm.leqOk, pm.gtrOk, pm.geqOk, pm.seql, pm.sneq, pm.seqlOk, pm.sneqOk, pm.beql, pm.bneq, pm.beqlOk, pm.bneqOk, pm.conv, pm.convOk, pm.cut, pm.cutA, pm.cutOk, pm.cutAOk, pm.rowsOk, pm.rlen, pm.cell, pm.wid, pm.widGe, pm.repl, pm.replOk, pm.nat, pm.natOk, pm.rget, pm.rput, pm.sub2, pm.lidx, pm.lidxOk, pm.lim, pm.rapp, pm.rowsL, pm.rowsS, pm.rowsOkL, pm.str, pm.strOk, pm.flatI, pm.flatB, pm.flatS, pm.join, pm.joinOk, pm.pidx, pm.pidxOk, pm.shl, pm.shr, pm.shlOk, pm.shrOk, pm.orI, pm.andI, pm.orOk, pm.andOk, pm.andNI, pm.andNOk]
      · have hgo : goB rd most (a + 1) = true := by simp [goB, hrd]
        rw [hgo]
        simp [runYld, putBack, sT, eA, eB, ln, gL (g0 _ _), gL (g1 _ _), gL (g2 _ _), gL (g3 _ _), gL (g4 _ _), gL (g6 _ _), gL (g7 _ _), gL (g8 _ _), gL' (g0 _ _), gL' (g1 _ _), gL' (g2 _ _), gL' (g3 _ _), gL' (g4 _ _), gL' (g6 _ _), gL' (g7 _ _), gL' (g8 _ _), gP' (g0 _ _), g0, gA (ln _ _), sA (ln _ _), t0, t7, td, hw, hw2, hrg, hrg', ho2, tb0, h6, hna, ha', hq, hrd, hx0, exec, runOps, stepG, opRun, sv, strip, evalO, sV, iV, bV, bads, put, ROp.dst, ROp.quiet, guardOf, impAll, pvOf, pvOf?, callRun, callFn, prep, argOf, behind, List.replicate, idsOfs, idsOf, AM.lent, tell, head, openAll, forget, List.range, List.range.loop, cellsOf, widOk, mkAgg, splice, resOne, resAll, resVal, runFn, freeze, freezeAll, depth, allPV, isRow, lit?, eqNil, nilOp, flatL, flatLs, rowsOf, isRow, freezeRow, LV.sc, rowParts, buildParts, okAll, touch, meets, apart, apartAll, runDraw, argIds, rowIds, List.range', rowsWide, byteOf?, byteRow, lendP, Nat.testBit_eq_decide_div_mod_eq, callYld, pm.chk, pm.isB, pm.truth, pm.gd, pm.imp, pm.and, pm.pickT, pm.pickF, pm.not, pm.notOk, pm.len, pm.lenL, pm.lenOk, pm.lenOkL, pm.sidx, pm.sidxOk, pm.add, pm.sub, pm.mul, pm.quo, pm.rem, pm.eql, pm.neq, pm.lss, pm.leq, pm.gtr, pm.geq, pm.addOk, pm.subOk, pm.mulOk, pm.quoOk, pm.remOk, pm.eqlOk, pm.neqOk, pm.lssOk, pm.leqOk, pm.gtrOk, pm.geqOk, pm.seql, pm.sneq, pm.seqlOk, pm.sneqOk, pm.beql, pm.bneq, pm.beqlOk, pm.bneqOk, pm.conv, pm.convOk, pm.cut, pm.cutA, pm.cutOk, pm.cutAOk, pm.rowsOk, pm.rlen, pm.cell, pm.wid, pm.widGe, pm.repl, pm.replOk, pm.nat, pm.natOk, pm.rget, pm.rput, pm.sub2, pm.lidx, pm.lidxOk, pm.lim, pm.rapp, pm.rowsL, pm.rowsS, pm.rowsOkL, pm.str, pm.strOk, pm.flatI, pm.flatB, pm.flatS, pm.join, pm.joinOk, pm.pidx, pm.pidxOk, pm.shl, pm.shr, pm.shlOk, pm.shrOk, pm.orI, pm.andI, pm.orOk, pm.andOk, pm.andNI, pm.andNOk]
  · rw [if_neg hla] at hx
    subst hx
    have hq : ((a : Int) = (rows.length : Int) - 1) = False := by simp; omega
    by_cases hrd : rd = 0
    · by_cases hmo : (a : Int) + 1 = most
      · have hgo : goB rd most (a + 1) = false := by simp [goB, hrd, hmo]
        have hmo' : decide ((a : Int) + 1 = most) = true := decide_eq_true hmo
        rw [hgo]
        simp [runYld, putBack, sT, eA, eB, ln, gL (g0 _ _), gL (g1 _ _), gL (g2 _ _), gL (g3 _ _), gL (g4 _ _), gL (g6 _ _), gL (g7 _ _), gL (g8 _ _), gL' (g0 _ _), gL' (g1 _ _), gL' (g2 _ _), gL' (g3 _ _), gL' (g4 _ _), gL' (g6 _ _), gL' (g7 _ _), gL' (g8 _ _), gP' (g0 _ _), g0, gA (ln _ _), sA (ln _ _), t0, t7, td, hw, hw2, hrg, hrg', ho2, tb0, h6, hna, ha', hq, hrd, hmo', exec, runOps, stepG, opRun, sv, strip, evalO, sV, iV, bV, bads, put, ROp.dst, ROp.quiet, guardOf, impAll, pvOf, pvOf?, callRun, callFn, prep, argOf, behind, List.replicate, idsOfs, idsOf, AM.lent, tell, head, openAll, forget, List.range, List.range.loop, cellsOf, widOk, mkAgg, splice, resOne, resAll, resVal, runFn, freeze, freezeAll, depth, allPV, isRow, lit?, eqNil, nilOp, flatL, flatLs, rowsOf, isRow, freezeRow, LV.sc, rowParts, buildParts, okAll, touch, meets, apart, apartAll, runDraw, argIds, rowIds, List.range', rowsWide, byteOf?, byteRow, lendP, Nat.testBit_eq_decide_div_mod_eq, callYld, pm.chk, pm.isB, pm.truth, pm.gd, pm.imp, pm.and, pm.pickT, pm.pickF, pm.not, pm.notOk, pm.len, pm.lenL, pm.lenOk, pm.lenOkL, pm.sidx, pm.sidxOk, pm.add, pm.sub, pm.mul, pm.quo, pm.rem, pm.eql, pm.neq, pm.lss, pm.leq, pm.gtr, pm.geq, pm.addOk, pm.subOk, pm.mulOk, pm.quoOk, pm.remOk, pm.eqlOk, pm.neqOk, pm.lssOk, pm.leqOk, pm.gtrOk, pm.geqOk, pm.seql, pm.sneq, pm.seqlOk, pm.sneqOk, pm.beql, pm.bneq, pm.beqlOk, pm.bneqOk, pm.conv, pm.convOk, pm.cut, pm.cutA, pm.cutOk, pm.cutAOk, pm.rowsOk, pm.rlen, pm.cell, pm.wid, pm.widGe, pm.repl, pm.replOk, pm.nat, pm.natOk, pm.rget, pm.rput, pm.sub2, pm.lidx, pm.lidxOk, pm.lim, pm.rapp, pm.rowsL, pm.rowsS, pm.rowsOkL, pm.str, pm.strOk, pm.flatI, pm.flatB, pm.flatS, pm.join, pm.joinOk, pm.pidx, pm.pidxOk, pm.shl, pm.shr, pm.shlOk, pm.shrOk, pm.orI, pm.andI, pm.orOk, pm.andOk, pm.andNI, pm.andNOk]
      · have hgo : goB rd most (a + 1) = true := by simp [goB, hrd, hmo]
        rw [hgo]
        simp [runYld, putBack, sT, eA, eB, ln, gL (g0 _ _), gL (g1 _ _), gL (g2 _ _), gL (g3 _ _), gL (g4 _ _), gL (g6 _ _), gL (g7 _ _), gL (g8 _ _), gL' (g0 _ _), gL' (g1 _ _), gL' (g2 _ _), gL' (g3 _ _), gL' (g4 _ _), gL' (g6 _ _), gL' (g7 _ _), gL' (g8 _ _), gP' (g0 _ _), g0, gA (ln _ _), sA (ln _ _), t0, t7, td, hw, hw2, hrg, hrg', ho2, tb0, h6, hna, ha', hq, hrd, hmo, exec, runOps, stepG, opRun, sv, strip, evalO, sV, iV, bV, bads, put, ROp.dst, ROp.quiet, guardOf, impAll, pvOf, pvOf?, callRun, callFn, prep, argOf, behind, List.replicate, idsOfs, idsOf, AM.lent, tell, head, openAll, forget, List.range, List.range.loop, cellsOf, widOk, mkAgg, splice, resOne, resAll, resVal, runFn, freeze, freezeAll, depth, allPV, isRow, lit?, eqNil, nilOp, flatL, flatLs, rowsOf, isRow, freezeRow, LV.sc, rowParts, buildParts, okAll, touch, meets, apart, apartAll, runDraw, argIds, rowIds, List.range', rowsWide, byteOf?, byteRow, lendP, Nat.testBit_eq_decide_div_mod_eq, callYld, pm.chk, pm.isB, pm.truth, pm.gd, pm.imp, pm.and, pm.pickT, pm.pickF, pm.not, pm.notOk, pm.len, pm.lenL, pm.lenOk, pm.lenOkL, pm.sidx, pm.sidxOk, pm.add, pm.sub, pm.mul, pm.quo, pm.rem, pm.eql, pm.neq, pm.lss, pm.leq, pm.gtr, pm.geq, pm.addOk, pm.subOk, pm.mulOk, pm.quoOk, pm.remOk, pm.eqlOk, pm.neqOk, pm.lssOk, pm.leqOk, pm.gtrOk, pm.geqOk, pm.seql, pm.sneq, pm.seqlOk, pm.sneqOk, pm.beql, pm.bneq, pm.beqlOk, pm.bneqOk, pm.conv, pm.convOk, pm.cut, pm.cutA, pm.cutOk, pm.cutAOk, pm.rowsOk, pm.rlen, pm.cell, pm.wid, pm.widGe, pm.repl, pm.replOk, pm.nat, pm.natOk, pm.rget, pm.rput, pm.sub2, pm.lidx, pm.lidxOk, pm.lim, pm.rapp, pm.rowsL, pm.rowsS, pm.rowsOkL, pm.str, pm.strOk, pm.flatI, pm.flatB, pm.flatS, pm.join, pm.joinOk, pm.pidx, pm.pidxOk, pm.shl, pm.shr, pm.shlOk, pm.shrOk, pm.orI, pm.andI, pm.orOk, pm.andOk, pm.andNI, pm.andNOk]
    · have hgo : goB rd most (a + 1) = true := by simp [goB, hrd]
      rw [hgo]
      simp [runYld, putBack, sT, eA, eB, ln, gL (g0 _ _), gL (g1 _ _), gL (g2 _ _), gL (g3 _ _), gL (g4 _ _), gL (g6 _ _), gL (g7 _ _), gL (g8 _ _), gL' (g0 _ _), gL' (g1 _ _), gL' (g2 _ _), gL' (g3 _ _), gL' (g4 _ _), gL' (g6 _ _), gL' (g7 _ _), gL' (g8 _ _), gP' (g0 _ _), g0, gA (ln _ _), sA (ln _ _), t0, t7, td, hw, hw2, hrg, hrg', ho2, tb0, h6, hna, ha', hq, hrd, exec, runOps, stepG, opRun, sv, strip, evalO, sV, iV, bV, bads, put, ROp.dst, ROp.quiet, guardOf, impAll, pvOf, pvOf?, callRun, callFn, prep, argOf, behind, List.replicate, idsOfs, idsOf, AM.lent, tell, head, openAll, forget, List.range, List.range.loop, cellsOf, widOk, mkAgg, splice, resOne, resAll, resVal, runFn, freeze, freezeAll, depth, allPV, isRow, lit?, eqNil, nilOp, flatL, flatLs, rowsOf, isRow, freezeRow, LV.sc, rowParts, buildParts, okAll, touch, meets, apart, apartAll, runDraw, argIds, rowIds, List.range', rowsWide, byteOf?, byteRow, lendP, Nat.testBit_eq_decide_div_mod_eq, callYld, pm.chk, pm.isB, pm.truth, pm.gd, pm.imp, pm.and, pm.pickT, pm.pickF, pm.not, pm.notOk, pm.len, pm.lenL, pm.lenOk, pm.lenOkL, pm.sidx, pm.sidxOk, pm.add, pm.sub, pm.mul, pm.quo, pm.rem, pm.eql, pm.neq, pm.lss, pm.leq, pm.gtr, pm.geq, pm.addOk, pm.subOk, pm.mulOk, pm.quoOk, pm.remOk, pm.eqlOk, pm.neqOk, pm.lssOk, pm.leqOk, pm.gtrOk, pm.geqOk, pm.seql, pm.sneq, pm.seqlOk, pm.sneqOk, pm.beql, pm.bneq, pm.beqlOk, pm.bneqOk, pm.conv, pm.convOk, pm.cut, pm.cutA, pm.cutOk, pm.cutAOk, pm.rowsOk, pm.rlen, pm.cell, pm.wid, pm.widGe, pm.repl, pm.replOk, pm.nat, pm.natOk, pm.rget, pm.rput, pm.sub2, pm.lidx, pm.lidxOk, pm.lim, pm.rapp, pm.rowsL, pm.rowsS, pm.rowsOkL, pm.str, pm.strOk, pm.flatI, pm.flatB, pm.flatS, pm.join, pm.joinOk, pm.pidx, pm.pidxOk, pm.shl, pm.shr, pm.shlOk, pm.shrOk, pm.orI, pm.andI, pm.orOk, pm.andOk, pm.andNI, pm.andNOk]
end
end AI.Tok
end
