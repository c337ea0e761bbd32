/-
  THE SEQUENCE, as the program goes through it: one round.
  THE SEQUENCE, as the program goes through it: to its end.
  THE LAW's LOOP over the sequence: what it hands over.
-/
import Derived.Test.YthkidjlemhgnfaaDoorTsQ
import Derived.ProofKit
set_option linter.unusedVariables false
set_option linter.unusedSimpArgs false
set_option linter.unusedSectionVars false
section
namespace AI.Tok
open Go AI
set_option maxRecDepth 100000
set_option maxHeartbeats 4000000
set_option linter.unusedSimpArgs false
set_option linter.unusedVariables false

theorem rc0 (h : List Blk) : reachable h [] = [] := rfl
theorem gA {m : Nat} {l : List Blk} (h : l.length = m) (b : Blk) (X : List Blk) : (l ++ b :: X)[m]? = some b := by
  subst h; simp
theorem gA1 {m : Nat} {l : List Blk} (h : l.length = m) (b c : Blk) (X : List Blk) : (l ++ b :: c :: X)[m + 1]? = some c := by
  subst h; simp
theorem gA2 {m : Nat} {l : List Blk} (h : l.length = m) (b c d : Blk) (X : List Blk) : (l ++ b :: c :: d :: X)[m + 2]? = some d := by
  subst h; simp
theorem sA {m : Nat} {l : List Blk} (h : l.length = m) (b b' : Blk) (X : List Blk) : (l ++ b :: X).set m b' = l ++ b' :: X := by
  subst h; simp
theorem sA1 {m : Nat} {l : List Blk} (h : l.length = m) (b c b' : Blk) (X : List Blk) : (l ++ b :: c :: X).set (m + 1) b' = l ++ b :: b' :: X := by
  subst h; simp
theorem sA2 {m : Nat} {l : List Blk} (h : l.length = m) (b c d b' : Blk) (X : List Blk) : (l ++ b :: c :: d :: X).set (m + 2) b' = l ++ b :: c :: b' :: X := by
  subst h; simp
theorem gS {l : List Blk} {b : Blk} (h : l[1]? = some b) (X : List Blk) : (l ++ X)[1]? = some b := by
  rw [List.getElem?_append_left (List.getElem?_eq_some_iff.1 h).1]; exact h

theorem gS' {l : List Blk} {b : Blk} (h : l[1]? = some b) (X : List Blk) (k : 1 < (l ++ X).length) : (l ++ X)[1] = b := by
  have := gS h X
  rw [List.getElem?_eq_getElem k] at this
  exact Option.some.inj this

section
variable {M : Prims} (pm : PM M) {S : SFn} {Lp : (St → St) → (St → Option (AI.Exit × St)) → St → Option (AI.Exit × St)} {N m a f q : Nat} {s : List UInt8} {G HY : Nat → Option Jump → List Blk} {RY : List Nat} {pj : Option Jump}
variable (fr : Fr m G HY RY s)
include pm fr
theorem w10_blank (hf : f < s.length) (hs : s.length ≤ 1048576) (hb : blankB (bt s f) = true) :
    tell M (head m rf10_a0) (exec M S Lp m rf10_b0 ⟨.yld 0 :: .ptr 1 0 :: .bad :: .ptr m 0 :: .ptr (m + 1) 0 :: bads 64, G a pj ++ [cutB s f q, takB], []⟩) =
      some (.normal, true, ⟨.yld 0 :: .ptr 1 0 :: .bad :: .ptr m 0 :: .ptr (m + 1) 0 :: bads 64, G a pj ++ [cutB s ((f + 1 : Nat)) q, takB], []⟩) := by
  have hw : IntKind.i64.wrap ((f : Int) + 1) = f + 1 := wrap64 (by omega) (by omega)
  have ln := fr.len a pj
  have m2 := fr.m2
  have h1m : ¬ (1 = m) := by omega
  have hm1 : ¬ (m = 1) := by omega
  have td := fr.td a pj (f + 1) q
  have hb' : (bt s f).toNat = 32 ∨ (bt s f).toNat = 9 ∨ (bt s f).toNat = 10 ∨ (bt s f).toNat = 13 := by
    unfold blankB at hb
    simp only [Bool.or_eq_true, beq_iff_eq] at hb
    rcases hb with ((h | h) | h) | h <;> simp [h]
  have g0 := gS' (fr.sb a pj)
  simp only [cutB, takB, bads, List.replicate, Int.natCast_add, Int.natCast_one] at td
  rcases hb' with h | h | h | h <;>
  simp [rf10_b0, rf10_a0, cutB, takB, gA ln, gA1 ln, sA ln, g0, ln, hf, hw, h, td, h1m, hm1, exec, runOps, stepG, opRun, sv, strip, evalO, sV, iV, bV, bads, put, ROp.dst, ROp.quiet, guardOf, impAll, pvOf, pvOf?, callRun, callFn, prep, argOf, behind, List.replicate, idsOfs, idsOf, AM.lent, tell, head, openAll, forget, List.range, List.range.loop, cellsOf, widOk, mkAgg, splice, resOne, resAll, resVal, runFn, freeze, freezeAll, depth, allPV, isRow, lit?, eqNil, nilOp, flatL, flatLs, rowsOf, isRow, freezeRow, LV.sc, rowParts, buildParts, okAll, touch, meets, apart, apartAll, runDraw, argIds, rowIds, List.range', rowsWide, byteOf?, byteRow, lendP, Nat.testBit_eq_decide_div_mod_eq, callYld, pm.chk, pm.isB, pm.truth, pm.gd, pm.imp, pm.and, pm.pickT, pm.pickF, pm.not, pm.notOk, pm.len, pm.lenL, pm.lenOk, pm.lenOkL, pm.sidx, pm.sidxOk, pm.add, pm.sub, pm.mul, pm.quo, pm.rem, pm.eql, pm.neq, pm.lss, pm.leq, pm.gtr, pm.geq, pm.addOk, pm.subOk, pm.mulOk, pm.quoOk, pm.remOk, pm.eqlOk, pm.neqOk, pm.lssOk, pm.leqOk, pm.gtrOk, pm.geqOk, pm.seql, pm.sneq, pm.seqlOk, pm.sneqOk, pm.beql, pm.bneq, pm.beqlOk, pm.bneqOk, pm.conv, pm.convOk, pm.cut, pm.cutA, pm.cutOk, pm.cutAOk, pm.rowsOk, pm.rlen, pm.cell, pm.wid, pm.widGe, pm.repl, pm.replOk, pm.nat, pm.natOk, pm.rget, pm.rput, pm.sub2, pm.lidx, pm.lidxOk, pm.lim, pm.rapp, pm.rowsL, pm.rowsS, pm.rowsOkL, pm.str, pm.strOk, pm.flatI, pm.flatB, pm.flatS, pm.join, pm.joinOk, pm.pidx, pm.pidxOk, pm.shl, pm.shr, pm.shlOk, pm.shrOk, pm.orI, pm.andI, pm.orOk, pm.andOk, pm.andNI, pm.andNOk]

theorem w10_end (hf : ¬ f < s.length) :
    tell M (head m ⟨[], [], [], []⟩) (exec M S Lp m rf10_b0 ⟨.yld 0 :: .ptr 1 0 :: .bad :: .ptr m 0 :: .ptr (m + 1) 0 :: bads 64, G a pj ++ [cutB s f q, takB], []⟩) =
      some (.exit 0, true, ⟨bads 69, G a pj, []⟩) := by
  have ln := fr.len a pj
  have m2 := fr.m2
  have h1m : ¬ (1 = m) := by omega
  have hm1 : ¬ (m = 1) := by omega
  have te := fr.te a pj f q
  have g0 := gS' (fr.sb a pj)
  simp only [cutB, takB, bads, List.replicate, Int.natCast_add, Int.natCast_one] at te
  simp [rf10_b0, cutB, takB, gA ln, gA1 ln, sA ln, g0, ln, hf, te, h1m, hm1, exec, runOps, stepG, opRun, sv, strip, evalO, sV, iV, bV, bads, put, ROp.dst, ROp.quiet, guardOf, impAll, pvOf, pvOf?, callRun, callFn, prep, argOf, behind, List.replicate, idsOfs, idsOf, AM.lent, tell, head, openAll, forget, List.range, List.range.loop, cellsOf, widOk, mkAgg, splice, resOne, resAll, resVal, runFn, freeze, freezeAll, depth, allPV, isRow, lit?, eqNil, nilOp, flatL, flatLs, rowsOf, isRow, freezeRow, LV.sc, rowParts, buildParts, okAll, touch, meets, apart, apartAll, runDraw, argIds, rowIds, List.range', rowsWide, byteOf?, byteRow, lendP, Nat.testBit_eq_decide_div_mod_eq, callYld, pm.chk, pm.isB, pm.truth, pm.gd, pm.imp, pm.and, pm.pickT, pm.pickF, pm.not, pm.notOk, pm.len, pm.lenL, pm.lenOk, pm.lenOkL, pm.sidx, pm.sidxOk, pm.add, pm.sub, pm.mul, pm.quo, pm.rem, pm.eql, pm.neq, pm.lss, pm.leq, pm.gtr, pm.geq, pm.addOk, pm.subOk, pm.mulOk, pm.quoOk, pm.remOk, pm.eqlOk, pm.neqOk, pm.lssOk, pm.leqOk, pm.gtrOk, pm.geqOk, pm.seql, pm.sneq, pm.seqlOk, pm.sneqOk, pm.beql, pm.bneq, pm.beqlOk, pm.bneqOk, pm.conv, pm.convOk, pm.cut, pm.cutA, pm.cutOk, pm.cutAOk, pm.rowsOk, pm.rlen, pm.cell, pm.wid, pm.widGe, pm.repl, pm.replOk, pm.nat, pm.natOk, pm.rget, pm.rput, pm.sub2, pm.lidx, pm.lidxOk, pm.lim, pm.rapp, pm.rowsL, pm.rowsS, pm.rowsOkL, pm.str, pm.strOk, pm.flatI, pm.flatB, pm.flatS, pm.join, pm.joinOk, pm.pidx, pm.pidxOk, pm.shl, pm.shr, pm.shlOk, pm.shrOk, pm.orI, pm.andI, pm.orOk, pm.andOk, pm.andNI, pm.andNOk]

section
variable (h12 : S (.fn 12) [.pv (.int .u8 (bt s f).toNat)] [] = some (.ret (.pv (.int .i64 ((pickN (bt s f) : Nat) : Int))), []))
include h12
theorem w10_tok {k : Int} {e : Nat} {t : List UInt8} {b : Bool} {p' : Option Jump} (hf : f < s.length) (hb : blankB (bt s f) = false)
    (hT : S (.fn (25 + pickN (bt s f))) [.ptr 0 0] (cutH 0 s f q) = some (.ret (.tup [.prow (tokR k f e t), .pv (.int .i64 0)]), cutH 0 s f q))
    (hY : S (.yld 0) [.prow (tokR k f e t), .pv (.int .i64 0)] (HY a none) = some (.ret (.pv (.bool b)), HY (a + 1) p')) :
    (b = true → tell M (head m rf10_a0) (exec M S Lp m rf10_b0 ⟨.yld 0 :: .ptr 1 0 :: .bad :: .ptr m 0 :: .ptr (m + 1) 0 :: bads 64, G a none ++ [cutB s f q, takB], []⟩) =
      some (.normal, true, ⟨.yld 0 :: .ptr 1 0 :: .bad :: .ptr m 0 :: .ptr (m + 1) 0 :: bads 64, G (a + 1) p' ++ [cutB s e q, takB], []⟩)) ∧
    (b = false → tell M (head m ⟨[], [], [], []⟩) (exec M S Lp m rf10_b0 ⟨.yld 0 :: .ptr 1 0 :: .bad :: .ptr m 0 :: .ptr (m + 1) 0 :: bads 64, G a none ++ [cutB s f q, takB], []⟩) =
      some (.ret, true, ⟨bads 69, G (a + 1) p', []⟩)) := by
  have ln := fr.len a none
  have ln1 := fr.len (a + 1) p'
  have m2 := fr.m2
  have h1m : ¬ (1 = m) := by omega
  have hm1 : ¬ (m = 1) := by omega
  have hm2 : ¬ (m + 2 = 1) := by omega
  have h2m : ¬ (1 = m + 2) := by omega
  have td := fr.td1 (a + 1) p' e q (.int .i64 k) (.int .i64 f) (.int .i64 e) (.str t)
  have te := fr.te1 (a + 1) p' f q (.int .i64 k) (.int .i64 f) (.int .i64 e) (.str t)
  have hoT := fr.hoT a none f q
  have tbT := fr.tbT a none f q f q (tokR k f e t) (.int .i64 0)
  have hoY := fr.hoY a f q (.int .i64 k) (.int .i64 f) (.int .i64 e) (.str t) (tokR k f e t) (.int .i64 0)
  have tbY := fr.tbY a (a + 1) p' f q (.int .i64 k) (.int .i64 f) (.int .i64 e) (.str t) (.bool b)
  have rc := fr.rc a none f q
  have ry := fr.ry
  have ry2 := fr.ry2 (a + 1) p'
  have g0 := gS' (fr.sb a none)
  have hp := pickN_lt (bt s f)
  have hp' : pickN (bt s f) + 1 ≤ 5 := hp
  have tg := takL_get hp
  have hb' : (¬ (bt s f).toNat = 32 ∧ ¬ (bt s f).toNat = 9) ∧ ¬ (bt s f).toNat = 10 ∧ ¬ (bt s f).toNat = 13 := by
    unfold blankB at hb
    simp only [Bool.or_eq_false_iff, beq_eq_false_iff_ne, ne_eq] at hb
    obtain ⟨⟨⟨u1, u2⟩, u3⟩, u4⟩ := hb
    refine ⟨⟨fun h => u1 ?_, fun h => u2 ?_⟩, fun h => u3 ?_, fun h => u4 ?_⟩ <;> exact UInt8.toNat_inj.1 (by simpa using h)
  obtain ⟨⟨b1, b2⟩, b3, b4⟩ := hb'
  have ry' : RY.all (fun i => Nat.blt i (m + 3)) = true := ry
  simp only [cutB, takB, tokB, tokR, cutH, bads, List.replicate] at td te hoT tbT hoY tbY rc hT hY
  constructor
  · rintro rfl
    simp [rf10_b0, rf10_a0, cutB, takB, gA ln, gA1 ln, gA2 ln, sA ln, sA2 ln, gA ln1, gA1 ln1, gA2 ln1, sA ln1, g0, ln, ln1, hf, b1, b2, b3, b4, td, h1m, hm1, hm2, h2m, h12, ho0, tb0, lit_cast, hp, hp', takL_len, tg, rc, rc0, hoT, tbT, hT, hoY, tbY, hY, ry', ry2, exec, runOps, stepG, opRun, sv, strip, evalO, sV, iV, bV, bads, put, ROp.dst, ROp.quiet, guardOf, impAll, pvOf, pvOf?, callRun, callFn, prep, argOf, behind, List.replicate, idsOfs, idsOf, AM.lent, tell, head, openAll, forget, List.range, List.range.loop, cellsOf, widOk, mkAgg, splice, resOne, resAll, resVal, runFn, freeze, freezeAll, depth, allPV, isRow, lit?, eqNil, nilOp, flatL, flatLs, rowsOf, isRow, freezeRow, LV.sc, rowParts, buildParts, okAll, touch, meets, apart, apartAll, runDraw, argIds, rowIds, List.range', rowsWide, byteOf?, byteRow, lendP, Nat.testBit_eq_decide_div_mod_eq, callYld, pm.chk, pm.isB, pm.truth, pm.gd, pm.imp, pm.and, pm.pickT, pm.pickF, pm.not, pm.notOk, pm.len, pm.lenL, pm.lenOk, pm.lenOkL, pm.sidx, pm.sidxOk, pm.add, pm.sub, pm.mul, pm.quo, pm.rem, pm.eql, pm.neq, pm.lss, pm.leq, pm.gtr, pm.geq, pm.addOk, pm.subOk, pm.mulOk, pm.quoOk, pm.remOk, pm.eqlOk, pm.neqOk, pm.lssOk, pm.leqOk, pm.gtrOk, pm.geqOk, pm.seql, pm.sneq, pm.seqlOk, pm.sneqOk, pm.beql, pm.bneq, pm.beqlOk, pm.bneqOk, pm.conv, pm.convOk, pm.cut, pm.cutA, pm.cutOk, pm.cutAOk, pm.rowsOk, pm.rlen, pm.cell, pm.wid, pm.widGe, pm.repl, pm.replOk, pm.nat, pm.natOk, pm.rget, pm.rput, pm.sub2, pm.lidx, pm.lidxOk, pm.lim, pm.rapp, pm.rowsL, pm.rowsS, pm.rowsOkL, pm.str, pm.strOk, pm.flatI, pm.flatB, pm.flatS, pm.join, pm.joinOk, pm.pidx, pm.pidxOk, pm.shl, pm.shr, pm.shlOk, pm.shrOk, pm.orI, pm.andI, pm.orOk, pm.andOk, pm.andNI, pm.andNOk]
  · rintro rfl
    simp [rf10_b0, rf10_a0, cutB, takB, gA ln, gA1 ln, gA2 ln, sA ln, sA2 ln, gA ln1, gA1 ln1, gA2 ln1, sA ln1, g0, ln, ln1, hf, b1, b2, b3, b4, te, h1m, hm1, hm2, h2m, h12, ho0, tb0, lit_cast, hp, hp', takL_len, tg, rc, rc0, hoT, tbT, hT, hoY, tbY, hY, ry', ry2, exec, runOps, stepG, opRun, sv, strip, evalO, sV, iV, bV, bads, put, ROp.dst, ROp.quiet, guardOf, impAll, pvOf, pvOf?, callRun, callFn, prep, argOf, behind, List.replicate, idsOfs, idsOf, AM.lent, tell, head, openAll, forget, List.range, List.range.loop, cellsOf, widOk, mkAgg, splice, resOne, resAll, resVal, runFn, freeze, freezeAll, depth, allPV, isRow, lit?, eqNil, nilOp, flatL, flatLs, rowsOf, isRow, freezeRow, LV.sc, rowParts, buildParts, okAll, touch, meets, apart, apartAll, runDraw, argIds, rowIds, List.range', rowsWide, byteOf?, byteRow, lendP, Nat.testBit_eq_decide_div_mod_eq, callYld, pm.chk, pm.isB, pm.truth, pm.gd, pm.imp, pm.and, pm.pickT, pm.pickF, pm.not, pm.notOk, pm.len, pm.lenL, pm.lenOk, pm.lenOkL, pm.sidx, pm.sidxOk, pm.add, pm.sub, pm.mul, pm.quo, pm.rem, pm.eql, pm.neq, pm.lss, pm.leq, pm.gtr, pm.geq, pm.addOk, pm.subOk, pm.mulOk, pm.quoOk, pm.remOk, pm.eqlOk, pm.neqOk, pm.lssOk, pm.leqOk, pm.gtrOk, pm.geqOk, pm.seql, pm.sneq, pm.seqlOk, pm.sneqOk, pm.beql, pm.bneq, pm.beqlOk, pm.bneqOk, pm.conv, pm.convOk, pm.cut, pm.cutA, pm.cutOk, pm.cutAOk, pm.rowsOk, pm.rlen, pm.cell, pm.wid, pm.widGe, pm.repl, pm.replOk, pm.nat, pm.natOk, pm.rget, pm.rput, pm.sub2, pm.lidx, pm.lidxOk, pm.lim, pm.rapp, pm.rowsL, pm.rowsS, pm.rowsOkL, pm.str, pm.strOk, pm.flatI, pm.flatB, pm.flatS, pm.join, pm.joinOk, pm.pidx, pm.pidxOk, pm.shl, pm.shr, pm.shlOk, pm.shrOk, pm.orI, pm.andI, pm.orOk, pm.andOk, pm.andNI, pm.andNOk]
end
end
end AI.Tok
end

section
namespace AI.Tok
open Go AI
set_option maxRecDepth 100000
set_option maxHeartbeats 4000000
set_option linter.unusedSimpArgs false
set_option linter.unusedVariables false

theorem blank_not {s : List UInt8} {f : Nat} (hb : blankB (bt s f) = false) : (¬ (bt s f).toNat = 32 ∧ ¬ (bt s f).toNat = 9) ∧ ¬ (bt s f).toNat = 10 ∧ ¬ (bt s f).toNat = 13 := by
  unfold blankB at hb
  simp only [Bool.or_eq_false_iff, beq_eq_false_iff_ne, ne_eq] at hb
  obtain ⟨⟨⟨u1, u2⟩, u3⟩, u4⟩ := hb
  refine ⟨⟨fun h => u1 ?_, fun h => u2 ?_⟩, fun h => u3 ?_, fun h => u4 ?_⟩ <;> exact UInt8.toNat_inj.1 (by simpa using h)

/-- All that is to come: tokens, and a fault's place. -/
def items (r : List Row × Int × Nat) : List (Row × Int) := r.1.map (fun t => (t, 0)) ++ (if r.2.1 = 0 then [] else [(tokR 0 r.2.2 0 [], r.2.1)])

section
variable {M : Prims} (pm : PM M) {S : SFn} {Lp : (St → St) → (St → Option (AI.Exit × St)) → St → Option (AI.Exit × St)} {N m a f q : Nat} {s : List UInt8} {G HY : Nat → Option Jump → List Blk} {RY : List Nat}
variable (fr : Fr m G HY RY s)
include pm fr
theorem w10_err {r : Row} (hr : r.length = 4) {x : Int} {q' : Nat} {b : Bool} {p' : Option Jump} (h12 : S (.fn 12) [.pv (.int .u8 (bt s f).toNat)] [] = some (.ret (.pv (.int .i64 ((pickN (bt s f) : Nat) : Int))), [])) (hf : f < s.length) (hb : blankB (bt s f) = false)
    (hT : S (.fn (25 + pickN (bt s f))) [.ptr 0 0] (cutH 0 s f q) = some (.ret (.tup [.prow r, .pv (.int .i64 x)]), cutH 0 s f q')) (hx : ¬ x = 0)
    (hY : S (.yld 0) [.prow (tokR 0 q' 0 []), .pv (.int .i64 x)] (HY a none) = some (.ret (.pv (.bool b)), HY (a + 1) p')) :
    tell M (head m ⟨[], [], [], []⟩) (exec M S Lp m rf10_b0 ⟨.yld 0 :: .ptr 1 0 :: .bad :: .ptr m 0 :: .ptr (m + 1) 0 :: bads 64, G a none ++ [cutB s f q, takB], []⟩) =
      some (.ret, true, ⟨bads 69, G (a + 1) p', []⟩) := by
  match r, hr with
  | [r0, r1, r2, r3], _ =>
  have ln := fr.len a none
  have ln1 := fr.len (a + 1) p'
  have m2 := fr.m2
  have h1m : ¬ (1 = m) := by omega
  have hm1 : ¬ (m = 1) := by omega
  have hm2 : ¬ (m + 2 = 1) := by omega
  have h2m : ¬ (1 = m + 2) := by omega
  have te := fr.te1 (a + 1) p' f q' r0 r1 r2 r3
  have hoT := fr.hoT a none f q
  have tbT := fr.tbT a none f q f q' [r0, r1, r2, r3] (.int .i64 x)
  have hoY := fr.hoY a f q' r0 r1 r2 r3 (tokR 0 q' 0 []) (.int .i64 x)
  have tbY := fr.tbY a (a + 1) p' f q' r0 r1 r2 r3 (.bool b)
  have rc := fr.rc a none f q
  have ry' : RY.all (fun i => Nat.blt i (m + 3)) = true := fr.ry
  have ry2 := fr.ry2 (a + 1) p'
  have g0 := gS' (fr.sb a none)
  have hp := pickN_lt (bt s f)
  have hp' : pickN (bt s f) + 1 ≤ 5 := hp
  have tg := takL_get hp
  obtain ⟨⟨b1, b2⟩, b3, b4⟩ := blank_not hb
  simp only [cutB, takB, tokB, tokR, cutH, bads, List.replicate, Int.natCast_zero] at te hoT tbT hoY tbY rc hT hY
  simp [rf10_b0, rf10_a0, cutB, takB, gA ln, gA1 ln, gA2 ln, sA ln, sA2 ln, gA ln1, gA1 ln1, gA2 ln1, sA ln1, g0, ln, ln1, hf, b1, b2, b3, b4, te, h1m, hm1, hm2, h2m, h12, ho0, tb0, lit_cast, hp, hp', takL_len, tg, rc, rc0, hoT, tbT, hT, hoY, tbY, hY, ry', ry2, hx, exec, runOps, stepG, opRun, sv, strip, evalO, sV, iV, bV, bads, put, ROp.dst, ROp.quiet, guardOf, impAll, pvOf, pvOf?, callRun, callFn, prep, argOf, behind, List.replicate, idsOfs, idsOf, AM.lent, tell, head, openAll, forget, List.range, List.range.loop, cellsOf, widOk, mkAgg, splice, resOne, resAll, resVal, runFn, freeze, freezeAll, depth, allPV, isRow, lit?, eqNil, nilOp, flatL, flatLs, rowsOf, isRow, freezeRow, LV.sc, rowParts, buildParts, okAll, touch, meets, apart, apartAll, runDraw, argIds, rowIds, List.range', rowsWide, byteOf?, byteRow, lendP, Nat.testBit_eq_decide_div_mod_eq, callYld, pm.chk, pm.isB, pm.truth, pm.gd, pm.imp, pm.and, pm.pickT, pm.pickF, pm.not, pm.notOk, pm.len, pm.lenL, pm.lenOk, pm.lenOkL, pm.sidx, pm.sidxOk, pm.add, pm.sub, pm.mul, pm.quo, pm.rem, pm.eql, pm.neq, pm.lss, pm.leq, pm.gtr, pm.geq, pm.addOk, pm.subOk, pm.mulOk, pm.quoOk, pm.remOk, pm.eqlOk, pm.neqOk, pm.lssOk, pm.leqOk, pm.gtrOk, pm.geqOk, pm.seql, pm.sneq, pm.seqlOk, pm.sneqOk, pm.beql, pm.bneq, pm.beqlOk, pm.bneqOk, pm.conv, pm.convOk, pm.cut, pm.cutA, pm.cutOk, pm.cutAOk, pm.rowsOk, pm.rlen, pm.cell, pm.wid, pm.widGe, pm.repl, pm.replOk, pm.nat, pm.natOk, pm.rget, pm.rput, pm.sub2, pm.lidx, pm.lidxOk, pm.lim, pm.rapp, pm.rowsL, pm.rowsS, pm.rowsOkL, pm.str, pm.strOk, pm.flatI, pm.flatB, pm.flatS, pm.join, pm.joinOk, pm.pidx, pm.pidxOk, pm.shl, pm.shr, pm.shlOk, pm.shrOk, pm.orI, pm.andI, pm.orOk, pm.andOk, pm.andNI, pm.andNOk]

/-- Where the loop leaves. -/
def out10 (G : Nat → Option Jump → List Blk) (ws : List (Row × Int)) (go : Nat → Bool) (x : Option (AI.Exit × St)) : Prop :=
  ∃ a' p', (x = some (.exit 0, ⟨bads 69, G a' p', []⟩) ∨ x = some (.ret, ⟨bads 69, G a' p', []⟩)) ∧ ((p' = none ∧ a' = ws.length) ∨ (go a' = false ∧ p' = some (.exit 2)))
theorem w10_loop {ws : List (Row × Int)} {go : Nat → Bool}
    (h12 : ∀ c : UInt8, S (.fn 12) [.pv (.int .u8 c.toNat)] [] = some (.ret (.pv (.int .i64 ((pickN c : Nat) : Int))), []))
    (hT : ∀ f q : Nat, f < s.length → S (.fn (25 + pickN (bt s f))) [.ptr 0 0] (cutH 0 s f q) = some (.ret (.tup [.prow (nextN s f).1, .pv (.int .i64 (nextN s f).2.1)]), cutH 0 s f (if (nextN s f).2.1 = 0 then q else (nextN s f).2.2)))
    (hY : ∀ (a : Nat) r x, ws[a]? = some (r, x) → S (.yld 0) [.prow r, .pv (.int .i64 x)] (HY a none) = some (.ret (.pv (.bool (go (a + 1)))), HY (a + 1) (if go (a + 1) then none else some (.exit 2))))
    (hs : s.length ≤ 1048576) : ∀ (k N f q a : Nat), s.length - f < k → k ≤ N → a ≤ ws.length → ws.drop a = items (seqN s k f) →
    out10 G ws go (outOf (head m ⟨[], [], [], []⟩) (loopAt M N (head m rf10_a0) (exec M S Lp m rf10_b0) ⟨.yld 0 :: .ptr 1 0 :: .bad :: .ptr m 0 :: .ptr (m + 1) 0 :: bads 64, G a none ++ [cutB s f q, takB], []⟩))
  | 0, _, f, _, _, h, _, _, _ => by omega
  | k + 1, 0, _, _, _, _, h, _, _ => by omega
  | k + 1, N + 1, f, q, a, h, hN, ha, hw => by
    simp only [seqN] at hw
    by_cases hf : f < s.length
    · rw [if_pos hf] at hw
      cases hb : blankB (bt s f) with
      | true =>
        rw [hb, if_pos rfl] at hw
        have st := w10_blank (Lp := Lp) (S := S) (a := a) (q := q) (pj := none) pm fr hf hs hb
        obtain ⟨a', p', e1, e2⟩ := w10_loop h12 hT hY hs k N (f + 1) q a (by omega) (by omega) ha hw
        exact ⟨a', p', e1.imp (loop_next st) (loop_next st), e2⟩
      | false =>
        rw [hb, if_neg (by simp)] at hw
        have et := hT f q hf
        by_cases he : (nextN s f).2.1 = 0
        · obtain ⟨kd, e, t, e1, e2⟩ := nextN_ok hf he
          rw [e1] at et hw
          rw [if_neg (by simp)] at hw
          have hte : (tokEnd (tokR kd f e t)).toNat = e := by simp [tokEnd, tokR]
          simp only [hte] at hw
          have hw2 : ws.drop a = (tokR kd f e t, 0) :: items (seqN s k e) := by rw [hw]; simp [items]
          have hlt : a < ws.length := by
            rcases Nat.lt_or_ge a ws.length with h | h
            · exact h
            · rw [List.drop_eq_nil_of_le h] at hw2; cases hw2
          rw [List.drop_eq_getElem_cons hlt] at hw2
          injection hw2 with hw3 hw4
          have yi := hY a _ _ (by rw [List.getElem?_eq_getElem hlt, hw3])
          obtain ⟨t1, t2⟩ := w10_tok (Lp := Lp) (q := q) pm fr (h12 _) hf hb (by simpa using et) yi
          cases hg : go (a + 1) with
          | true =>
            have st := t1 hg
            rw [hg] at st
            obtain ⟨a', p', e1, e2⟩ := w10_loop h12 hT hY hs k N e q (a + 1) (by omega) (by omega) hlt hw4
            exact ⟨a', p', e1.imp (loop_next st) (loop_next st), e2⟩
          | false =>
            have st := t2 hg
            rw [hg] at st
            exact ⟨a + 1, _, .inr (loop_out st (by simp) (fun _ _ => head_oks _ _)), .inr ⟨hg, rfl⟩⟩
        · rw [if_pos he] at hw
          rw [if_neg he] at et
          have hw2 : ws.drop a = [(tokR 0 (nextN s f).2.2 0 [], (nextN s f).2.1)] := by rw [hw]; simp [items, he]
          have hlt : a < ws.length := by
            rcases Nat.lt_or_ge a ws.length with h | h
            · exact h
            · rw [List.drop_eq_nil_of_le h] at hw2; cases hw2
          have hlen : a + 1 = ws.length := by
            have := congrArg List.length hw2
            simp at this; omega
          rw [List.drop_eq_getElem_cons hlt] at hw2
          injection hw2 with hw3 hw4
          have yi := hY a _ _ (by rw [List.getElem?_eq_getElem hlt, hw3])
          have st := w10_err (Lp := Lp) (q := q) pm fr nextN_err (h12 _) hf hb et he yi
          refine ⟨a + 1, _, .inr (loop_out st (by simp) (fun _ _ => head_oks _ _)), ?_⟩
          cases hg : go (a + 1) with
          | true => exact .inl ⟨rfl, hlen⟩
          | false => exact .inr ⟨rfl, rfl⟩
    · rw [if_neg hf] at hw
      have : a = ws.length := by
        have := congrArg List.length hw
        simp [items] at this; omega
      exact ⟨a, none, .inl (loop_out (w10_end pm fr hf) (by simp) (fun _ _ => head_oks _ _)), .inl ⟨rfl, this⟩⟩

theorem w10 {ws : List (Row × Int)} {go : Nat → Bool}
    (h12 : ∀ c : UInt8, S (.fn 12) [.pv (.int .u8 c.toNat)] [] = some (.ret (.pv (.int .i64 ((pickN c : Nat) : Int))), []))
    (hT : ∀ f q : Nat, f < s.length → S (.fn (25 + pickN (bt s f))) [.ptr 0 0] (cutH 0 s f q) = some (.ret (.tup [.prow (nextN s f).1, .pv (.int .i64 (nextN s f).2.1)]), cutH 0 s f (if (nextN s f).2.1 = 0 then q else (nextN s f).2.2)))
    (hY : ∀ (a : Nat) r x, ws[a]? = some (r, x) → S (.yld 0) [.prow r, .pv (.int .i64 x)] (HY a none) = some (.ret (.pv (.bool (go (a + 1)))), HY (a + 1) (if go (a + 1) then none else some (.exit 2))))
    (h11 : S (.fn 11) [] [] = some (.ret (.row takL), []))
    (hs : s.length ≤ 1048576) (hN : s.length + 10 < N) (hw : ws = items (seqN s (s.length + 1) 0)) :
    ∃ a' p', runFn M S (loopAt M N) rf10 [.yld 0, .ptr 1 0] (G 0 none) = some (.ret (.tup []), G a' p') ∧ ((p' = none ∧ a' = ws.length) ∨ (go a' = false ∧ p' = some (.exit 2))) := by
  obtain ⟨a', p', e1, e2⟩ := w10_loop (Lp := loopAt M N) pm fr h12 hT hY hs (s.length + 1) N 0 0 0 (by omega) (by omega) (by omega) (by rw [hw]; rfl)
  refine ⟨a', p', ?_, e2⟩
  have ln := fr.len 0 none
  have td := fr.td 0 none 0 0
  have tf := fr.tf a' p'
  have g0 := gS (fr.sb 0 none)
  have g1 := fr.sb 0 none
  simp only [cutB, takB, takL, bads, List.replicate, Int.natCast_zero] at td e1 h11
  have tbT := tbT0
  simp only [takL] at tbT
  rcases e1 with e1 | e1
  · simp [rf10, cutB, gA ln, gA1 ln, sA ln, sA1 ln, g0, g1, ln, td, tf, h11, hoN, tbT, e1, exec, runOps, stepG, opRun, sv, strip, evalO, sV, iV, bV, bads, put, ROp.dst, ROp.quiet, guardOf, impAll, pvOf, pvOf?, callRun, callFn, prep, argOf, behind, List.replicate, idsOfs, idsOf, AM.lent, tell, head, openAll, forget, List.range, List.range.loop, cellsOf, widOk, mkAgg, splice, resOne, resAll, resVal, runFn, freeze, freezeAll, depth, allPV, isRow, lit?, eqNil, nilOp, flatL, flatLs, rowsOf, isRow, freezeRow, LV.sc, rowParts, buildParts, okAll, touch, meets, apart, apartAll, runDraw, argIds, rowIds, List.range', rowsWide, byteOf?, byteRow, lendP, Nat.testBit_eq_decide_div_mod_eq, callYld, pm.chk, pm.isB, pm.truth, pm.gd, pm.imp, pm.and, pm.pickT, pm.pickF, pm.not, pm.notOk, pm.len, pm.lenL, pm.lenOk, pm.lenOkL, pm.sidx, pm.sidxOk, pm.add, pm.sub, pm.mul, pm.quo, pm.rem, pm.eql, pm.neq, pm.lss, pm.leq, pm.gtr, pm.geq, pm.addOk, pm.subOk, pm.mulOk, pm.quoOk, pm.remOk, pm.eqlOk, pm.neqOk, pm.lssOk, pm.leqOk, pm.gtrOk, pm.geqOk, pm.seql, pm.sneq, pm.seqlOk, pm.sneqOk, pm.beql, pm.bneq, pm.beqlOk, pm.bneqOk, pm.conv, pm.convOk, pm.cut, pm.cutA, pm.cutOk, pm.cutAOk, pm.rowsOk, pm.rlen, pm.cell, pm.wid, pm.widGe, pm.repl, pm.replOk, pm.nat, pm.natOk, pm.rget, pm.rput, pm.sub2, pm.lidx, pm.lidxOk, pm.lim, pm.rapp, pm.rowsL, pm.rowsS, pm.rowsOkL, pm.str, pm.strOk, pm.flatI, pm.flatB, pm.flatS, pm.join, pm.joinOk, pm.pidx, pm.pidxOk, pm.shl, pm.shr, pm.shlOk, pm.shrOk, pm.orI, pm.andI, pm.orOk, pm.andOk, pm.andNI, pm.andNOk]
  · simp [rf10, cutB, gA ln, gA1 ln, sA ln, sA1 ln, g0, g1, ln, td, tf, h11, hoN, tbT, e1, exec, runOps, stepG, opRun, sv, strip, evalO, sV, iV, bV, bads, put, ROp.dst, ROp.quiet, guardOf, impAll, pvOf, pvOf?, callRun, callFn, prep, argOf, behind, List.replicate, idsOfs, idsOf, AM.lent, tell, head, openAll, forget, List.range, List.range.loop, cellsOf, widOk, mkAgg, splice, resOne, resAll, resVal, runFn, freeze, freezeAll, depth, allPV, isRow, lit?, eqNil, nilOp, flatL, flatLs, rowsOf, isRow, freezeRow, LV.sc, rowParts, buildParts, okAll, touch, meets, apart, apartAll, runDraw, argIds, rowIds, List.range', rowsWide, byteOf?, byteRow, lendP, Nat.testBit_eq_decide_div_mod_eq, callYld, pm.chk, pm.isB, pm.truth, pm.gd, pm.imp, pm.and, pm.pickT, pm.pickF, pm.not, pm.notOk, pm.len, pm.lenL, pm.lenOk, pm.lenOkL, pm.sidx, pm.sidxOk, pm.add, pm.sub, pm.mul, pm.quo, pm.rem, pm.eql, pm.neq, pm.lss, pm.leq, pm.gtr, pm.geq, pm.addOk, pm.subOk, pm.mulOk, pm.quoOk, pm.remOk, pm.eqlOk, pm.neqOk, pm.lssOk, pm.leqOk, pm.gtrOk, pm.geqOk, pm.seql, pm.sneq, pm.seqlOk, pm.sneqOk, pm.beql, pm.bneq, pm.beqlOk, pm.bneqOk, pm.conv, pm.convOk, pm.cut, pm.cutA, pm.cutOk, pm.cutAOk, pm.rowsOk, pm.rlen, pm.cell, pm.wid, pm.widGe, pm.repl, pm.replOk, pm.nat, pm.natOk, pm.rget, pm.rput, pm.sub2, pm.lidx, pm.lidxOk, pm.lim, pm.rapp, pm.rowsL, pm.rowsS, pm.rowsOkL, pm.str, pm.strOk, pm.flatI, pm.flatB, pm.flatS, pm.join, pm.joinOk, pm.pidx, pm.pidxOk, pm.shl, pm.shr, pm.shlOk, pm.shrOk, pm.orI, pm.andI, pm.orOk, pm.andOk, pm.andNI, pm.andNOk]
end
end AI.Tok
end

section
namespace AI.Tok
open Go AI
set_option maxRecDepth 100000
set_option maxHeartbeats 4000000
set_option linter.unusedSimpArgs false
set_option linter.unusedVariables false

def rA : RCode :=
  (.seq (.region [⟨.alloc 11 27 [.pv (.int .i64 0), .pv (.int .i64 0), .pv (.int .i64 0), .pv (.str [])], none⟩,
   ⟨.store 4 (.t 11) (.t 37), none⟩])
  (.region [⟨.mov 12 (.t 38), none⟩]))
def rB : RCode :=
  (.block 3 (.seq (.seq (.draw [⟨.load 39 false 1 (.t 10), none⟩,
   ⟨.load 40 false 1 (.t 5), none⟩,
   ⟨.len 41 false (.t 40), none⟩,
   ⟨.bin 42 0 .geq (.t 39) (.t 41), none⟩,
   ⟨.mov 43 (.t 42), none⟩,
   ⟨.load 44 true 4 (.t 11), some (43, false)⟩,
   ⟨.load 45 false 1 (.t 5), some (43, false)⟩,
   ⟨.load 46 false 1 (.t 10), some (43, false)⟩,
   ⟨.idxA 47 4 (.t 45) (.t 46), some (43, false)⟩,
   ⟨.load 48 true 4 (.t 47), some (43, false)⟩,
   ⟨.call (some 49) 6 [(.frzR 4, (.t 44)), (.frzR 4, (.t 48))], some (43, false)⟩,
   ⟨.un 50 .not (.t 49), some (43, false)⟩,
   ⟨.pick 51 (.t 43) (.k (.pv (.bool true))) (.t 50), none⟩] [0, 0, 2, 7, 15, 31, 31, 31, 223, 479, 1023, 2047, 4095])
  (.cond (.t 51) (.seq (.region [⟨.store 1 (.t 4) (.k (.pv (.bool false))), none⟩])
  .ret) .skip))
  (.seq (.seq (.region [⟨.load 52 false 1 (.t 10), none⟩,
   ⟨.load 53 false 1 (.t 5), none⟩,
   ⟨.len 54 false (.t 53), none⟩,
   ⟨.bin 55 0 .sub (.t 54) (.k (.pv (.int .i64 1))), none⟩,
   ⟨.bin 56 0 .eql (.t 52) (.t 55), none⟩,
   ⟨.mov 57 (.t 56), none⟩,
   ⟨.load 58 false 1 (.t 6), some (57, true)⟩,
   ⟨.bin 59 0 .neq (.t 58) (.k (.pv (.int .i64 0))), some (57, true)⟩,
   ⟨.pick 60 (.t 57) (.t 59) (.k (.pv (.bool false))), none⟩,
   ⟨.mov 61 (.t 12), none⟩,
   ⟨.bin 62 0 .neq (.t 61) (.k (.pv (.int .i64 0))), none⟩,
   ⟨.bin 63 1 .neq (.t 60) (.t 62), none⟩,
   ⟨.mov 64 (.t 63), none⟩,
   ⟨.mov 65 (.t 12), some (64, false)⟩,
   ⟨.bin 66 0 .neq (.t 65) (.k (.pv (.int .i64 0))), some (64, false)⟩,
   ⟨.mov 67 (.t 66), some (64, false)⟩,
   ⟨.mov 68 (.t 12), some (67, true)⟩,
   ⟨.load 69 false 1 (.t 6), some (67, true)⟩,
   ⟨.bin 70 0 .neq (.t 68) (.t 69), some (67, true)⟩,
   ⟨.pick 71 (.t 67) (.t 70) (.k (.pv (.bool false))), some (64, false)⟩,
   ⟨.pick 72 (.t 64) (.k (.pv (.bool true))) (.t 71), none⟩])
  (.cond (.t 72) (.seq (.region [⟨.store 1 (.t 4) (.k (.pv (.bool false))), none⟩])
  .ret) .skip))
  (.seq (.region [⟨.load 73 false 1 (.t 10), none⟩,
   ⟨.bin 74 0 .add (.t 73) (.k (.pv (.int .i64 1))), none⟩,
   ⟨.store 1 (.t 10) (.t 74), none⟩])
  (.seq (.region [⟨.load 75 false 1 (.t 9), none⟩,
   ⟨.bin 76 0 .eql (.t 75) (.k (.pv (.int .i64 0))), none⟩,
   ⟨.mov 77 (.t 76), none⟩,
   ⟨.load 78 false 1 (.t 10), some (77, true)⟩,
   ⟨.load 79 false 1 (.t 3), some (77, true)⟩,
   ⟨.bin 80 0 .eql (.t 78) (.t 79), some (77, true)⟩,
   ⟨.pick 81 (.t 77) (.t 80) (.k (.pv (.bool false))), none⟩])
  (.cond (.t 81) (.exit 2) .skip))))))
def b3 : RCode :=
  (.seq (.seq (.region [⟨.load 30 false 1 (.t 9), none⟩,
   ⟨.bin 31 0 .lss (.t 30) (.k (.pv (.int .i64 2))), none⟩])
  (.cond (.t 31) .skip (.exit 0)))
  (.seq (.block 1 (.seq (.region [⟨.alloc 10 3 [.pv (.int .i64 0)], none⟩,
   ⟨.store 1 (.t 10) (.k (.pv (.int .i64 0))), none⟩])
  (.seq (.seq (.region [⟨.mov 34 (.t 8), none⟩,
   ⟨.bin 35 4 .eql (.t 34) (.k (.nilf)), none⟩])
  (.cond (.t 35) (.seq (.region [⟨.store 1 (.t 4) (.k (.pv (.bool false))), none⟩])
  .ret) .skip))
  (.seq (.seq (.region [⟨.mov 36 (.t 8), none⟩])
  (.block 2 (.rng (.t 36) [37, 38] rA rB)))
  (.seq (.region [⟨.load 82 false 1 (.t 10), none⟩,
   ⟨.load 83 false 1 (.t 5), none⟩,
   ⟨.len 84 false (.t 83), none⟩,
   ⟨.bin 85 0 .neq (.t 82) (.t 84), none⟩,
   ⟨.mov 86 (.t 85), none⟩,
   ⟨.load 87 false 1 (.t 9), some (86, true)⟩,
   ⟨.bin 88 0 .eql (.t 87) (.k (.pv (.int .i64 0))), some (86, true)⟩,
   ⟨.mov 89 (.t 88), some (86, true)⟩,
   ⟨.load 90 false 1 (.t 10), some (89, true)⟩,
   ⟨.load 91 false 1 (.t 3), some (89, true)⟩,
   ⟨.bin 92 0 .eql (.t 90) (.t 91), some (89, true)⟩,
   ⟨.pick 93 (.t 89) (.t 92) (.k (.pv (.bool false))), some (86, true)⟩,
   ⟨.un 94 .not (.t 93), some (86, true)⟩,
   ⟨.pick 95 (.t 86) (.t 94) (.k (.pv (.bool false))), none⟩])
  (.cond (.t 95) (.seq (.region [⟨.store 1 (.t 4) (.k (.pv (.bool false))), none⟩])
  .ret) .skip))))))
  (.seq (.seq (.region [⟨.load 96 false 1 (.t 9), none⟩])
  (.region [⟨.alloc 9 3 [.pv (.int .i64 0)], none⟩,
   ⟨.store 1 (.t 9) (.t 96), none⟩]))
  (.region [⟨.load 32 false 1 (.t 9), none⟩,
   ⟨.bin 33 0 .add (.t 32) (.k (.pv (.int .i64 1))), none⟩,
   ⟨.store 1 (.t 9) (.t 33), none⟩]))))
theorem b3_eq : rf3_b0 = b3 := rfl

/-- The temporaries of the law, where the sequence is gone through. -/
def ltm (i3 i4 i5 i6 i8 i9 i10 : Nat) (rd : Int) : List LV :=
  .bad :: .bad :: .bad :: .ptr i3 0 :: .ptr i4 0 :: .ptr i5 0 :: .ptr i6 0 :: .bad :: .clo 10 [] [.ptr i8 0] :: .ptr i9 0 :: .ptr i10 0 :: bads 19 ++ .pv (.int .i64 rd) :: .pv (.bool true) :: .bad :: .bad :: .clo 10 [] [.ptr i8 0] :: .pv (.bool false) :: .clo 10 [] [.ptr i8 0] :: bads 61
def arrL (i : Nat) : Option Rows → LV
  | none => .nils
  | some _ => .ref i 0
def arrB : Option Rows → List Blk
  | none => []
  | some rows => [.arr 4 0 (false, 27) rows]
def atB (a : Nat) : Blk := .data [.pv (.int .i64 a)] 3
section
variable (s : List UInt8) (most e rd : Int) (l : Option Rows)
/-- As the round's body is handed it. -/
def hYn (a : Nat) (p : Option Jump) : List Blk :=
  [.loop (ltm 1 2 3 4 5 6 7 rd) [37, 38] rA rB p, .data [.pv (.int .i64 most)] 0, .data [.pv (.bool false)] 4, .data [arrL 8 l] 22, .data [.pv (.int .i64 e)] 23, .data [.pv (.str s)] 0, .data [.pv (.int .i64 rd)] 3, atB a] ++ arrB l
/-- As the sequence's function is handed it. -/
def hGn (a : Nat) (p : Option Jump) : List Blk :=
  [.loop (ltm 2 3 4 5 1 6 7 rd) [37, 38] rA rB p, .data [.pv (.str s)] 0, .data [.pv (.int .i64 most)] 0, .data [.pv (.bool false)] 4, .data [arrL 8 l] 22, .data [.pv (.int .i64 e)] 23, .data [.pv (.int .i64 rd)] 3, atB a] ++ arrB l
end
theorem frN {s : List UInt8} {most e rd : Int} : Fr 8 (hGn s most e rd none) (hYn s most e rd none) [0, 2, 3, 4, 5, 1, 6, 7] s where
  m2 := by omega
  len := by intros; kernel_rfl
  sb := by intros; kernel_rfl
  td := by intros; kernel_rfl
  td1 := by intros; kernel_rfl
  te := by intros; kernel_rfl
  te1 := by intros; kernel_rfl
  tf := by intros; kernel_rfl
  rc := by intros; kernel_rfl
  hoT := by intros; kernel_rfl
  tbT := by intros; kernel_rfl
  hoY := by intros; kernel_rfl
  tbY := by intros; kernel_rfl
  ry := by kernel_rfl
  ry2 := by intros; kernel_rfl
theorem frS {s : List UInt8} {most e rd : Int} {rows : Rows} : Fr 9 (hGn s most e rd (some rows)) (hYn s most e rd (some rows)) [0, 2, 3, 4, 5, 1, 6, 7, 8] s where
  m2 := by omega
  len := by intros; kernel_rfl
  sb := by intros; kernel_rfl
  td := by intros; kernel_rfl
  td1 := by intros; kernel_rfl
  te := by intros; kernel_rfl
  te1 := by intros; kernel_rfl
  tf := by intros; kernel_rfl
  rc := by intros; kernel_rfl
  hoT := by intros; kernel_rfl
  tbT := by intros; kernel_rfl
  hoY := by intros; kernel_rfl
  tbY := by intros; kernel_rfl
  ry := by kernel_rfl
  ry2 := by intros; kernel_rfl
end AI.Tok
end
