/-
  THE END: a run over nothing that may be written gives the call.
  THREE FUNCTIONS that the machine is told of: (*strings.Builder).copyCheck and String, internal/bytealg.IndexByteString.
  WHAT THE MACHINE RECKONS, as equations.
  THE RUN OF THE LAW's FUNCTIONS: plain facts about the machine, no program in sight.
  DECODING: what the functions of unicode/utf8 compute.
-/
import Derived.Test.YthkidjlemhgnfaaDoorTsG
import Derived.Below
import Derived.WalkKit
import Derived.WalkSpells
import Derived.Shelf.RegionOpenPlain
import Derived.Lib.Builder
import Derived.Lib.UnsafeStr
import Derived.Lib.Bytealg
import Derived.Laws.Externs
import Derived.Lib.DecodeN
set_option linter.unusedVariables false
set_option linter.unusedSimpArgs false
set_option linter.unusedSectionVars false
section
namespace AI
open Go Go.RowKit

section
variable {P : Program} {glob : Nat → Row} {S : SFn}

theorem hrel_nil {G : Ghost} {W : World} (hn : ∀ b, W.heap.size ≤ b → G b = 0) : HRel P G W (lift []) (fun _ => none) :=
  ⟨fun id blk h => by simp [lift] at h, fun i j x y b c c' h => by simp [lift] at h, hn⟩

theorem law_calls (hS : SoundFn P glob S) {f : FuncId} {args : List LV} {h' : List Blk} (e : S (.fn f) args [] = some (.ret (.pv (.bool true)), h')) (hp : plainFn P f = true) {G : Ghost} {W : World} {vs : Array Value}
    (hg : GlobRel G W glob) (hn : ∀ b, W.heap.size ≤ b → G b = 0) (ha : LRel G W (lift []) (fun _ => none) args vs.toList) :
    Calls P f vs W (fun e W' => e = .returned (.bool true) ∧ Below W.heap.size W W') := by
  rcases hS.fn f args [] _ h' e G W _ vs (hrel_nil hn) hg ha (fun id sz v f rows h => by simp at h) with ⟨h1, h2⟩ | ⟨r, w', h1, h2⟩
  · refine h2.mono fun e w' h => ?_
    obtain ⟨r, rfl, G', μ', m, -, hv⟩ := h
    have hr := hv.pv_inv
    rw [hr.bool_inv]
    exact ⟨rfl, m.evo.os, m.evo.tape, m.evo.output, m.evo.size, fun k hk => (m.frame k hk (fun id x c h => by simp [lift] at h)).1⟩
  · rw [callFunc_plain hp] at h1; cases h1
end
end AI
end

section
namespace AI.Tok
open Go AI Go.RowKit Go.Proofs

theorem size71 : (Tryd.prog.info? 71).map (·.size) = some 2 := by kernel_rfl
theorem lies71 : liesAt Tryd.prog Tryd.prog.depth 71 (2 / Tryd.prog.cellsOf 71) 0 71 1 = true := by kernel_rfl
theorem info70 : ∃ j, Tryd.prog.info? 71 = some j ∧ j.size = 2 := Option.map_eq_some_iff.1 size71

set_option maxHeartbeats 1000000 in
set_option maxRecDepth 100000 in
theorem copy_used (b : Nat) (w : World) (h0 : w.cell? ⟨b, 0, none⟩ = some (.pointer (some ⟨b, 0, none⟩))) :
    Calls Tryd.prog 59 #[.pointer (some ⟨b, 0, none⟩)] w fun e w' => e = .returned (.tuple #[]) ∧ w' = w := by
  obtain ⟨j, hj, _⟩ := info70
  go_enter Tryd.func59, Tryd.ntmps59
  go_wp2
  rw [Lib.run_neq_ptr_same w _ Tryd.underlying69 hj]
  go_wp2
  go_end0
  exact ⟨rfl, rfl⟩

set_option maxHeartbeats 1000000 in
set_option maxRecDepth 100000 in
theorem copy_fresh (b : Nat) (w : World) (h0 : w.cell? ⟨b, 0, none⟩ = some (.pointer none)) (hsh : w.shape? b = some (71, 2)) (hfz : w.frozen? ⟨b, 0, none⟩ = false) :
    Calls Tryd.prog 59 #[.pointer (some ⟨b, 0, none⟩)] w fun e w' => e = .returned (.tuple #[]) ∧ w' = w.setCell ⟨b, 0, none⟩ (.pointer (some ⟨b, 0, none⟩)) := by
  obtain ⟨j, hj, hjs⟩ := info70
  go_enter Tryd.func59, Tryd.ntmps59
  go_wp2
  rw [Lib.run_to_unsafe w ⟨b, 0, none⟩ Tryd.underlying69 Tryd.underlying95 hj (by rw [hjs]; decide) hsh (Nat.zero_lt_succ 1)]
  simp only [Result.andThen]
  rw [Oper.upon_value]
  go_wp2
  rw [run_callFunc_extern Tryd.func62 (by kernel_rfl) (by kernel_rfl) (by kernel_rfl) (e := Extern.AbiNoEscape.same) (by kernel_rfl)]
  rw [Lib.run_noEscape]
  simp only [Result.andThen]
  rw [Oper.upon_value]
  go_wp2
  rw [Lib.run_from_unsafe w ⟨b, 0, none⟩ Tryd.underlying95 Tryd.underlying69 hj hsh lies71]
  simp only [Result.andThen]
  rw [Oper.upon_value]
  go_wp2
  go_end0
  exact ⟨rfl, rfl⟩

set_option maxHeartbeats 2000000 in
set_option maxRecDepth 100000 in
theorem str_nil (b : Nat) (w : World) (c1 : w.drew.cell? ⟨b, 1, none⟩ = some (.slice none 0 0)) :
    Calls Tryd.prog 46 #[.pointer (some ⟨b, 0, none⟩)] w fun e w' => e = .returned (.string ⟨#[]⟩) ∧ w' = w.drew := by
  have hUS : ∀ (W : World) (q : Option Addr), (Builtin.unsafeString_ #[84, 3] 9 #[.pointer q, .int .i64 0]).run Tryd.prog W = .ok (.string .empty) W := fun W q => Lib.run_unsafeString_none W _ _ _ q
  have hSD : (Builtin.unsafeSliceData_ #[67] 84 #[.slice none 0 0]).run Tryd.prog w.drew = .ok (.pointer none) w.drew := rfl
  have mixed : Tryd.prog.follows .mixedOrders = true := Tok.mixed
  go_enter Tryd.func46, Tryd.ntmps46
  go_wp2
  go_region_o
  all_goals (go_wp2; go_ret; exact ⟨rfl, rfl⟩)

set_option maxHeartbeats 2000000 in
set_option maxRecDepth 100000 in
theorem str_some (b g cap : Nat) (l : List UInt8) (cur : Array Value) (fr : Nat × Nat) (w : World) (h0 : l ≠ []) (hcap : cap ≠ 0) (hle : l.length ≤ cur.size) (h63 : l.length ≤ 9223372036854775807)
    (c1 : w.drew.cell? ⟨b, 1, none⟩ = some (.slice (some ⟨g, 0, none⟩) l.length cap)) (hg : w.heap[g]? = some (.cells cur 5 fr)) (hcells : ∀ (j : Nat) (x : UInt8), l[j]? = some x → cur[j]? = some (Value.int .u8 x.toNat)) :
    Calls Tryd.prog 46 #[.pointer (some ⟨b, 0, none⟩)] w fun e w' => e = .returned (.string ⟨l.toArray⟩) ∧ w' = w.drew.freeze ⟨g, 0, none⟩ l.length := by
  have hSD : (Builtin.unsafeSliceData_ #[67] 84 #[.slice (some ⟨g, 0, none⟩) l.length cap]).run Tryd.prog w.drew = .ok (.pointer (some ⟨g, 0, none⟩)) w.drew :=
    Lib.run_unsafeSliceData_row _ _ _ _ _ _ hcap
  have hg' : w.drew.heap[g]? = some (.cells cur 5 fr) := hg
  have hUS : (Builtin.unsafeString_ #[84, 3] 9 #[.pointer (some ⟨g, 0, none⟩), .int .i64 l.length]).run Tryd.prog w.drew = .ok (.string ⟨l.toArray⟩) (w.drew.freeze ⟨g, 0, none⟩ l.length) := by
    refine Lib.run_unsafeString_row w.drew 84 3 9 5 Tryd.underlying84 (by kernel_rfl) g cur.size (by simp [World.shape?, hg']) l h0 hle h63 ?_
    intro j x hx
    rw [add_plain, Nat.zero_add, blk_cell hg']; exact hcells j x hx
  clear hcap hg hg' hcells h0 hle
  have mixed : Tryd.prog.follows .mixedOrders = true := Tok.mixed
  go_enter Tryd.func46, Tryd.ntmps46
  go_wp2
  go_region_o
  all_goals (go_wp2; go_ret; exact ⟨rfl, rfl⟩)

/-! ### As the machine is told -/
def ovCopy (_ : SFn) (args : List LV) (h : List Blk) : Option (Out × List Blk) :=
  match args with
  | [.ptr id 0] => match h[id]? with
    | some (.data [.pv .nilp, c1] 71) => some (.ret (.tup []), h.set id (.data [.ptr id 0, c1] 71))
    | some (.data [.ptr i 0, _] 71) => if i = id then some (.ret (.tup []), h) else none
    | _ => none
  | _ => none
def bytesOfRows (rows : Rows) : List UInt8 := rows.map fun r => (byteOf? r).getD 0
def ovString (_ : SFn) (args : List LV) (h : List Blk) : Option (Out × List Blk) :=
  match args with
  | [.ptr id 0] => match h[id]? with
    | some (.data [_, .nils] 71) => some (.ret (.pv (.str [])), h)
    | some (.data [c0, .ref i ver] 71) => match h[i]? with
      | some (.arr 0 v _ []) => if v = ver then some (.ret (.pv (.str [])), h) else none
      | some (.arr 1 v f rows) => if (v = ver ∧ f.2 = 5) ∧ (rows ≠ [] ∧ (rows.all fun r => (byteOf? r).isSome) = true) ∧ rows.length ≤ 9223372036854775807 then
          some (.ret (.pv (.str (bytesOfRows rows))), (h.set id (.data [c0, .bad] 71)).set i .dead) else none
      | _ => none
    | _ => none
  | _ => none
def ovIdx (_ : SFn) (args : List LV) (h : List Blk) : Option (Out × List Blk) :=
  match args with
  | [.pv (.str s), .pv (.int .u8 c)] => some (.ret (.pv (.int .i64 (Lib.indexByte s c.toNat.toUInt8))), h)
  | _ => none
def ov : Nat → Option Over
  | 59 => some ovCopy
  | 46 => some ovString
  | 49 => some ovIdx
  | _ => none

section
variable {glob : Nat → Row}

theorem one_arg {G : Ghost} {w : World} {h : HF} {μ : Loc} {x : LV} {vs : Array Value} (ha : LRel G w h μ [x] vs.toList) : ∃ v, vs = #[v] ∧ RV G w h μ x v := by
  obtain ⟨h1, h2⟩ := ha
  match hv : vs.toList, h1 with
  | [v], _ => exact ⟨v, by rw [← Array.toArray_toList (xs := vs), hv], h2 0 x v rfl (by rw [hv]; rfl)⟩

/-- A builder's block. -/
theorem builder {G : Ghost} {w : World} {μ : Loc} {h : List Blk} {id : Nat} {x0 x1 : LV} {v : Value} (r : HRel P G w (lift h) μ) (hb : h[id]? = some (.data [x0, x1] 71)) (hv : RV G w (lift h) μ (.ptr id 0) v) :
    ∃ b c v0 v1, v = .pointer (some ⟨b, 0, none⟩) ∧ μ id = some (b, c) ∧ w.heap[b]? = some (.cells #[v0, v1] 71 (0, 0)) ∧ G b = 0 ∧ RV G w (lift h) μ x0 v0 ∧ RV G w (lift h) μ x1 v1 ∧ one v0 = true ∧ one v1 = true := by
  obtain ⟨b1, c1, vs, tt, m1, m2, m3, m4, m5⟩ := r.own id _ hb
  obtain ⟨b, ex, hd, hv⟩ := hv.ptr_inv
  obtain ⟨c, m6⟩ := hv _ _ hb
  obtain rfl : b1 = b := by rw [m1] at m6; cases m6; rfl
  obtain rfl := m4.2 (by decide)
  match hvs : vs.toList, m3 with
  | [v0, v1], _ =>
    obtain rfl : vs = #[v0, v1] := by rw [← Array.toArray_toList (xs := vs), hvs]
    obtain ⟨p1, p2⟩ := m5 0 x0 v0 rfl rfl
    obtain ⟨p3, p4⟩ := m5 1 x1 v1 rfl rfl
    exact ⟨b1, c1, v0, v1, ex, m1, m2, m4.1, p1, p3, p2, p4⟩
  | [], m3 => simp [← Array.length_toList, hvs] at m3
  | [_], m3 => simp [← Array.length_toList, hvs] at m3
  | _ :: _ :: _ :: _, m3 => simp [← Array.length_toList, hvs] at m3

theorem plain59 : plainFn P 59 = true := by kernel_rfl
theorem plain46 : plainFn P 46 = true := by kernel_rfl

theorem acts_of {f : FuncId} (hp : plainFn P f = true) {vs : Array Value} {w w1 : World} {r : Value} {R : Value → World → Prop} (h : Calls P f vs w fun e w' => e = .returned r ∧ w' = w1) (hR : R r w1) : Acts P f vs w R :=
  .inl ⟨callFunc_plain hp vs w, h.mono fun e w' h => ⟨r, h.1, by rw [h.2]; exact hR⟩⟩

theorem ovCopy_ok (S : SFn) : FnOk P glob 59 (ovCopy S) := by
  intro args h0 v h' e G w μ vs hr hg ha hz
  unfold ovCopy at e
  split at e <;> try cases e
  rename_i id
  obtain ⟨u, rfl, hu⟩ := one_arg ha
  split at e
  · rename_i c1 hb
    cases e
    obtain ⟨b, c, v0, v1, rfl, m1, m2, hG, q0, q1, o0, o1⟩ := builder hr hb hu
    have hv0 : v0 = .pointer none := by have := q0.pv_inv; cases this; rfl
    subst hv0
    refine acts_of plain59 (copy_fresh b w (by rw [blk_cell m2]; rfl) (by simp [World.shape?, m2]) (by simp [World.frozen?, m2])) ?_
    have hlt := blk_lt m2
    have heap : (w.setCell ⟨b, 0, none⟩ (.pointer (some ⟨b, 0, none⟩))).heap[b]? = some (.cells #[.pointer (some ⟨b, 0, none⟩), v1] 71 (0, 0)) := by
      simp [World.setCell, Array.getElem?_modify, m2]
    have evo : Evo G w G (w.setCell ⟨b, 0, none⟩ (.pointer (some ⟨b, 0, none⟩))) :=
      ⟨rfl, rfl, rfl, by simp [World.setCell], fun b' o ho => ⟨ho, by
        have hne : b' ≠ b := fun e => by rw [e, hG] at ho; omega
        have := Below.heap_setCell w ⟨b, 0, none⟩ (.pointer (some ⟨b, 0, none⟩)) b' hne
        simp only [World.cell?, this]⟩⟩
    have hn : id < h0.length := (List.getElem?_eq_some_iff.1 hb).1
    have hcomp : Comp (lift h0) μ (fun i => if i = id then some (.data [.ptr id 0, c1] 71) else lift h0 i) (fun i => if i = id then μ id else μ i) :=
      comp_set hb _ _ (fun _ _ h => by cases h; exact ⟨⟨_, rfl⟩, rfl⟩) (fun _ _ _ _ h => by cases h) (fun _ _ _ _ _ h => by cases h)
    have key := hr.one (G' := G) (w' := w.setCell ⟨b, 0, none⟩ (.pointer (some ⟨b, 0, none⟩))) (n := id) (blk := .data [.ptr id 0, c1] 71) (m := μ id) evo hcomp
      (fun k hk hne => ⟨Below.heap_setCell _ _ _ k (fun e => hne _ c hb (by simp) (by rw [m1, e])), rfl⟩)
      (fun b' c' _ hm => .inr ⟨_, c', hb, by simp, hm⟩)
      ⟨b, c, _, 71, by simp [m1], heap, rfl, ⟨hG, fun _ => rfl⟩, fun j x y hx hy => by
        match j with
        | 0 => simp at hx hy; subst hx; subst hy; exact ⟨.ptr id 0 b ⟨.data [.ptr id 0, c1] 71, by simp⟩ (fun _ _ _ => ⟨c, by simp [m1]⟩), rfl⟩
        | 1 => simp at hx hy; subst hx; subst hy; exact ⟨q1.evo evo hcomp, o1⟩
        | j + 2 => simp at hx⟩
      (fun b' hb' => hr.new b' (by simpa [World.setCell] using hb'))
    rw [ite_self_loc, ← lift_set hn] at key
    exact ⟨G, μ, key.1, key.2, .tup [] #[] rfl (fun j x c h => by simp at h)⟩
  · rename_i i c1 hb
    split at e <;> cases e
    rename_i hi
    subst hi
    obtain ⟨b, c, v0, v1, rfl, m1, m2, hG, q0, q1, o0, o1⟩ := builder hr hb hu
    obtain ⟨b2, rfl, hd, hv⟩ := q0.ptr_inv
    obtain ⟨c2, m6⟩ := hv _ _ hb
    obtain rfl : b2 = b := by rw [m1] at m6; cases m6; rfl
    refine acts_of plain59 (copy_used b2 w (by rw [blk_cell m2]; rfl)) ?_
    exact ⟨G, μ, Mv.refl .., hr, .tup [] #[] rfl (fun j x c h => by simp at h)⟩
  · cases e

theorem ovIdx_ok (S : SFn) : FnOk P glob 49 (ovIdx S) := by
  intro args h0 v h' e G w μ vs hr hg ha hz
  unfold ovIdx at e
  split at e <;> cases e
  rename_i s c
  obtain ⟨h1, h2⟩ := ha
  match hv : vs.toList, h1 with
  | [u0, u1], _ =>
    obtain rfl : vs = #[u0, u1] := by rw [← Array.toArray_toList (xs := vs), hv]
    have e0 := (h2 0 _ u0 rfl rfl).pv_inv
    have e1 := (h2 1 _ u1 rfl rfl).pv_inv
    cases e0; cases e1
    refine .inr ⟨_, w, ?_, G, μ, Mv.refl .., hr, .pv _ _ (.int .i64 (Lib.indexByte s c.toNat.toUInt8))⟩
    rw [run_callFunc_extern Tryd.func49 (by kernel_rfl) (by kernel_rfl) (by kernel_rfl) (e := Extern.BytealgIndexByte.indexByte) (by kernel_rfl), Lib.run_indexByteString]
    rfl

theorem byteOf_inv {r : Row} {x : UInt8} (h : byteOf? r = some x) : r = [.int .u8 x.toNat] := by
  unfold byteOf? at h
  split at h <;> try cases h
  rename_i n
  split at h <;> cases h
  rename_i hn
  have : ((UInt8.ofNat n.toNat).toNat : Int) = n := by
    simp; omega
  rw [this]

theorem frozen_heap {w : World} {g n : Nat} {k : Nat} (h : k ≠ g) : (w.drew.freeze ⟨g, 0, none⟩ n).heap[k]? = w.heap[k]? := by
  unfold World.freeze
  split
  · rfl
  · simp only [Array.getElem?_modify]
    rw [if_neg (fun e => h e.symm)]; rfl
theorem frozen_cell {w : World} {g n b o : Nat} : (w.drew.freeze ⟨g, 0, none⟩ n).cell? ⟨b, o, none⟩ = w.cell? ⟨b, o, none⟩ := by
  by_cases h : b = g
  · subst h
    by_cases hn : n = 0
    · subst hn; rfl
    · have hh : (w.drew.freeze ⟨b, 0, none⟩ n).heap[b]? = (w.heap[b]?).map fun
          | .cells c elem (lo, hi) => .cells c elem (if lo == hi then (0, 0 + n) else (min lo 0, max hi (0 + n)))
          | o => o := by
        unfold World.freeze
        rw [if_neg hn]
        simp only [Array.getElem?_modify, if_true]; rfl
      simp only [World.cell?, hh]
      cases w.heap[b]? with
      | none => rfl
      | some x => cases x <;> rfl
  · simp only [World.cell?, frozen_heap h]

theorem ovString_ok (S : SFn) : FnOk P glob 46 (ovString S) := by
  intro args h0 v h' e G w μ vs hr hg ha hz
  unfold ovString at e
  split at e <;> try cases e
  rename_i id
  obtain ⟨u, rfl, hu⟩ := one_arg ha
  have nil : ∀ {b : Nat} {v0 : Value}, u = .pointer (some ⟨b, 0, none⟩) → w.heap[b]? = some (.cells #[v0, .slice none 0 0] 71 (0, 0)) →
      Acts P 46 #[u] w (fun r w' => ∃ G' μ', Mv G w (lift h0) μ G' w' (lift h0) μ' ∧ HRel P G' w' (lift h0) μ' ∧ RV G' w' (lift h0) μ' (.pv (.str [])) r) := by
    intro b v0 hu hb
    subst hu
    refine acts_of plain46 (str_nil b w ?_) ?_
    · have : w.drew.heap[b]? = some (.cells #[v0, .slice none 0 0] 71 (0, 0)) := hb
      rw [blk_cell this]; rfl
    · obtain ⟨m, r⟩ := drew_mv (w' := w.drew) hr rfl rfl rfl rfl
      exact ⟨G, μ, m, r, .pv _ _ (.str [])⟩
  split at e
  · rename_i hb
    cases e
    obtain ⟨b, c, v0, v1, ex, m1, m2, hG, q0, q1, o0, o1⟩ := builder hr hb hu
    rw [q1.nils_inv] at m2
    exact nil ex m2
  · rename_i c0 i ver hb
    obtain ⟨b, c, v0, v1, ex, m1, m2, hG, q0, q1, o0, o1⟩ := builder hr hb hu
    obtain ⟨ad, n, cc, ev1, hd, hv⟩ := q1.ref_inv
    split at e
    · rename_i vv f hi
      split at e <;> cases e
      rename_i hvv
      subst hvv
      have hsl := (hv _ _ _ _ hi).2 rfl
      rcases hr.own _ _ hi with ⟨k1, -⟩ | ⟨b1, c1, cur, ty, fr, k1, k2, k3, k4, -⟩
      · rw [k1, slv] at hsl
        rw [ev1, hsl] at m2
        exact nil ex m2
      · omega
    · rename_i vv f rows hi
      split at e <;> cases e
      rename_i hc
      obtain ⟨⟨rfl, hf5⟩, ⟨hne, hall⟩, h63⟩ := hc
      have hsl := (hv _ _ _ _ hi).2 rfl
      rcases hr.own _ _ hi with ⟨-, k2⟩ | ⟨g, c1, cur, ty, fr, k1, k2, k3, k4, k5, k6, k7, k8, k9, k10⟩
      · exact absurd k2 hne
      rw [k1, slv] at hsl
      have hty : ty = 5 := by rw [← hf5]; exact k10.2 (by rw [hf5]; decide)
      subst hty
      rw [ev1, hsl] at m2
      subst ex
      have hlen : (bytesOfRows rows).length = rows.length := by simp [bytesOfRows]
      have hget : ∀ (j : Nat) (x : UInt8), (bytesOfRows rows)[j]? = some x → rows[j]? = some [.int .u8 x.toNat] := by
        intro j x hx
        simp only [bytesOfRows, List.getElem?_map, Option.map_eq_some_iff] at hx
        obtain ⟨row, h1, h2⟩ := hx
        have := List.all_eq_true.1 hall row (List.mem_of_getElem? h1)
        cases hby : byteOf? row with
        | none => rw [hby] at this; cases this
        | some y =>
          rw [hby] at h2
          simp at h2
          subst h2
          rw [h1, byteOf_inv hby]
      have hpos : 0 < rows.length := List.length_pos_iff.2 hne
      refine acts_of plain46 (w1 := w.drew.freeze ⟨g, 0, none⟩ (bytesOfRows rows).length) (str_some b g c1 (bytesOfRows rows) cur fr w ?_ (by omega) (by rw [hlen]; omega) (by rw [hlen]; exact h63) ?_ k2 ?_) ?_
      · intro e; rw [e] at hlen; simp at hlen; omega
      · have : w.drew.heap[b]? = _ := m2
        rw [blk_cell this, hlen]; rfl
      · intro j x hx
        obtain ⟨u, h1, h2⟩ := k8 j _ 0 _ (hget j x hx) rfl
        rw [Nat.mul_one, Nat.add_zero] at h1
        rw [h1]; cases h2; rfl
      · -- the builder is done with
        have hn : id < h0.length := (List.getElem?_eq_some_iff.1 hb).1
        have hcomp : Comp (lift h0) μ (fun j => if j = id then some (.data [c0, .bad] 71) else lift h0 j) (fun j => if j = id then μ id else μ j) :=
          comp_set hb _ _ (fun _ _ h => by cases h; exact ⟨⟨_, rfl⟩, rfl⟩) (fun _ _ _ _ h => by cases h) (fun _ _ _ _ _ h => by cases h)
        have key := hr.one (G' := G) (w' := w) (n := id) (blk := .data [c0, .bad] 71) (m := μ id) (Evo.refl G w) hcomp (fun k hk _ => ⟨rfl, rfl⟩)
          (fun b' c' _ hm => .inr ⟨_, c', hb, by simp, hm⟩)
          ⟨b, c, _, 71, by simp [m1], m2, rfl, ⟨hG, fun _ => rfl⟩, fun j x y hx hy => by
            match j with
            | 0 => simp at hx hy; subst hx; subst hy; exact ⟨q0.evo (Evo.refl G w) hcomp, o0⟩
            | 1 => simp at hx hy; subst hx; subst hy; exact ⟨.bad _, rfl⟩
            | j + 2 => simp at hx⟩ hr.new
        rw [ite_self_loc, ← lift_set hn] at key
        have hid : id ≠ i := fun e => by subst e; rw [hb] at hi; cases hi
        have hi2 : (h0.set id (.data [c0, .bad] 71))[i]? = some (.arr 1 vv f rows) := by rw [List.getElem?_set_ne hid]; exact hi
        have hn2 : i < (h0.set id (.data [c0, .bad] 71)).length := (List.getElem?_eq_some_iff.1 hi2).1
        have hcomp2 : Comp (lift (h0.set id (.data [c0, .bad] 71))) μ (fun j => if j = i then some .dead else lift (h0.set id (.data [c0, .bad] 71)) j) (fun j => if j = i then μ i else μ j) :=
          comp_set hi2 _ _ (fun _ _ h => by cases h) (fun _ _ _ _ h => by cases h) (fun _ _ _ _ _ h => by cases h)
        have evo : Evo G w G (w.drew.freeze ⟨g, 0, none⟩ (bytesOfRows rows).length) :=
          ⟨by unfold World.freeze; split <;> rfl, by unfold World.freeze; split <;> rfl, by unfold World.freeze; split <;> rfl, by unfold World.freeze; split <;> simp, fun b' o ho => ⟨ho, frozen_cell⟩⟩
        have key2 := key.2.one (G' := G) (w' := w.drew.freeze ⟨g, 0, none⟩ (bytesOfRows rows).length) (n := i) (blk := .dead) (m := μ i) evo hcomp2
          (fun k hk hne => ⟨frozen_heap (fun e => hne _ c1 hi2 (by simp) (by rw [k1, e])), rfl⟩)
          (fun b' c' hd => absurd rfl hd) trivial
          (fun b' hb' => hr.new b' (Nat.le_trans evo.size hb'))
        rw [ite_self_loc, ← lift_set hn2] at key2
        exact ⟨G, μ, key.1.trans key2.1, key2.2, .pv _ _ (.str (bytesOfRows rows))⟩
    · cases e
  · cases e

theorem ov_ok : ∀ f F, ov f = some F → ∀ S, SoundFn P glob S → FnOk P glob f (F S) := by
  intro f F h S hS
  unfold ov at h
  split at h <;> cases h
  · exact ovCopy_ok S
  · exact ovString_ok S
  · exact ovIdx_ok S

/-- THE MACHINE OF THIS LAW is sound. -/
theorem sound (k : Nat) : SoundFn P glob (run (prims glob) tab ov k) := run_ok mixed tab_ok ov_ok k
end
end AI.Tok
end

section
namespace AI.Tok
open Go AI

theorem wrap64 {z : Int} (h1 : -9223372036854775808 ≤ z) (h2 : z ≤ 9223372036854775807) : IntKind.i64.wrap z = z := by
  simp [IntKind.wrap, IntKind.min, IntKind.max, IntKind.signed, IntKind.bits]
  omega

def iand (k : IntKind) (x y : Int) : Int := k.wrap (BitVec.ofInt k.bits x &&& BitVec.ofInt k.bits y).toNat
def ior (k : IntKind) (x y : Int) : Int := k.wrap (BitVec.ofInt k.bits x ||| BitVec.ofInt k.bits y).toNat
def iandN (k : IntKind) (x y : Int) : Int := k.wrap (BitVec.ofInt k.bits x &&& ~~~BitVec.ofInt k.bits y).toNat
def ishl (k : IntKind) (x y : Int) : Int := k.wrap (x * 2 ^ (min y.toNat k.bits))
def ishr (k : IntKind) (x y : Int) : Int := x.fdiv (2 ^ (min y.toNat k.bits))
/-- The text of a list of bytes. -/
def strOf (rows : Rows) : List UInt8 := rows.map fun r => (byteOf? r).getD 0
def strOkR (rows : Rows) : Bool := rows.all fun r => (byteOf? r).isSome
/-- A byte of a text. -/
def bt (s : List UInt8) (n : Nat) : UInt8 := s.getD n 0

structure PM (M : Prims) : Prop where
  chk : ∀ l, M.chk l = l.all id
  isB : ∀ b, M.isB (.bool b) = true
  truth : ∀ b, M.truth (.bool b) = b
  gd : ∀ b w, M.gd (.bool b) w = (b == w)
  imp : ∀ a b, M.imp a b = (!a || b)
  and : ∀ a b, M.and a b = (a && b)
  pickT : ∀ x y, M.pick (.bool true) x y = x
  pickF : ∀ x y, M.pick (.bool false) x y = y
  not : ∀ b, M.un .not (.bool b) = .bool (!b)
  notOk : ∀ b, M.unOk .not (.bool b) = true
  len : ∀ s, M.len (.str s) = .int .i64 s.length
  lenL : ∀ s, M.len (.list s) = .int .i64 s.length
  lenOk : ∀ s, M.lenOk true (.str s) = true
  lenOkL : ∀ s, M.lenOk false (.list s) = true
  sidx : ∀ s k n, M.sidx (.str s) (.int k n) = .int .u8 ((bt s n.toNat).toNat)
  sidxOk : ∀ s k n, M.sidxOk (.str s) (.int k n) = (decide (0 ≤ n) && decide (n < s.length))
  add : ∀ k x k' y, M.bin .add (.int k x) (.int k' y) = .int k (k.wrap (x + y))
  sub : ∀ k x k' y, M.bin .sub (.int k x) (.int k' y) = .int k (k.wrap (x - y))
  mul : ∀ k x k' y, M.bin .mul (.int k x) (.int k' y) = .int k (k.wrap (x * y))
  quo : ∀ k x k' y, M.bin .quo (.int k x) (.int k' y) = .int k (k.wrap (x.tdiv y))
  rem : ∀ k x k' y, M.bin .rem (.int k x) (.int k' y) = .int k (x.tmod y)
  eql : ∀ k x k' y, M.bin .eql (.int k x) (.int k' y) = .bool (decide (x = y))
  neq : ∀ k x k' y, M.bin .neq (.int k x) (.int k' y) = .bool (!decide (x = y))
  lss : ∀ k x k' y, M.bin .lss (.int k x) (.int k' y) = .bool (decide (x < y))
  leq : ∀ k x k' y, M.bin .leq (.int k x) (.int k' y) = .bool (decide (x ≤ y))
  gtr : ∀ k x k' y, M.bin .gtr (.int k x) (.int k' y) = .bool (decide (x > y))
  geq : ∀ k x k' y, M.bin .geq (.int k x) (.int k' y) = .bool (decide (x ≥ y))
  addOk : ∀ k x y, M.binOk 0 .add (.int k x) (.int k y) = true
  subOk : ∀ k x y, M.binOk 0 .sub (.int k x) (.int k y) = true
  mulOk : ∀ k x y, M.binOk 0 .mul (.int k x) (.int k y) = true
  quoOk : ∀ k x y, M.binOk 0 .quo (.int k x) (.int k y) = (y != 0)
  remOk : ∀ k x y, M.binOk 0 .rem (.int k x) (.int k y) = (y != 0)
  eqlOk : ∀ k x y, M.binOk 0 .eql (.int k x) (.int k y) = true
  neqOk : ∀ k x y, M.binOk 0 .neq (.int k x) (.int k y) = true
  lssOk : ∀ k x y, M.binOk 0 .lss (.int k x) (.int k y) = true
  leqOk : ∀ k x y, M.binOk 0 .leq (.int k x) (.int k y) = true
  gtrOk : ∀ k x y, M.binOk 0 .gtr (.int k x) (.int k y) = true
  geqOk : ∀ k x y, M.binOk 0 .geq (.int k x) (.int k y) = true
  seql : ∀ a b, M.bin .eql (.str a) (.str b) = .bool (decide (a = b))
  sneq : ∀ a b, M.bin .neq (.str a) (.str b) = .bool (!decide (a = b))
  seqlOk : ∀ a b, M.binOk 0 .eql (.str a) (.str b) = true
  sneqOk : ∀ a b, M.binOk 0 .neq (.str a) (.str b) = true
  beql : ∀ a b, M.bin .eql (.bool a) (.bool b) = .bool (a == b)
  bneq : ∀ a b, M.bin .neq (.bool a) (.bool b) = .bool (!(a == b))
  beqlOk : ∀ a b, M.binOk 1 .eql (.bool a) (.bool b) = true
  bneqOk : ∀ a b, M.binOk 1 .neq (.bool a) (.bool b) = true
  conv : ∀ k k' n, M.conv k (.int k' n) = .int k (k.wrap n)
  convOk : ∀ k k' n, M.convOk k (.int k' n) = true
  cut : ∀ s (a b : Nat), M.cut (.str s) (some (.int .i64 a)) (some (.int .i64 b)) = .str ((s.take b).drop a)
  cutA : ∀ s (a : Nat), M.cut (.str s) (some (.int .i64 a)) none = .str (s.drop a)
  cutOk : ∀ s (a b : Nat), M.cutOk true (.str s) (some (.int .i64 a)) (some (.int .i64 b)) = (decide (a ≤ b) && decide (b ≤ s.length))
  cutAOk : ∀ s (a : Nat), M.cutOk true (.str s) (some (.int .i64 a)) none = decide (a ≤ s.length)
  rowsOk : ∀ s, M.rowsOk true (.str s) 1 = true
  rlen : ∀ s, M.rlen s = .int .i64 s.length
  cell : ∀ r i, M.cell r i = r.getD i .nilp
  wid : ∀ r n, M.wid r n = (r.length == n)
  widGe : ∀ r n, M.widGe r n = decide (n ≤ r.length)
  repl : ∀ k n z, M.repl (.int k n) z = List.replicate n.toNat z
  replOk : ∀ k n, M.replOk (.int k n) = (decide (0 ≤ n) && decide (n ≤ 16777216))
  nat : ∀ k n, M.nat (.int k n) = n.toNat
  natOk : ∀ k n rows, M.natOk (.int k n) rows = (decide (0 ≤ n) && decide (n < rows.length))
  rget : ∀ rows i, M.rget rows i = rows.getD i []
  rput : ∀ rows i o r, M.rput rows i o r = rows.set i ((rows.getD i []).take o ++ r ++ (rows.getD i []).drop (o + r.length))
  sub2 : ∀ r o n, M.sub r o n = (r.drop o).take n
  lidx : ∀ rows k n, M.lidx (.list rows) (.int k n) = rows.getD n.toNat []
  lidxOk : ∀ rows k n sz, M.lidxOk (.list rows) (.int k n) sz = (decide (0 ≤ n) && decide (n < rows.length) && (rows.getD n.toNat []).length == sz)
  lim : ∀ rows b, M.lim rows b = decide (rows.length * b ≤ 17592186044416)
  rapp : ∀ a b, M.rapp a b = a ++ b
  rowsL : ∀ r, M.rows (.list r) = r
  rowsS : ∀ s, M.rows (.str s) = s.map byteRow
  rowsOkL : ∀ r sz, M.rowsOk false (.list r) sz = rowsWide sz r
  str : ∀ rows, M.str rows = .str (strOf rows)
  strOk : ∀ rows, M.strOk rows = strOkR rows
  flatI : ∀ k n, M.flat (.int k n) = true
  flatB : ∀ b, M.flat (.bool b) = true
  flatS : ∀ s, M.flat (.str s) = true
  join : ∀ rows, M.join rows = rows.flatten
  joinOk : ∀ rows n, M.joinOk rows n = decide (n ≤ rows.length)
  pidx : ∀ r off k n sz, M.pidx r off (.int k n) sz = off + n.toNat * sz
  pidxOk : ∀ k i n, M.pidxOk (.int k i) n = (decide (0 ≤ i) && decide (i < n))
  shl : ∀ k x k' y, M.bin .shl (.int k x) (.int k' y) = .int k (ishl k x y)
  shr : ∀ k x k' y, M.bin .shr (.int k x) (.int k' y) = .int k (ishr k x y)
  shlOk : ∀ k x k' y, M.binOk 0 .shl (.int k x) (.int k' y) = decide (0 ≤ y)
  shrOk : ∀ k x k' y, M.binOk 0 .shr (.int k x) (.int k' y) = decide (0 ≤ y)
  orI : ∀ k x k' y, M.bin .or (.int k x) (.int k' y) = .int k (ior k x y)
  andI : ∀ k x k' y, M.bin .and (.int k x) (.int k' y) = .int k (iand k x y)
  andNI : ∀ k x k' y, M.bin .andNot (.int k x) (.int k' y) = .int k (iandN k x y)
  andNOk : ∀ k x y, M.binOk 0 .andNot (.int k x) (.int k y) = true
  orOk : ∀ k x y, M.binOk 0 .or (.int k x) (.int k y) = true
  andOk : ∀ k x y, M.binOk 0 .and (.int k x) (.int k y) = true

theorem pm0 (glob : Nat → Row) : PM (prims glob) where
  chk _ := rfl
  isB _ := rfl
  truth _ := rfl
  gd _ _ := rfl
  imp _ _ := rfl
  and _ _ := rfl
  pickT _ _ := rfl
  pickF _ _ := rfl
  not _ := rfl
  notOk _ := rfl
  len _ := rfl
  lenL _ := rfl
  lenOk _ := rfl
  lenOkL _ := rfl
  sidx _ _ _ := rfl
  sidxOk _ _ _ := rfl
  add _ _ _ _ := rfl
  sub _ _ _ _ := rfl
  mul _ _ _ _ := rfl
  quo _ _ _ _ := rfl
  rem _ _ _ _ := rfl
  eql _ x _ y := by simp only [prims, pBin, intBin, PV.bool.injEq]; rw [Bool.eq_iff_iff]; simp
  neq _ x _ y := by simp only [prims, pBin, intBin, PV.bool.injEq]; rw [Bool.eq_iff_iff]; simp
  lss _ _ _ _ := rfl
  leq _ _ _ _ := rfl
  gtr _ _ _ _ := rfl
  geq _ _ _ _ := rfl
  addOk k _ _ := by cases k <;> rfl
  subOk k _ _ := by cases k <;> rfl
  mulOk k _ _ := by cases k <;> rfl
  quoOk k _ _ := by simp [prims, pBinOk, shiftOp]
  remOk k _ _ := by simp [prims, pBinOk, shiftOp]
  eqlOk k _ _ := by cases k <;> rfl
  neqOk k _ _ := by cases k <;> rfl
  lssOk k _ _ := by cases k <;> rfl
  leqOk k _ _ := by cases k <;> rfl
  gtrOk k _ _ := by cases k <;> rfl
  geqOk k _ _ := by cases k <;> rfl
  seql a b := by simp only [prims, pBin, PV.bool.injEq]; rw [Bool.eq_iff_iff]; simp
  sneq a b := by simp only [prims, pBin, PV.bool.injEq]; rw [Bool.eq_iff_iff]; simp
  seqlOk _ _ := rfl
  sneqOk _ _ := rfl
  beql _ _ := rfl
  bneq _ _ := rfl
  beqlOk _ _ := rfl
  bneqOk _ _ := rfl
  conv _ _ _ := rfl
  convOk _ _ _ := rfl
  cut s a b := by simp [prims, pCut, cutAt, pNat]
  cutA s a := by simp [prims, pCut, cutAt, pNat]
  cutOk s a b := by
    simp only [prims, pCutOk, boundOk, cutAt, pNat, Bool.true_and]
    rw [Bool.eq_iff_iff]; simp; omega
  cutAOk s a := by
    simp only [prims, pCutOk, boundOk, cutAt, pNat, Bool.true_and]
    rw [Bool.eq_iff_iff]; simp
  rowsOk _ := rfl
  rlen _ := rfl
  cell _ _ := rfl
  wid _ _ := rfl
  widGe _ _ := rfl
  repl _ _ _ := rfl
  replOk _ _ := rfl
  nat _ _ := rfl
  natOk _ _ _ := rfl
  rget _ _ := rfl
  rput _ _ _ _ := rfl
  sub2 _ _ _ := rfl
  lidx _ _ _ := rfl
  lidxOk _ _ _ _ := rfl
  lim _ _ := rfl
  rapp _ _ := rfl
  rowsL _ := rfl
  rowsS _ := rfl
  rowsOkL _ _ := by simp [prims]
  str _ := rfl
  strOk _ := rfl
  flatI _ _ := rfl
  flatB _ := rfl
  flatS _ := rfl
  join _ := rfl
  joinOk _ _ := rfl
  pidx _ _ _ _ _ := rfl
  pidxOk _ _ _ := rfl
  shl _ _ _ _ := rfl
  shr _ _ _ _ := rfl
  shlOk _ _ _ _ := by simp [prims, pBinOk, shiftOp]
  shrOk _ _ _ _ := by simp [prims, pBinOk, shiftOp]
  orI _ _ _ _ := rfl
  andI _ _ _ _ := rfl
  andNI _ _ _ _ := rfl
  andNOk k _ _ := by cases k <;> rfl
  orOk k _ _ := by cases k <;> rfl
  andOk k _ _ := by cases k <;> rfl

@[simp] theorem castEq (n m : Nat) : ((n : Int) = (no_index (OfNat.ofNat m) : Int)) = (n = (OfNat.ofNat m : Nat)) := by
  simp only [eq_iff_iff]; exact ⟨fun h => Int.ofNat.inj h, fun h => by rw [h]; rfl⟩

@[simp] theorem castEq' (n m : Nat) : ((no_index (OfNat.ofNat m) : Int) = (n : Int)) = ((OfNat.ofNat m : Nat) = n) := by
  simp only [eq_iff_iff]; exact ⟨fun h => Int.ofNat.inj h, fun h => by rw [← h]; rfl⟩
@[simp] theorem castLt (n m : Nat) : ((n : Int) < (no_index (OfNat.ofNat m) : Int)) = (n < (OfNat.ofNat m : Nat)) := by
  simp only [eq_iff_iff]; exact Int.ofNat_lt (n := n) (m := m)
@[simp] theorem castGt (n m : Nat) : ((no_index (OfNat.ofNat m) : Int) < (n : Int)) = ((OfNat.ofNat m : Nat) < n) := by
  simp only [eq_iff_iff]; exact Int.ofNat_lt (n := m) (m := n)
@[simp] theorem castLe (n m : Nat) : ((n : Int) ≤ (no_index (OfNat.ofNat m) : Int)) = (n ≤ (OfNat.ofNat m : Nat)) := by
  simp only [eq_iff_iff]; exact Int.ofNat_le (m := n) (n := m)
@[simp] theorem castGe (n m : Nat) : ((no_index (OfNat.ofNat m) : Int) ≤ (n : Int)) = ((OfNat.ofNat m : Nat) ≤ n) := by
  simp only [eq_iff_iff]; exact Int.ofNat_le (m := m) (n := n)

/-! ### Values -/
def bV (c : UInt8) : LV := .pv (.int .u8 c.toNat)
def iV (n : Int) : LV := .pv (.int .i64 n)
def sV (s : List UInt8) : LV := .pv (.str s)

def letterB (c : UInt8) : Bool := (97 ≤ c && c ≤ 122) || (65 ≤ c && c ≤ 90) || c == 95
def digitB (c : UInt8) : Bool := decide (48 ≤ c.toNat) && decide (c.toNat ≤ 57)
def blankB (c : UInt8) : Bool := c == 32 || c == 9 || c == 10 || c == 13
def markN (c : UInt8) : Int := if c == 123 then 1 else if c == 125 then 2 else if c == 91 then 3 else if c == 93 then 4 else if c == 58 then 5 else if c == 44 then 6 else 0
def bads (n : Nat) : List LV := List.replicate n .bad

/-! ### Loops -/
/-- A piece of code, and what is told of the state behind it. -/
def tell (M : Prims) (hd : St → St) (x : Option (Exit × St)) : Option (Exit × Bool × St) :=
  match x with
  | some (e, s) => some (e, M.chk s.oks, ⟨(hd s).tmps, (hd s).heap, []⟩)
  | none => none
theorem loop_next {M : Prims} {n : Nat} {hd hx : St → St} {f : St → Option (Exit × St)} {s t : St} {r : Option (Exit × St)} (h : tell M hd (f s) = some (.normal, true, t)) (hr : outOf hx (loopAt M n hd f t) = r) :
    outOf hx (loopAt M (n + 1) hd f s) = r := by
  unfold tell at h
  split at h
  case h_2 => cases h
  rename_i e1 s' he
  simp only [Option.some.injEq, Prod.mk.injEq] at h
  obtain ⟨rfl, hc, rfl⟩ := h
  simp only [loopAt, he, hc, if_true]; exact hr
theorem loop_out {M : Prims} {n : Nat} {hd hx : St → St} {f : St → Option (Exit × St)} {s t : St} {e : AI.Exit} (h : tell M hx (f s) = some (e, true, t)) (hn : e ≠ .normal) (hh : ∀ s k, (hx ⟨s.tmps, s.heap, k⟩).tmps = (hx s).tmps ∧ (hx ⟨s.tmps, s.heap, k⟩).heap = (hx s).heap) :
    outOf hx (loopAt M (n + 1) hd f s) = some (e, t) := by
  unfold tell at h
  split at h
  case h_2 => cases h
  rename_i e1 s' he
  simp only [Option.some.injEq, Prod.mk.injEq] at h
  obtain ⟨rfl, hc, rfl⟩ := h
  cases e1 <;> simp [loopAt, he, hc, outOf, hh] at hn ⊢
theorem head_oks {m : Nat} {ann : LoopAnn} (s : St) (k : List Bool) : (head m ann ⟨s.tmps, s.heap, k⟩).tmps = (head m ann s).tmps ∧ (head m ann ⟨s.tmps, s.heap, k⟩).heap = (head m ann s).heap := ⟨rfl, rfl⟩
end AI.Tok
end

section
namespace AI.Tok
open Go AI

def rowOf (l : List Nat) : Row := l.map fun (n : Nat) => PV.int .u8 (n : Int)
def globT : Nat → Row
  | 1 => rowOf ((List.range 256).map Lib.firstT)
  | 2 => rowOf ((List.range 16).flatMap fun i => [Lib.accLo i, Lib.accHi i])
  | _ => []

abbrev M0 : Prims := prims globT
def R (k : Nat) : SFn := run M0 tab ov k

theorem R_fn {k f : Nat} {rf : RFn} (h0 : ov f = none) (ht : tab f = some rf) (args : List LV) (h : List Blk) : R (k + 1) (.fn f) args h = runFn M0 (R k) (loopAt M0 k) rf args h := by
  show run M0 tab ov (k + 1) (.fn f) args h = _
  simp only [run, h0, ht]; rfl
theorem R_ov {k f : Nat} {F : Over} (h0 : ov f = some F) (args : List LV) (h : List Blk) : R (k + 1) (.fn f) args h = F (R k) args h := by
  show run M0 tab ov (k + 1) (.fn f) args h = _
  simp only [run, h0]; rfl

/-- The level from which on all is told. -/
def Lim : Nat := 2000000

def isRet (p : PV) : Option (Out × List Blk) → Bool
  | some (.ret (.pv (.bool b)), []) => (match p with | .bool b' => b == b' | _ => false)
  | some (.ret (.pv (.int k n)), []) => (match p with | .int k' n' => k == k' && n == n' | _ => false)
  | _ => false
theorem isRet_eq {p : PV} {x : Option (Out × List Blk)} (h : isRet p x = true) : x = some (.ret (.pv p), []) := by
  unfold isRet at h
  split at h <;> try cases h
  · split at h <;> try cases h
    simp at h; subst h; rfl
  · split at h <;> try cases h
    simp at h; obtain ⟨rfl, rfl⟩ := h; rfl

/-- A function of a byte, told by its table. -/
theorem byByte {f : UInt8 → Option (Out × List Blk)} {g : UInt8 → PV} (h : ((List.range 256).all fun n => isRet (g (UInt8.ofNat n)) (f (UInt8.ofNat n))) = true) (c : UInt8) : f c = some (.ret (.pv (g c)), []) := by
  have := List.all_eq_true.1 h c.toNat (List.mem_range.2 c.toNat_lt)
  simp only [UInt8.ofNat_toNat] at this
  exact isRet_eq this

theorem f19 {k : Nat} (c : UInt8) : R (k + 1) (.fn 19) [bV c] [] = some (.ret (.pv (.bool (letterB c))), []) := byByte (f := fun c => R (k + 1) (.fn 19) [bV c] []) (g := fun c => .bool (letterB c)) (by kernel_rfl) c
theorem f31 {k : Nat} (c : UInt8) : R (k + 1) (.fn 31) [bV c] [] = some (.ret (.pv (.bool (letterB c))), []) := byByte (f := fun c => R (k + 1) (.fn 31) [bV c] []) (g := fun c => .bool (letterB c)) (by kernel_rfl) c
theorem f22 {k : Nat} (c : UInt8) : R (k + 1) (.fn 22) [bV c] [] = some (.ret (.pv (.bool (digitB c))), []) := byByte (f := fun c => R (k + 1) (.fn 22) [bV c] []) (g := fun c => .bool (digitB c)) (by kernel_rfl) c
theorem f32 {k : Nat} (c : UInt8) : R (k + 1) (.fn 32) [bV c] [] = some (.ret (.pv (.bool (digitB c))), []) := byByte (f := fun c => R (k + 1) (.fn 32) [bV c] []) (g := fun c => .bool (digitB c)) (by kernel_rfl) c
theorem f8 {k : Nat} (c : UInt8) : R (k + 1) (.fn 8) [bV c] [] = some (.ret (.pv (.bool (blankB c))), []) := byByte (f := fun c => R (k + 1) (.fn 8) [bV c] []) (g := fun c => .bool (blankB c)) (by kernel_rfl) c
theorem f17 {k : Nat} (c : UInt8) : R (k + 1) (.fn 17) [bV c] [] = some (.ret (.pv (.int .i64 (markN c))), []) := byByte (f := fun c => R (k + 1) (.fn 17) [bV c] []) (g := fun c => .int .i64 (markN c)) (by kernel_rfl) c
end AI.Tok
end

section
namespace AI.Tok
open Go AI
set_option maxRecDepth 100000
set_option maxHeartbeats 4000000
set_option linter.unusedSimpArgs false
set_option linter.unusedVariables false

def lead (m : Int) (z : Int) (p0 : Int) : Int := ishl .i32 (IntKind.i32.wrap (iand .u8 p0 m)) z
def cont (b : Int) : Int := IntKind.i32.wrap (iand .u8 b 63)
def dec2 (b0 b1 : Int) : Int := ior .i32 (lead 31 6 b0) (cont b1)
def dec3 (b0 b1 b2 : Int) : Int := ior .i32 (ior .i32 (lead 15 12 b0) (ishl .i32 (cont b1) 6)) (cont b2)
def dec4 (b0 b1 b2 b3 : Int) : Int := ior .i32 (ior .i32 (ior .i32 (lead 7 18 b0) (ishl .i32 (cont b1) 12)) (ishl .i32 (cont b2) 6)) (cont b3)
/-- decodeRuneInStringSlow, behind the table. -/
def slowP (t : List UInt8) (sz lo hi : Nat) : Int × Nat :=
  if t.length < sz then (65533, 1)
  else if (bt t 1).toNat < lo ∨ hi < (bt t 1).toNat then (65533, 1)
  else if sz ≤ 2 then (dec2 (bt t 0).toNat (bt t 1).toNat, 2)
  else if (bt t 2).toNat < 128 ∨ 191 < (bt t 2).toNat then (65533, 1)
  else if sz ≤ 3 then (dec3 (bt t 0).toNat (bt t 1).toNat (bt t 2).toNat, 3)
  else if (bt t 3).toNat < 128 ∨ 191 < (bt t 3).toNat then (65533, 1)
  else (dec4 (bt t 0).toNat (bt t 1).toNat (bt t 2).toNat (bt t 3).toNat, 4)

section
variable {M : Prims} (pm : PM M) {S : SFn} {Lp : (St → St) → (St → Option (AI.Exit × St)) → St → Option (AI.Exit × St)} {N : Nat} {s : List UInt8}
include pm
theorem w54_bad {g1 : Row} (hg1 : M.glob 1 = g1) (hl1 : g1.length = 256) (hn : 0 < s.length) (hx : g1[(bt s 0).toNat]? = some (.int .u8 241)) :
    runFn M S Lp rf54 [sV s] [] = some (.ret (.tup [.pv (.int .i32 65533), .pv (.int .i64 1)]), []) := by
  have hn' : ¬ s.length < 1 := by omega
  have hb := (bt s 0).toNat_lt
  have hb' : (bt s 0).toNat < 256 := by omega
  have hb'' : (bt s 0).toNat ≤ 255 := by omega
  have hx' : g1[(bt s 0).toNat]'(by omega) = .int .u8 241 := (List.getElem?_eq_some_iff.1 hx).2
  have e1 : ishr .i32 (ishl .i32 (IntKind.i32.wrap 241) 31) 31 = -1 := by decide
  have e2 : ∀ n : Fin 256, ior .i32 (iandN .i32 (IntKind.i32.wrap (n.val : Int)) (-1)) (iand .i32 65533 (-1)) = 65533 := by decide +kernel
  have e2' := e2 ⟨(bt s 0).toNat, hb'⟩
  simp [rf54, hn, hn', hb', hb'', hg1, hl1, hx, hx', e1, e2', exec, runOps, stepG, opRun, sv, strip, evalO, sV, iV, bV, bads, put, ROp.dst, ROp.quiet, guardOf, impAll, pvOf, pvOf?, callRun, callFn, prep, argOf, handOver, behind, takeBack, List.replicate, reachable, reach, addNew, idsOfs, idsOf, Blk.ids, rens, ren, renBlks, renBlk, layOld, layNew, posIn, AM.lent, tell, head, openAll, forget, tidy, List.range, List.range.loop, backR, backV, backId, backVer, toZero, verOf, cellsOf, widOk, mkAgg, splice, resOne, resAll, resVal, runFn, freeze, freezeAll, depth, allPV, isRow, lit?, eqNil, nilOp, flatL, flatLs, headVer, rowsOf, isRow, freezeRow, LV.sc, rowParts, buildParts, okAll, touch, meets, apart, apartAll, runDraw, argIds, rowIds, List.range', rowsWide, byteOf?, byteRow, pm.chk, pm.isB, pm.truth, pm.gd, pm.imp, pm.and, pm.pickT, pm.pickF, pm.not, pm.notOk, pm.len, pm.lenL, pm.lenOk, pm.lenOkL, pm.sidx, pm.sidxOk, pm.add, pm.sub, pm.mul, pm.quo, pm.rem, pm.eql, pm.neq, pm.lss, pm.leq, pm.gtr, pm.geq, pm.addOk, pm.subOk, pm.mulOk, pm.quoOk, pm.remOk, pm.eqlOk, pm.neqOk, pm.lssOk, pm.leqOk, pm.gtrOk, pm.geqOk, pm.seql, pm.sneq, pm.seqlOk, pm.sneqOk, pm.beql, pm.bneq, pm.beqlOk, pm.bneqOk, pm.conv, pm.convOk, pm.cut, pm.cutA, pm.cutOk, pm.cutAOk, pm.rowsOk, pm.rlen, pm.cell, pm.wid, pm.widGe, pm.repl, pm.replOk, pm.nat, pm.natOk, pm.rget, pm.rput, pm.sub2, pm.lidx, pm.lidxOk, pm.lim, pm.rapp, pm.rowsL, pm.rowsS, pm.rowsOkL, pm.str, pm.strOk, pm.flatI, pm.flatB, pm.flatS, pm.join, pm.joinOk, pm.pidx, pm.pidxOk, pm.shl, pm.shr, pm.shlOk, pm.shrOk, pm.orI, pm.andI, pm.orOk, pm.andOk, pm.andNI, pm.andNOk]
theorem w54 {g1 g2 : Row} {x sz acc lo hi : Nat} (hg1 : M.glob 1 = g1) (hl1 : g1.length = 256) (hg2 : M.glob 2 = g2) (hl2 : g2.length = 32) (hn : 0 < s.length)
    (hx : g1[(bt s 0).toNat]? = some (.int .u8 x)) (h240 : ¬ 240 ≤ x) (hsz : IntKind.i64.wrap (iand .u8 x 7) = sz) (hacc : ishr .u8 x 4 = acc) (ha : acc < 16) (hlo : g2[acc * 2]? = some (.int .u8 lo)) (hhi : g2[acc * 2 + 1]? = some (.int .u8 hi)) (hz2 : 2 ≤ sz) (hz4 : sz ≤ 4) :
    runFn M S Lp rf54 [sV s] [] = some (.ret (.tup [.pv (.int .i32 (slowP s sz lo hi).1), .pv (.int .i64 (slowP s sz lo hi).2)]), []) := by
  have hn' : ¬ s.length < 1 := by omega
  have hb := (bt s 0).toNat_lt
  have hb' : (bt s 0).toNat < 256 := by omega
  have hb'' : (bt s 0).toNat ≤ 255 := by omega
  have hx' : g1[(bt s 0).toNat]'(by omega) = .int .u8 x := (List.getElem?_eq_some_iff.1 hx).2
  have hd : (g2.drop (acc * 2)).take 2 = [.int .u8 lo, .int .u8 hi] := by
    have e1 : acc * 2 < g2.length := by omega
    have e2 : acc * 2 + 1 < g2.length := by omega
    rw [List.drop_eq_getElem_cons e1, List.drop_eq_getElem_cons e2]
    rw [List.getElem?_eq_getElem e1] at hlo
    rw [List.getElem?_eq_getElem e2] at hhi
    simp at hlo hhi
    simp [hlo, hhi]
  have hd1 : acc * 2 + 2 ≤ 32 := by omega
  by_cases h1 : s.length < sz
  · simp [rf54, hn, hn', hb', hb'', hg1, hl1, hg2, hl2, hx, hx', h240, hsz, hacc, ha, hd, hd1, h1, slowP, exec, runOps, stepG, opRun, sv, strip, evalO, sV, iV, bV, bads, put, ROp.dst, ROp.quiet, guardOf, impAll, pvOf, pvOf?, callRun, callFn, prep, argOf, handOver, behind, takeBack, List.replicate, reachable, reach, addNew, idsOfs, idsOf, Blk.ids, rens, ren, renBlks, renBlk, layOld, layNew, posIn, AM.lent, tell, head, openAll, forget, tidy, List.range, List.range.loop, backR, backV, backId, backVer, toZero, verOf, cellsOf, widOk, mkAgg, splice, resOne, resAll, resVal, runFn, freeze, freezeAll, depth, allPV, isRow, lit?, eqNil, nilOp, flatL, flatLs, headVer, rowsOf, isRow, freezeRow, LV.sc, rowParts, buildParts, okAll, touch, meets, apart, apartAll, runDraw, argIds, rowIds, List.range', rowsWide, byteOf?, byteRow, pm.chk, pm.isB, pm.truth, pm.gd, pm.imp, pm.and, pm.pickT, pm.pickF, pm.not, pm.notOk, pm.len, pm.lenL, pm.lenOk, pm.lenOkL, pm.sidx, pm.sidxOk, pm.add, pm.sub, pm.mul, pm.quo, pm.rem, pm.eql, pm.neq, pm.lss, pm.leq, pm.gtr, pm.geq, pm.addOk, pm.subOk, pm.mulOk, pm.quoOk, pm.remOk, pm.eqlOk, pm.neqOk, pm.lssOk, pm.leqOk, pm.gtrOk, pm.geqOk, pm.seql, pm.sneq, pm.seqlOk, pm.sneqOk, pm.beql, pm.bneq, pm.beqlOk, pm.bneqOk, pm.conv, pm.convOk, pm.cut, pm.cutA, pm.cutOk, pm.cutAOk, pm.rowsOk, pm.rlen, pm.cell, pm.wid, pm.widGe, pm.repl, pm.replOk, pm.nat, pm.natOk, pm.rget, pm.rput, pm.sub2, pm.lidx, pm.lidxOk, pm.lim, pm.rapp, pm.rowsL, pm.rowsS, pm.rowsOkL, pm.str, pm.strOk, pm.flatI, pm.flatB, pm.flatS, pm.join, pm.joinOk, pm.pidx, pm.pidxOk, pm.shl, pm.shr, pm.shlOk, pm.shrOk, pm.orI, pm.andI, pm.orOk, pm.andOk, pm.andNI, pm.andNOk]
  · have hn1 : 1 < s.length := by omega
    by_cases h2 : (bt s 1).toNat < lo
    · simp [rf54, hn, hn', hn1, hb', hb'', hg1, hl1, hg2, hl2, hx, hx', h240, hsz, hacc, ha, hd, hd1, h1, h2, slowP, exec, runOps, stepG, opRun, sv, strip, evalO, sV, iV, bV, bads, put, ROp.dst, ROp.quiet, guardOf, impAll, pvOf, pvOf?, callRun, callFn, prep, argOf, handOver, behind, takeBack, List.replicate, reachable, reach, addNew, idsOfs, idsOf, Blk.ids, rens, ren, renBlks, renBlk, layOld, layNew, posIn, AM.lent, tell, head, openAll, forget, tidy, List.range, List.range.loop, backR, backV, backId, backVer, toZero, verOf, cellsOf, widOk, mkAgg, splice, resOne, resAll, resVal, runFn, freeze, freezeAll, depth, allPV, isRow, lit?, eqNil, nilOp, flatL, flatLs, headVer, rowsOf, isRow, freezeRow, LV.sc, rowParts, buildParts, okAll, touch, meets, apart, apartAll, runDraw, argIds, rowIds, List.range', rowsWide, byteOf?, byteRow, pm.chk, pm.isB, pm.truth, pm.gd, pm.imp, pm.and, pm.pickT, pm.pickF, pm.not, pm.notOk, pm.len, pm.lenL, pm.lenOk, pm.lenOkL, pm.sidx, pm.sidxOk, pm.add, pm.sub, pm.mul, pm.quo, pm.rem, pm.eql, pm.neq, pm.lss, pm.leq, pm.gtr, pm.geq, pm.addOk, pm.subOk, pm.mulOk, pm.quoOk, pm.remOk, pm.eqlOk, pm.neqOk, pm.lssOk, pm.leqOk, pm.gtrOk, pm.geqOk, pm.seql, pm.sneq, pm.seqlOk, pm.sneqOk, pm.beql, pm.bneq, pm.beqlOk, pm.bneqOk, pm.conv, pm.convOk, pm.cut, pm.cutA, pm.cutOk, pm.cutAOk, pm.rowsOk, pm.rlen, pm.cell, pm.wid, pm.widGe, pm.repl, pm.replOk, pm.nat, pm.natOk, pm.rget, pm.rput, pm.sub2, pm.lidx, pm.lidxOk, pm.lim, pm.rapp, pm.rowsL, pm.rowsS, pm.rowsOkL, pm.str, pm.strOk, pm.flatI, pm.flatB, pm.flatS, pm.join, pm.joinOk, pm.pidx, pm.pidxOk, pm.shl, pm.shr, pm.shlOk, pm.shrOk, pm.orI, pm.andI, pm.orOk, pm.andOk, pm.andNI, pm.andNOk]
    · by_cases h3 : hi < (bt s 1).toNat
      · simp [rf54, hn, hn', hn1, hb', hb'', hg1, hl1, hg2, hl2, hx, hx', h240, hsz, hacc, ha, hd, hd1, h1, h2, h3, slowP, exec, runOps, stepG, opRun, sv, strip, evalO, sV, iV, bV, bads, put, ROp.dst, ROp.quiet, guardOf, impAll, pvOf, pvOf?, callRun, callFn, prep, argOf, handOver, behind, takeBack, List.replicate, reachable, reach, addNew, idsOfs, idsOf, Blk.ids, rens, ren, renBlks, renBlk, layOld, layNew, posIn, AM.lent, tell, head, openAll, forget, tidy, List.range, List.range.loop, backR, backV, backId, backVer, toZero, verOf, cellsOf, widOk, mkAgg, splice, resOne, resAll, resVal, runFn, freeze, freezeAll, depth, allPV, isRow, lit?, eqNil, nilOp, flatL, flatLs, headVer, rowsOf, isRow, freezeRow, LV.sc, rowParts, buildParts, okAll, touch, meets, apart, apartAll, runDraw, argIds, rowIds, List.range', rowsWide, byteOf?, byteRow, pm.chk, pm.isB, pm.truth, pm.gd, pm.imp, pm.and, pm.pickT, pm.pickF, pm.not, pm.notOk, pm.len, pm.lenL, pm.lenOk, pm.lenOkL, pm.sidx, pm.sidxOk, pm.add, pm.sub, pm.mul, pm.quo, pm.rem, pm.eql, pm.neq, pm.lss, pm.leq, pm.gtr, pm.geq, pm.addOk, pm.subOk, pm.mulOk, pm.quoOk, pm.remOk, pm.eqlOk, pm.neqOk, pm.lssOk, pm.leqOk, pm.gtrOk, pm.geqOk, pm.seql, pm.sneq, pm.seqlOk, pm.sneqOk, pm.beql, pm.bneq, pm.beqlOk, pm.bneqOk, pm.conv, pm.convOk, pm.cut, pm.cutA, pm.cutOk, pm.cutAOk, pm.rowsOk, pm.rlen, pm.cell, pm.wid, pm.widGe, pm.repl, pm.replOk, pm.nat, pm.natOk, pm.rget, pm.rput, pm.sub2, pm.lidx, pm.lidxOk, pm.lim, pm.rapp, pm.rowsL, pm.rowsS, pm.rowsOkL, pm.str, pm.strOk, pm.flatI, pm.flatB, pm.flatS, pm.join, pm.joinOk, pm.pidx, pm.pidxOk, pm.shl, pm.shr, pm.shlOk, pm.shrOk, pm.orI, pm.andI, pm.orOk, pm.andOk, pm.andNI, pm.andNOk]
      · by_cases h4 : sz ≤ 2
        · simp [rf54, hn, hn', hn1, hb', hb'', hg1, hl1, hg2, hl2, hx, hx', h240, hsz, hacc, ha, hd, hd1, h1, h2, h3, h4, slowP, dec2, lead, cont, exec, runOps, stepG, opRun, sv, strip, evalO, sV, iV, bV, bads, put, ROp.dst, ROp.quiet, guardOf, impAll, pvOf, pvOf?, callRun, callFn, prep, argOf, handOver, behind, takeBack, List.replicate, reachable, reach, addNew, idsOfs, idsOf, Blk.ids, rens, ren, renBlks, renBlk, layOld, layNew, posIn, AM.lent, tell, head, openAll, forget, tidy, List.range, List.range.loop, backR, backV, backId, backVer, toZero, verOf, cellsOf, widOk, mkAgg, splice, resOne, resAll, resVal, runFn, freeze, freezeAll, depth, allPV, isRow, lit?, eqNil, nilOp, flatL, flatLs, headVer, rowsOf, isRow, freezeRow, LV.sc, rowParts, buildParts, okAll, touch, meets, apart, apartAll, runDraw, argIds, rowIds, List.range', rowsWide, byteOf?, byteRow, pm.chk, pm.isB, pm.truth, pm.gd, pm.imp, pm.and, pm.pickT, pm.pickF, pm.not, pm.notOk, pm.len, pm.lenL, pm.lenOk, pm.lenOkL, pm.sidx, pm.sidxOk, pm.add, pm.sub, pm.mul, pm.quo, pm.rem, pm.eql, pm.neq, pm.lss, pm.leq, pm.gtr, pm.geq, pm.addOk, pm.subOk, pm.mulOk, pm.quoOk, pm.remOk, pm.eqlOk, pm.neqOk, pm.lssOk, pm.leqOk, pm.gtrOk, pm.geqOk, pm.seql, pm.sneq, pm.seqlOk, pm.sneqOk, pm.beql, pm.bneq, pm.beqlOk, pm.bneqOk, pm.conv, pm.convOk, pm.cut, pm.cutA, pm.cutOk, pm.cutAOk, pm.rowsOk, pm.rlen, pm.cell, pm.wid, pm.widGe, pm.repl, pm.replOk, pm.nat, pm.natOk, pm.rget, pm.rput, pm.sub2, pm.lidx, pm.lidxOk, pm.lim, pm.rapp, pm.rowsL, pm.rowsS, pm.rowsOkL, pm.str, pm.strOk, pm.flatI, pm.flatB, pm.flatS, pm.join, pm.joinOk, pm.pidx, pm.pidxOk, pm.shl, pm.shr, pm.shlOk, pm.shrOk, pm.orI, pm.andI, pm.orOk, pm.andOk, pm.andNI, pm.andNOk]
        · have hn2 : 2 < s.length := by omega
          by_cases h5 : (bt s 2).toNat < 128
          · simp [rf54, hn, hn', hn1, hn2, hb', hb'', hg1, hl1, hg2, hl2, hx, hx', h240, hsz, hacc, ha, hd, hd1, h1, h2, h3, h4, h5, slowP, exec, runOps, stepG, opRun, sv, strip, evalO, sV, iV, bV, bads, put, ROp.dst, ROp.quiet, guardOf, impAll, pvOf, pvOf?, callRun, callFn, prep, argOf, handOver, behind, takeBack, List.replicate, reachable, reach, addNew, idsOfs, idsOf, Blk.ids, rens, ren, renBlks, renBlk, layOld, layNew, posIn, AM.lent, tell, head, openAll, forget, tidy, List.range, List.range.loop, backR, backV, backId, backVer, toZero, verOf, cellsOf, widOk, mkAgg, splice, resOne, resAll, resVal, runFn, freeze, freezeAll, depth, allPV, isRow, lit?, eqNil, nilOp, flatL, flatLs, headVer, rowsOf, isRow, freezeRow, LV.sc, rowParts, buildParts, okAll, touch, meets, apart, apartAll, runDraw, argIds, rowIds, List.range', rowsWide, byteOf?, byteRow, pm.chk, pm.isB, pm.truth, pm.gd, pm.imp, pm.and, pm.pickT, pm.pickF, pm.not, pm.notOk, pm.len, pm.lenL, pm.lenOk, pm.lenOkL, pm.sidx, pm.sidxOk, pm.add, pm.sub, pm.mul, pm.quo, pm.rem, pm.eql, pm.neq, pm.lss, pm.leq, pm.gtr, pm.geq, pm.addOk, pm.subOk, pm.mulOk, pm.quoOk, pm.remOk, pm.eqlOk, pm.neqOk, pm.lssOk, pm.leqOk, pm.gtrOk, pm.geqOk, pm.seql, pm.sneq, pm.seqlOk, pm.sneqOk, pm.beql, pm.bneq, pm.beqlOk, pm.bneqOk, pm.conv, pm.convOk, pm.cut, pm.cutA, pm.cutOk, pm.cutAOk, pm.rowsOk, pm.rlen, pm.cell, pm.wid, pm.widGe, pm.repl, pm.replOk, pm.nat, pm.natOk, pm.rget, pm.rput, pm.sub2, pm.lidx, pm.lidxOk, pm.lim, pm.rapp, pm.rowsL, pm.rowsS, pm.rowsOkL, pm.str, pm.strOk, pm.flatI, pm.flatB, pm.flatS, pm.join, pm.joinOk, pm.pidx, pm.pidxOk, pm.shl, pm.shr, pm.shlOk, pm.shrOk, pm.orI, pm.andI, pm.orOk, pm.andOk, pm.andNI, pm.andNOk]
          · by_cases h6 : 191 < (bt s 2).toNat
            · simp [rf54, hn, hn', hn1, hn2, hb', hb'', hg1, hl1, hg2, hl2, hx, hx', h240, hsz, hacc, ha, hd, hd1, h1, h2, h3, h4, h5, h6, slowP, exec, runOps, stepG, opRun, sv, strip, evalO, sV, iV, bV, bads, put, ROp.dst, ROp.quiet, guardOf, impAll, pvOf, pvOf?, callRun, callFn, prep, argOf, handOver, behind, takeBack, List.replicate, reachable, reach, addNew, idsOfs, idsOf, Blk.ids, rens, ren, renBlks, renBlk, layOld, layNew, posIn, AM.lent, tell, head, openAll, forget, tidy, List.range, List.range.loop, backR, backV, backId, backVer, toZero, verOf, cellsOf, widOk, mkAgg, splice, resOne, resAll, resVal, runFn, freeze, freezeAll, depth, allPV, isRow, lit?, eqNil, nilOp, flatL, flatLs, headVer, rowsOf, isRow, freezeRow, LV.sc, rowParts, buildParts, okAll, touch, meets, apart, apartAll, runDraw, argIds, rowIds, List.range', rowsWide, byteOf?, byteRow, pm.chk, pm.isB, pm.truth, pm.gd, pm.imp, pm.and, pm.pickT, pm.pickF, pm.not, pm.notOk, pm.len, pm.lenL, pm.lenOk, pm.lenOkL, pm.sidx, pm.sidxOk, pm.add, pm.sub, pm.mul, pm.quo, pm.rem, pm.eql, pm.neq, pm.lss, pm.leq, pm.gtr, pm.geq, pm.addOk, pm.subOk, pm.mulOk, pm.quoOk, pm.remOk, pm.eqlOk, pm.neqOk, pm.lssOk, pm.leqOk, pm.gtrOk, pm.geqOk, pm.seql, pm.sneq, pm.seqlOk, pm.sneqOk, pm.beql, pm.bneq, pm.beqlOk, pm.bneqOk, pm.conv, pm.convOk, pm.cut, pm.cutA, pm.cutOk, pm.cutAOk, pm.rowsOk, pm.rlen, pm.cell, pm.wid, pm.widGe, pm.repl, pm.replOk, pm.nat, pm.natOk, pm.rget, pm.rput, pm.sub2, pm.lidx, pm.lidxOk, pm.lim, pm.rapp, pm.rowsL, pm.rowsS, pm.rowsOkL, pm.str, pm.strOk, pm.flatI, pm.flatB, pm.flatS, pm.join, pm.joinOk, pm.pidx, pm.pidxOk, pm.shl, pm.shr, pm.shlOk, pm.shrOk, pm.orI, pm.andI, pm.orOk, pm.andOk, pm.andNI, pm.andNOk]
            · by_cases h7 : sz ≤ 3
              · simp [rf54, hn, hn', hn1, hn2, hb', hb'', hg1, hl1, hg2, hl2, hx, hx', h240, hsz, hacc, ha, hd, hd1, h1, h2, h3, h4, h5, h6, h7, slowP, dec3, lead, cont, exec, runOps, stepG, opRun, sv, strip, evalO, sV, iV, bV, bads, put, ROp.dst, ROp.quiet, guardOf, impAll, pvOf, pvOf?, callRun, callFn, prep, argOf, handOver, behind, takeBack, List.replicate, reachable, reach, addNew, idsOfs, idsOf, Blk.ids, rens, ren, renBlks, renBlk, layOld, layNew, posIn, AM.lent, tell, head, openAll, forget, tidy, List.range, List.range.loop, backR, backV, backId, backVer, toZero, verOf, cellsOf, widOk, mkAgg, splice, resOne, resAll, resVal, runFn, freeze, freezeAll, depth, allPV, isRow, lit?, eqNil, nilOp, flatL, flatLs, headVer, rowsOf, isRow, freezeRow, LV.sc, rowParts, buildParts, okAll, touch, meets, apart, apartAll, runDraw, argIds, rowIds, List.range', rowsWide, byteOf?, byteRow, pm.chk, pm.isB, pm.truth, pm.gd, pm.imp, pm.and, pm.pickT, pm.pickF, pm.not, pm.notOk, pm.len, pm.lenL, pm.lenOk, pm.lenOkL, pm.sidx, pm.sidxOk, pm.add, pm.sub, pm.mul, pm.quo, pm.rem, pm.eql, pm.neq, pm.lss, pm.leq, pm.gtr, pm.geq, pm.addOk, pm.subOk, pm.mulOk, pm.quoOk, pm.remOk, pm.eqlOk, pm.neqOk, pm.lssOk, pm.leqOk, pm.gtrOk, pm.geqOk, pm.seql, pm.sneq, pm.seqlOk, pm.sneqOk, pm.beql, pm.bneq, pm.beqlOk, pm.bneqOk, pm.conv, pm.convOk, pm.cut, pm.cutA, pm.cutOk, pm.cutAOk, pm.rowsOk, pm.rlen, pm.cell, pm.wid, pm.widGe, pm.repl, pm.replOk, pm.nat, pm.natOk, pm.rget, pm.rput, pm.sub2, pm.lidx, pm.lidxOk, pm.lim, pm.rapp, pm.rowsL, pm.rowsS, pm.rowsOkL, pm.str, pm.strOk, pm.flatI, pm.flatB, pm.flatS, pm.join, pm.joinOk, pm.pidx, pm.pidxOk, pm.shl, pm.shr, pm.shlOk, pm.shrOk, pm.orI, pm.andI, pm.orOk, pm.andOk, pm.andNI, pm.andNOk]
              · have hn3 : 3 < s.length := by omega
                by_cases h8 : (bt s 3).toNat < 128
                · simp [rf54, hn, hn', hn1, hn2, hn3, hb', hb'', hg1, hl1, hg2, hl2, hx, hx', h240, hsz, hacc, ha, hd, hd1, h1, h2, h3, h4, h5, h6, h7, h8, slowP, exec, runOps, stepG, opRun, sv, strip, evalO, sV, iV, bV, bads, put, ROp.dst, ROp.quiet, guardOf, impAll, pvOf, pvOf?, callRun, callFn, prep, argOf, handOver, behind, takeBack, List.replicate, reachable, reach, addNew, idsOfs, idsOf, Blk.ids, rens, ren, renBlks, renBlk, layOld, layNew, posIn, AM.lent, tell, head, openAll, forget, tidy, List.range, List.range.loop, backR, backV, backId, backVer, toZero, verOf, cellsOf, widOk, mkAgg, splice, resOne, resAll, resVal, runFn, freeze, freezeAll, depth, allPV, isRow, lit?, eqNil, nilOp, flatL, flatLs, headVer, rowsOf, isRow, freezeRow, LV.sc, rowParts, buildParts, okAll, touch, meets, apart, apartAll, runDraw, argIds, rowIds, List.range', rowsWide, byteOf?, byteRow, pm.chk, pm.isB, pm.truth, pm.gd, pm.imp, pm.and, pm.pickT, pm.pickF, pm.not, pm.notOk, pm.len, pm.lenL, pm.lenOk, pm.lenOkL, pm.sidx, pm.sidxOk, pm.add, pm.sub, pm.mul, pm.quo, pm.rem, pm.eql, pm.neq, pm.lss, pm.leq, pm.gtr, pm.geq, pm.addOk, pm.subOk, pm.mulOk, pm.quoOk, pm.remOk, pm.eqlOk, pm.neqOk, pm.lssOk, pm.leqOk, pm.gtrOk, pm.geqOk, pm.seql, pm.sneq, pm.seqlOk, pm.sneqOk, pm.beql, pm.bneq, pm.beqlOk, pm.bneqOk, pm.conv, pm.convOk, pm.cut, pm.cutA, pm.cutOk, pm.cutAOk, pm.rowsOk, pm.rlen, pm.cell, pm.wid, pm.widGe, pm.repl, pm.replOk, pm.nat, pm.natOk, pm.rget, pm.rput, pm.sub2, pm.lidx, pm.lidxOk, pm.lim, pm.rapp, pm.rowsL, pm.rowsS, pm.rowsOkL, pm.str, pm.strOk, pm.flatI, pm.flatB, pm.flatS, pm.join, pm.joinOk, pm.pidx, pm.pidxOk, pm.shl, pm.shr, pm.shlOk, pm.shrOk, pm.orI, pm.andI, pm.orOk, pm.andOk, pm.andNI, pm.andNOk]
                · by_cases h9 : 191 < (bt s 3).toNat
                  · simp [rf54, hn, hn', hn1, hn2, hn3, hb', hb'', hg1, hl1, hg2, hl2, hx, hx', h240, hsz, hacc, ha, hd, hd1, h1, h2, h3, h4, h5, h6, h7, h8, h9, slowP, exec, runOps, stepG, opRun, sv, strip, evalO, sV, iV, bV, bads, put, ROp.dst, ROp.quiet, guardOf, impAll, pvOf, pvOf?, callRun, callFn, prep, argOf, handOver, behind, takeBack, List.replicate, reachable, reach, addNew, idsOfs, idsOf, Blk.ids, rens, ren, renBlks, renBlk, layOld, layNew, posIn, AM.lent, tell, head, openAll, forget, tidy, List.range, List.range.loop, backR, backV, backId, backVer, toZero, verOf, cellsOf, widOk, mkAgg, splice, resOne, resAll, resVal, runFn, freeze, freezeAll, depth, allPV, isRow, lit?, eqNil, nilOp, flatL, flatLs, headVer, rowsOf, isRow, freezeRow, LV.sc, rowParts, buildParts, okAll, touch, meets, apart, apartAll, runDraw, argIds, rowIds, List.range', rowsWide, byteOf?, byteRow, pm.chk, pm.isB, pm.truth, pm.gd, pm.imp, pm.and, pm.pickT, pm.pickF, pm.not, pm.notOk, pm.len, pm.lenL, pm.lenOk, pm.lenOkL, pm.sidx, pm.sidxOk, pm.add, pm.sub, pm.mul, pm.quo, pm.rem, pm.eql, pm.neq, pm.lss, pm.leq, pm.gtr, pm.geq, pm.addOk, pm.subOk, pm.mulOk, pm.quoOk, pm.remOk, pm.eqlOk, pm.neqOk, pm.lssOk, pm.leqOk, pm.gtrOk, pm.geqOk, pm.seql, pm.sneq, pm.seqlOk, pm.sneqOk, pm.beql, pm.bneq, pm.beqlOk, pm.bneqOk, pm.conv, pm.convOk, pm.cut, pm.cutA, pm.cutOk, pm.cutAOk, pm.rowsOk, pm.rlen, pm.cell, pm.wid, pm.widGe, pm.repl, pm.replOk, pm.nat, pm.natOk, pm.rget, pm.rput, pm.sub2, pm.lidx, pm.lidxOk, pm.lim, pm.rapp, pm.rowsL, pm.rowsS, pm.rowsOkL, pm.str, pm.strOk, pm.flatI, pm.flatB, pm.flatS, pm.join, pm.joinOk, pm.pidx, pm.pidxOk, pm.shl, pm.shr, pm.shlOk, pm.shrOk, pm.orI, pm.andI, pm.orOk, pm.andOk, pm.andNI, pm.andNOk]
                  · simp [rf54, hn, hn', hn1, hn2, hn3, hb', hb'', hg1, hl1, hg2, hl2, hx, hx', h240, hsz, hacc, ha, hd, hd1, h1, h2, h3, h4, h5, h6, h7, h8, h9, slowP, dec4, lead, cont, exec, runOps, stepG, opRun, sv, strip, evalO, sV, iV, bV, bads, put, ROp.dst, ROp.quiet, guardOf, impAll, pvOf, pvOf?, callRun, callFn, prep, argOf, handOver, behind, takeBack, List.replicate, reachable, reach, addNew, idsOfs, idsOf, Blk.ids, rens, ren, renBlks, renBlk, layOld, layNew, posIn, AM.lent, tell, head, openAll, forget, tidy, List.range, List.range.loop, backR, backV, backId, backVer, toZero, verOf, cellsOf, widOk, mkAgg, splice, resOne, resAll, resVal, runFn, freeze, freezeAll, depth, allPV, isRow, lit?, eqNil, nilOp, flatL, flatLs, headVer, rowsOf, isRow, freezeRow, LV.sc, rowParts, buildParts, okAll, touch, meets, apart, apartAll, runDraw, argIds, rowIds, List.range', rowsWide, byteOf?, byteRow, pm.chk, pm.isB, pm.truth, pm.gd, pm.imp, pm.and, pm.pickT, pm.pickF, pm.not, pm.notOk, pm.len, pm.lenL, pm.lenOk, pm.lenOkL, pm.sidx, pm.sidxOk, pm.add, pm.sub, pm.mul, pm.quo, pm.rem, pm.eql, pm.neq, pm.lss, pm.leq, pm.gtr, pm.geq, pm.addOk, pm.subOk, pm.mulOk, pm.quoOk, pm.remOk, pm.eqlOk, pm.neqOk, pm.lssOk, pm.leqOk, pm.gtrOk, pm.geqOk, pm.seql, pm.sneq, pm.seqlOk, pm.sneqOk, pm.beql, pm.bneq, pm.beqlOk, pm.bneqOk, pm.conv, pm.convOk, pm.cut, pm.cutA, pm.cutOk, pm.cutAOk, pm.rowsOk, pm.rlen, pm.cell, pm.wid, pm.widGe, pm.repl, pm.replOk, pm.nat, pm.natOk, pm.rget, pm.rput, pm.sub2, pm.lidx, pm.lidxOk, pm.lim, pm.rapp, pm.rowsL, pm.rowsS, pm.rowsOkL, pm.str, pm.strOk, pm.flatI, pm.flatB, pm.flatS, pm.join, pm.joinOk, pm.pidx, pm.pidxOk, pm.shl, pm.shr, pm.shlOk, pm.shrOk, pm.orI, pm.andI, pm.orOk, pm.andOk, pm.andNI, pm.andNOk]
end
end AI.Tok
end
