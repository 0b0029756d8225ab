/- What store.Refs answers of any handle, by what the arena answers. -/
import Derived.Test.YtlkjleajcgifaaaGreatDoorAmC2
namespace Go.Proofs.YtlkjleajcgifaaaGreatDoor
open Go Go.Am
set_option maxRecDepth 100000

theorem fl760 : fieldOf tab 76 0 = some (fl 76 0) ∧ (fl 76 0).type = 72 ∧ (fl 76 0).offset = 0 := ⟨by kernel_rfl, by kernel_rfl, by kernel_rfl⟩
theorem sz72 : tab.size 72 = some 1 := by kernel_rfl
theorem ag72 : tab.isAgg 72 = some false := by kernel_rfl
theorem sz35 : tab.size 35 = some 2 := by kernel_rfl
theorem ag35 : tab.isAgg 35 = some true := by kernel_rfl
theorem nkh24 (b o : Nat) : nilKind u24 (.hptr b o) = true := by kernel_rfl
theorem tf28 : tab.func 28 = some Tryz.f28 := by kernel_rfl
theorem tf21 : tab.func 21 = some Tryz.f21 := by kernel_rfl
theorem tf47 : (tab.func 47).isSome = true := by kernel_rfl

theorem arena_eq (callee : Go.Am.Callee heapPT) (cert : Nat → Option (List Nat)) (fuel : Nat) (b o : Nat) (s : St heapPT) (cs : List AV) (v : AV) (h1 : s.cells b = some cs) (h2 : cs[o]? = some v) :
    ∃ env, evCode Tryz.prog tab callee 9 cert fuel (Tryz.f28.body.getD .skip) (argsEnv [.hptr b o]) s = some (.ret, env, s) ∧ env.get 2 = some v := by
  simp [Tryz.f28, evCode, evRegion, evOps, evOp, opd, dstOk, wantedA, Env.putO, env_get_put, args_get, ofV, fl760, sz72, ag72, loadV, readV, h1, h2, nilEq, und24, nk24, nkh24]

noncomputable def cArena : Go.Am.Callee heapPT := fun f args s =>
  match f, args with
  | 28, [.hptr b o] => match s.cells b with
    | some cs => match cs[o]? with
      | some v => some (v, s)
      | none => none
    | none => none
  | _, _ => none

theorem cArena_ok : CalleeOK Tryz.prog cArena := by
  intro f args s v s' h ι w vs hr hs
  unfold cArena at h
  split at h
  · rename_i b o
    split at h
    · rename_i cs hcs
      split at h
      · rename_i u hu
        cases h
        obtain ⟨env, h1, h2⟩ := arena_eq (fun _ _ _ => none) (certs 28) 100000 b o s cs _ hcs hu
        exact fn_ok none_ok tf28 (c := Tryz.f28.body.getD .skip) (by kernel_rfl) h1 (by kernel_rfl) (.inr rfl) (by rw [show Tryz.f28.results.toList = [.tmp 2] by kernel_rfl]; simp [resA, h2, Am.single]) (fun _ _ => rfl) hr hs
      · cases h
    · cases h
  · cases h

/-- The arena of a store, and what another callee says of it. -/
noncomputable def cBoth (rest : Go.Am.Callee heapPT) : Go.Am.Callee heapPT := fun f args s => if f = 28 then cArena f args s else rest f args s
theorem cBoth_ok {rest : Go.Am.Callee heapPT} (h : CalleeOK Tryz.prog rest) : CalleeOK Tryz.prog (cBoth rest) := by
  intro f args s v s' he
  unfold cBoth at he
  split at he
  · exact cArena_ok _ _ _ _ _ he
  · exact h _ _ _ _ _ he
theorem callBoth28 (rest : Go.Am.Callee heapPT) : callF tab (cBoth rest) 28 = cArena 28 := by
  funext args s
  unfold callF
  rw [tf28]
  rfl
theorem callBoth47 (rest : Go.Am.Callee heapPT) : callF tab (cBoth rest) 47 = rest 47 := by
  funext args s
  unfold callF
  cases e : tab.func 47 with
  | none => have := tf47; rw [e] at this; cases this
  | some _ => rfl

def boxH (s : St heapPT) (z g : Int) : St heapPT := { h := (s.new (.cells [.int .i64 z, .int .u32 g])).h, next := s.next + 1 + 5 }
theorem get_boxH (s : St heapPT) (z g : Int) (x : Nat) : (boxH s z g).get x = if x = s.next then some (.cells [.int .i64 z, .int .u32 g]) else s.get x := St.get_new s _ x
theorem cells_boxH (s : St heapPT) (z g : Int) (x : Nat) (hx : x ≠ s.next) : (boxH s z g).cells x = s.cells x := by
  unfold St.cells
  rw [get_boxH, if_neg hx]
theorem cells_boxH' (s : St heapPT) (z g : Int) : (boxH s z g).cells s.next = some [.int .i64 z, .int .u32 g] := by
  unfold St.cells
  rw [get_boxH, if_pos rfl]
theorem boxH_eq (s : St heapPT) (z g : Int) : ({ h := (s.new (.cells [.int .i64 z, .int .u32 g])).h, next := s.next + 1 + 5 } : St heapPT) = boxH s z g := rfl

theorem certs21 : certs 21 1 = some [0, 1, 0, 7, 15] := by kernel_rfl

theorem tb7_0 : Nat.testBit 7 0 = true := by decide
theorem tb7_1 : Nat.testBit 7 1 = true := by decide
theorem tb7_2 : Nat.testBit 7 2 = true := by decide
theorem tb7_3 : Nat.testBit 7 3 = false := by decide
theorem tb7_4 : Nat.testBit 7 4 = false := by decide
theorem tb15_0 : Nat.testBit 15 0 = true := by decide
theorem tb15_1 : Nat.testBit 15 1 = true := by decide
theorem tb15_2 : Nat.testBit 15 2 = true := by decide
theorem tb15_3 : Nat.testBit 15 3 = true := by decide
theorem tb15_4 : Nat.testBit 15 4 = false := by decide
theorem tb1_0 : Nat.testBit 1 0 = true := by decide
theorem tb1_1 : Nat.testBit 1 1 = false := by decide
theorem tb1_2 : Nat.testBit 1 2 = false := by decide
theorem tb1_3 : Nat.testBit 1 3 = false := by decide
theorem tb1_4 : Nat.testBit 1 4 = false := by decide
theorem refs_eq (rest : Go.Am.Callee heapPT) (fuel : Nat) (b o : Nat) (z g : Int) (s s' : St heapPT) (cs : List AV) (pa v : AV) (hb : b ≠ s.next) (h1 : s.cells b = some cs) (h2 : cs[o]? = some pa) (h3 : rest 47 [pa, .agg [.int .i64 z, .int .u32 g]] (boxH s z g) = some (v, s')) :
    ∃ env, evCode Tryz.prog tab (cBoth rest) 9 (certs 21) fuel (Tryz.f21.body.getD .skip) (argsEnv [.hptr b o, .agg [.int .i64 z, .int .u32 g]]) s = some (.ret, env, s') ∧ env.get 4 = some v := by
  have h4 : (boxH s z g).cells b = some cs := by rw [cells_boxH s z g b hb, h1]
  have h5 := cells_boxH' s z g
  simp [Tryz.f21, evCode, evRegion, evOps, evOp, opd, dstOk, wantedA, Env.putO, env_get_put, args_get, ofV, AV.cells, certs21, evDraw, runD, stepD, clsOf, boxH_eq, evCall, evList, callBoth28, callBoth47, cArena, h4, h2, loadV, readV, h5, ag35, sz35, readsBack, reads1, AV.beq_self, commit, h3, tb7_0, tb7_1, tb7_2, tb7_3, tb7_4, tb15_0, tb15_1, tb15_2, tb15_3, tb15_4, tb1_0, tb1_1, tb1_2, tb1_3, tb1_4]

noncomputable def cRefs (rest : Go.Am.Callee heapPT) : Go.Am.Callee heapPT := fun f args s =>
  match f, args with
  | 21, [.hptr b o, .agg [.int .i64 z, .int .u32 g]] => if Nat.beq b s.next then none else match s.cells b with
    | some cs => match cs[o]? with
      | some pa => rest 47 [pa, .agg [.int .i64 z, .int .u32 g]] (boxH s z g)
      | none => none
    | none => none
  | _, _ => none

theorem cRefs_ok {rest : Go.Am.Callee heapPT} (hrest : CalleeOK Tryz.prog rest) : CalleeOK Tryz.prog (cRefs rest) := by
  intro f args s v s' h ι w vs hr hs
  unfold cRefs at h
  split at h
  · rename_i b o z g
    split at h
    · cases h
    · rename_i hb
      split at h
      · rename_i cs hcs
        split at h
        · rename_i pa hpa
          obtain ⟨env, h1, h2⟩ := refs_eq rest 100000 b o z g s s' cs pa v (fun e => hb (by rw [e]; exact Nat.beq_refl _)) hcs hpa h
          refine (call_sound tabOk (cBoth_ok hrest) mixed tf21 (c := Tryz.f21.body.getD .skip) (by kernel_rfl) (reg_ok tf21 (by kernel_rfl)) (Nat.le_of_ble_eq_true (by kernel_rfl)) (.inr rfl) h1 (rs := [v]) (by rw [show Tryz.f21.results.toList = [.tmp 4] by kernel_rfl]; simp [resA, h2]) hr hs).mono fun e w' h => ?_
          exact h
        · cases h
      · cases h
  · cases h
end Go.Proofs.YtlkjleajcgifaaaGreatDoor
