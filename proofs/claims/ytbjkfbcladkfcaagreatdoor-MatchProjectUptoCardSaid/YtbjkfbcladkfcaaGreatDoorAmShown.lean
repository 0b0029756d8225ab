/- What the shown run of layer 29 answers: the kernel runs it from nothing. -/
import Derived.Test.YtbjkfbcladkfcaaGreatDoorAmC1
import Derived.Test.YtbjkfbcladkfcaaGreatDoorAmClosed
set_option linter.unusedSimpArgs false
set_option linter.unusedVariables false
namespace Go.Proofs.YtbjkfbcladkfcaaGreatDoor
open Go Go.Am
set_option maxRecDepth 100000
noncomputable def evk (d : Nat) : Go.Am.Callee heapK := callK Tryz.prog tab 100000 certs (fun _ _ _ => none) d
noncomputable def sk : St heapK := { h := PT.leaf, next := 0 }
noncomputable def isTrue (r : Option (AV × St heapK)) : Bool := match r with
  | some (.bool true, _) => true
  | _ => false
theorem shown_run : isTrue (evk 40 6 [] sk) = true := by kernel_rfl
theorem shown_ev : ∃ s1, evk 40 6 [] sk = some (.bool true, s1) := by
  have h := shown_run
  generalize evk 40 6 [] sk = r at h
  match r, h with
  | some (.bool true, s1), _ => exact ⟨s1, rfl⟩
theorem sk_none (b : Nat) : sk.get b = none := by
  show getK (PT.leaf : PT Blk) (Go.Am.bits b) = none
  rw [getK_eq, PT.get_leaf]
theorem dsts_all : (Tryz.prog.funcs.toList.all fun f => match f.body with
  | some c => codeDsts f.ntmps c
  | none => true) = true := by kernel_rfl
theorem dsts_ok (f : Nat) (fn : Func) (c : Code) (h : tab.func f = some fn) (hb : fn.body = some c) : codeDsts fn.ntmps c = true := by
  have h1 := (tabOk.func f fn h).1
  have h2 : fn ∈ Tryz.prog.funcs.toList := by
    have : Tryz.prog.funcs.toList[f]? = some fn := by simpa using h1
    exact List.mem_of_getElem? this
  have h3 := List.all_eq_true.1 dsts_all fn h2
  rw [hb] at h3
  exact h3
theorem evk_ok (d : Nat) : CalleeOK Tryz.prog (evk d) := by
  unfold evk
  rw [callK_eq Tryz.prog tab 100000 certs _ dsts_ok d]
  exact callA_sound tabOk mixed (fun f args s v s' h => by cases h) (fun f fn c h hb => reg_ok h hb) d

def cShown (rest : Go.Am.Callee heapPT) : Go.Am.Callee heapPT := fun f args s =>
  match f, args with
  | 6, [] => some (.bool true, s)
  | _, _ => rest f args s

theorem cShown_ok {rest : Go.Am.Callee heapPT} (h : CalleeOK Tryz.prog rest) : CalleeOK Tryz.prog (cShown rest) := by
  intro f args s v s' he ι w vs hr hs
  unfold cShown at he
  split at he
  · cases he
    obtain ⟨s1, h1⟩ := shown_ev
    exact closed_any (evk_ok 40) sk_none h1 (fun _ _ h => h) (fun _ _ _ h => h) hr hs
  · exact h _ _ _ _ _ he _ _ _ hr hs
end Go.Proofs.YtbjkfbcladkfcaaGreatDoor
