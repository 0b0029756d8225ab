/- What serves every function of the given program. -/
import Derived.Test.YtbjkfbcladkfcaaGreatDoorAmTab
import Derived.Test.YtbjkfbcladkfcaaGreatDoorAmCert
import Derived.Test.YtbjkfbcladkfcaaGreatDoorAmCall
set_option linter.unusedSimpArgs false
set_option linter.unusedVariables false
namespace Go.Proofs.YtbjkfbcladkfcaaGreatDoor
open Go Go.Am
set_option maxRecDepth 100000

theorem mixed : Tryz.prog.follows .mixedOrders = true := by kernel_rfl

theorem reg_ok {f : Nat} {fn : Func} {c : Code} (h : tab.func f = some fn) (hb : fn.body = some c) : regsOk (certs f) c = true := by
  have h1 := (tabOk.func f fn h).1
  have := certsOk_get Tryz.prog.funcs.toList 0 certs_ok f fn c (by simpa using h1) hb
  simpa using this

theorem env_get_put (e : Env) (t : Nat) (v : AV) (u : Nat) : Env.get (Env.put e t v) u = if u = t then some v else e.get u := Env.get_put e t v u
theorem args_get (args : List AV) (t : Nat) : (argsEnv args).get t = args[t]? := by
  unfold argsEnv Env.get
  rw [PT.get_ofList]
  split
  · simp
  · rename_i h
    rw [PT.get_leaf]
    symm
    rw [List.getElem?_eq_none]
    simpa using h

/-- One function's contract, as an equation of its code's run. -/
theorem fn_ok {callee : Go.Am.Callee heapPT} (hc : CalleeOK Tryz.prog callee) {f : Nat} {fn : Func} {c : Code} (hfn : tab.func f = some fn) (hb : fn.body = some c) {args : List AV} {e : Ex} {env : Env} {s s1 : St heapPT} {v : AV}
    (hev : evCode Tryz.prog tab callee fn.ntmps (certs f) 100000 c (argsEnv args) s = some (e, env, s1)) (hlen : Nat.ble args.length fn.ntmps = true) (he : e = .normal ∨ e = .ret) (hrs : (resA tab env s1 fn.results.toList).map Am.single = some v) (hk : ∀ b, b < s.next → s1.get b = s.get b)
    {ι : Emb} {w : World} {vs : List Value} (hr : Rs ι args vs) (hs : Sim ι s w) :
    Calls Tryz.prog f ⟨vs⟩ w fun e w' => ∃ v' κ, e = .returned v' ∧ Stp ι s w κ { h := s.h, next := s1.next } w' ∧ Sim κ { h := s.h, next := s1.next } w' ∧ R κ v v' := by
  cases hx : resA tab env s1 fn.results.toList with
  | none => rw [hx] at hrs; cases hrs
  | some rs =>
    rw [hx] at hrs
    cases hrs
    refine (call_sound tabOk hc mixed hfn hb (reg_ok hfn hb) (Nat.le_of_ble_eq_true hlen) he hev hx hr hs).mono fun e w' h => ?_
    obtain ⟨v', κ, h1, h2, h3, h4⟩ := h
    obtain ⟨h5, h6⟩ := trim_ok hs h2 h3 hk
    exact ⟨v', κ, h1, h5, h6, h4⟩

theorem none_ok : CalleeOK Tryz.prog (fun _ _ _ => none : Go.Am.Callee heapPT) := by
  intro f args s v s' h; cases h
end Go.Proofs.YtbjkfbcladkfcaaGreatDoor
