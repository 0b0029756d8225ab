/- The abstract machine: code and calls. -/
import Derived.Test.YtbjkfbcladkfcaaGreatDoorAmRegG
set_option linter.unusedSimpArgs false
set_option linter.unusedVariables false
namespace Go.Am

inductive Ex where
  | normal
  | exit (id : Nat)
  | ret

section
variable {HI : HeapI} (P : Program) (T : Tab) (callee : Callee HI) (N : Nat) (cert : Nat → Option (List Nat)) (fuel : Nat)

def evRegion (id : Nat) (ops : Array Oper) (draw : Bool) (env : Env) (s : St HI) : Option (Env × St HI) :=
  match draw with
  | true => match cert id with
    | some ms => evDraw P T callee N ops ms env s
    | none => none
  | false => evOps P T callee N ops ops.toList env s

def loopF (f : Env → St HI → Option (Ex × Env × St HI)) (env0 : Env) : Nat → Env → St HI → Option (Ex × Env × St HI)
  | 0, _, _ => none
  | n + 1, env, s => match f env s with
    | some (.normal, env', s') => loopF f env0 n (env'.inter env0) s'
    | some r => some r
    | none => none

def evCode : Code → Env → St HI → Option (Ex × Env × St HI)
  | .skip, env, s => some (.normal, env, s)
  | .label _, env, s => some (.normal, env, s)
  | .region id ops draw, env, s => match evRegion P T callee N cert id ops draw env s with
    | some (e, s') => some (.normal, e, s')
    | none => none
  | .seq a b, env, s => match evCode a env s with
    | some (.normal, e, s') => evCode b e s'
    | some r => some r
    | none => none
  | .cond c x y, env, s => match opd env c with
    | some (.bool true) => evCode x env s
    | some (.bool false) => evCode y env s
    | _ => none
  | .block id b, env, s => match evCode b env s with
    | some (.exit i, e, s') => if Nat.beq i id then some (.normal, e, s') else some (.exit i, e, s')
    | some r => some r
    | none => none
  | .loop b, env, s => loopF (evCode b) env fuel env s
  | .exit id, env, s => some (.exit id, env, s)
  | .ret, env, s => some (.ret, env, s)
  | _, _, _ => none

/-- The draws of a function's code are as its certificate says. -/
def regsOk : Code → Bool
  | .region id ops true => match cert id with
    | some ms => lexOk ops ms && decide (masks ops = ms)
    | none => true
  | .seq a b => regsOk a && regsOk b
  | .cond _ x y => regsOk x && regsOk y
  | .block _ b => regsOk b
  | .loop b => regsOk b
  | _ => true

def resA (env : Env) (s : St HI) : List ResultVar → Option (List AV)
  | [] => some []
  | .tmp t :: rest => match env.get t, resA env s rest with
    | some v, some vs => some (v :: vs)
    | _, _ => none
  | .cell a t :: rest => match env.get a with
    | some p => match loadV T s t p, resA env s rest with
      | some v, some vs => some (v :: vs)
      | _, _ => none
    | none => none

def single : List AV → AV
  | [v] => v
  | vs => .tuple vs

def argsEnv (args : List AV) : Env := PT.ofList args 0 .leaf

def callA (certs : Nat → Nat → Option (List Nat)) (prim : Callee HI) : Nat → Callee HI
  | 0 => prim
  | d + 1 => fun f args s => match prim f args s with
    | some r => some r
    | none => match T.func f with
      | some fn => match fn.body with
        | some c => if Nat.ble args.length fn.ntmps then
            match evCode P T (callA certs prim d) fn.ntmps (certs f) fuel c (argsEnv args) s with
            | some (.normal, env, s') | some (.ret, env, s') => match resA T env s' fn.results.toList with
              | some vs => some (single vs, s')
              | none => none
            | _ => none
          else none
        | none => none
      | none => none
end
end Go.Am
