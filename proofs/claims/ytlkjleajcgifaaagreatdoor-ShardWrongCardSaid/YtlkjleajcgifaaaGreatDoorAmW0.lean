/- The rest of ShardWrong's code: what is to be run. -/
import Derived.Test.YtlkjleajcgifaaaGreatDoorAmC3
import Derived.Test.YtlkjleajcgifaaaGreatDoorAmShown
namespace Go.Proofs.YtlkjleajcgifaaaGreatDoor
open Go Go.Am
set_option maxRecDepth 100000
/-- Of two callees, the first that answers. -/
def cOr (x y : Go.Am.Callee heapPT) : Go.Am.Callee heapPT := fun f args s => match x f args s with
  | some r => some r
  | none => y f args s
theorem cOr_ok {x y : Go.Am.Callee heapPT} (hx : CalleeOK Tryz.prog x) (hy : CalleeOK Tryz.prog y) : CalleeOK Tryz.prog (cOr x y) := by
  intro f args s v s' h
  unfold cOr at h
  split at h
  · rename_i r e
    cases h
    exact hx _ _ _ _ _ e
  · exact hy _ _ _ _ _ h
noncomputable def cW : Go.Am.Callee heapPT := callA Tryz.prog tab 100000 certs (cShown (cOr (cRefs (ev 20)) cNew)) 40
theorem cW_ok : CalleeOK Tryz.prog cW := callA_sound tabOk mixed (cShown_ok (cOr_ok (cRefs_ok (ev_ok 20)) cNew_ok)) (fun f fn c h hb => reg_ok h hb) 40
noncomputable def rest4 : Code := match Tryz.f4.body with
  | some (.seq _ (.seq _ (.seq _ (.seq _ (.seq _ r))))) => r
  | _ => .skip
def env4 (err source : Int) : Env := Env.put (Env.put (Env.put (Env.put (Env.put .leaf 2 (.int .i64 source)) 7 (.hptr 1 0)) 8 (.bool false)) 10 (.int .i64 err)) 11 (.int .i64 err)
noncomputable def st4 (c : List AV) (x y z g : Int) : St heapPT := { h := ((s0.new (.cells c)).new (.cells [.int .i64 x, .int .i64 y, .int .i64 z, .int .u32 g])).h, next := 5 }
noncomputable def restRuns (err source : Int) (c : List AV) (x y z g : Int) : Bool :=
  match evCode Tryz.prog tab cW 147 (certs 4) 100000 rest4 (env4 err source) (st4 c x y z g) with
  | some (.ret, env', _) => match env'.get 8 with
    | some (.bool true) => true
    | _ => false
  | _ => false
end Go.Proofs.YtlkjleajcgifaaaGreatDoor
