/- Statements and calls with small branches: the same as the machine's. -/
import Derived.Test.YtbjkfbcladkfcaaGreatDoorAmFast
set_option linter.unusedSimpArgs false
set_option linter.unusedVariables false
namespace Go.Am
section
variable {HI : HeapI} (P : Program) (T : Tab) (callee : Callee HI) (N : Nat)

noncomputable def doK (o : Oper) (env : Env) (s : St HI) (k : Env → St HI → Option (Env × St HI)) : Option (Env × St HI) :=
  Option.rec (motive := fun _ => Option (Env × St HI)) none (fun r => Prod.rec (motive := fun _ => Option (Env × St HI)) (fun v s' => k (Env.putK env o.dst v) s') r) (evOpK P T callee o (opdK env) s)
noncomputable def goK (w : Option Bool) (o : Oper) (env : Env) (s : St HI) (k : Env → St HI → Option (Env × St HI)) : Option (Env × St HI) :=
  Option.rec (motive := fun _ => Option (Env × St HI)) none (fun b => Bool.rec (motive := fun _ => Option (Env × St HI)) (k (Env.putK env o.dst (.tuple [])) s) (doK P T callee o env s k) b) w
noncomputable def evOpsK (ops : Array Oper) (l : List Oper) : Env → St HI → Option (Env × St HI) :=
  List.rec (motive := fun _ => Env → St HI → Option (Env × St HI)) (fun env s => some (env, s)) (fun o _ ih env s => goK P T callee (wantedK ops env o) o env s ih) l
theorem evOpsK_cons (ops : Array Oper) (o : Oper) (rest : List Oper) (env : Env) (s : St HI) : evOpsK P T callee ops (o :: rest) env s = goK P T callee (wantedK ops env o) o env s (evOpsK P T callee ops rest) := rfl
theorem goK_eq (w : Option Bool) (o : Oper) (env : Env) (s : St HI) (k : Env → St HI → Option (Env × St HI)) : goK P T callee w o env s k = match w with
  | some true => (match evOpK P T callee o (opdK env) s with
    | some (v, s') => k (Env.putK env o.dst v) s'
    | none => none)
  | some false => k (Env.putK env o.dst (.tuple [])) s
  | none => none := by
  cases w with
  | none => rfl
  | some b =>
    cases b
    · rfl
    · show doK P T callee o env s k = _
      unfold doK
      cases evOpK P T callee o (opdK env) s with
      | none => rfl
      | some r => rfl
/-- What is written is in range, of all operations at once. -/
noncomputable def dstsOk (N : Nat) (l : List Oper) : Bool := l.all (dstOk N)

theorem evOpsK_eq (ops : Array Oper) : ∀ (l : List Oper) (env : Env) (s : St HI), dstsOk N l = true → evOpsK P T callee ops l env s = evOps P T callee N ops l env s
  | [], _, _, _ => rfl
  | o :: rest, env, s, h => by
    simp only [dstsOk, List.all_cons, Bool.and_eq_true] at h
    simp only [evOpsK_cons, evOps, h.1, if_true, goK_eq, evOpK_eq, opdK_eq, Env.putK_eq, wantedK_eq]
    cases wantedA ops env o with
    | none => rfl
    | some b =>
      cases b
      · exact evOpsK_eq ops rest _ _ h.2
      · simp only
        cases evOp P T callee o (opd env) s with
        | none => rfl
        | some r => exact evOpsK_eq ops rest _ _ h.2

/-! ### draws -/
noncomputable def reads1K (o : Oper) (env : Env) (v : AV) (s : St HI) : Bool :=
  match evOpK P T callee o (opdK env) s with
  | some (u, _) => AV.beq u v
  | none => false
noncomputable def readsBackK (o : Oper) (env : Env) (v : AV) (mask : Nat) : List (Nat × St HI) → Bool
  | [] => true
  | (e, s) :: rest => if mask.testBit e then true else reads1K P T callee o env v s && readsBackK o env v mask rest
theorem reads1K_eq (o : Oper) (env : Env) (v : AV) (s : St HI) : reads1K P T callee o env v s = reads1 P T callee o env v s := by
  simp only [reads1K, reads1, evOpK_eq, opdK_eq]
  rfl
theorem readsBackK_eq (o : Oper) (env : Env) (v : AV) (mask : Nat) : ∀ (l : List (Nat × St HI)), readsBackK P T callee o env v mask l = readsBack P T callee o env v mask l
  | [] => rfl
  | (e, s) :: rest => by simp only [readsBackK, readsBack, reads1K_eq, readsBackK_eq o env v mask rest]

noncomputable def dPure (o : Oper) (d : DS HI) : Option (DS HI) := match evOpK P T callee o (opdK d.env) d.s with
        | some (v, _) => some { d with env := Env.putK d.env o.dst v }
        | none => none
noncomputable def dRead (i : Nat) (o : Oper) (mask : Nat) (d : DS HI) : Option (DS HI) := match evOpK P T callee o (opdK d.env) d.s with
        | some (v, _) => if readsBackK P T callee o d.env v mask d.hist then some { d with env := Env.putK d.env o.dst v, wat := (i, o, d.env, v) :: d.wat } else none
        | none => none
noncomputable def dAlloc (i : Nat) (o : Oper) (d : DS HI) : Option (DS HI) := match evAlloc T o (opdK d.env) with
        | some (f, x) => some { d with env := Env.putK d.env o.dst (f d.nid), pend := (i, d.nid, x) :: d.pend, nid := d.nid + 1 }
        | none => none
noncomputable def dEff (i : Nat) (o : Oper) (mask : Nat) (d : DS HI) : Option (DS HI) := match evOpK P T callee o (opdK d.env) (commit (d.pend.filter fun p => mask.testBit p.1) d.s) with
        | some (v, s') =>
          if d.hist.all (fun h => mask.testBit h.1) && d.wat.all (fun x => mask.testBit x.1 || reads1K P T callee x.2.1 x.2.2.1 x.2.2.2 s') then
            some { env := Env.putK d.env o.dst v, s := s', hist := (i, d.s) :: d.hist, wat := d.wat.filter (fun x => !mask.testBit x.1), pend := d.pend.filter (fun p => !mask.testBit p.1), nid := d.nid }
          else none
        | none => none
noncomputable def clsK (c : Cls) (i : Nat) (o : Oper) (mask : Nat) (d : DS HI) : Option (DS HI) :=
  match c with
  | .pure => dPure P T callee o d
  | .read => dRead P T callee i o mask d
  | .alloc => dAlloc T i o d
  | .eff => dEff P T callee i o mask d
noncomputable def stepK (ops : Array Oper) (i : Nat) (o : Oper) (mask : Nat) (d : DS HI) : Option (DS HI) :=
    match wantedK ops d.env o with
    | some false => some { d with env := Env.putK d.env o.dst (.tuple []) }
    | some true => clsK P T callee (clsOf o) i o mask d
    | none => none
theorem stepK_eq (ops : Array Oper) (i : Nat) (o : Oper) (mask : Nat) (d : DS HI) (h : dstOk N o = true) : stepK P T callee ops i o mask d = stepD P T callee N ops i o mask d := by
  simp only [stepK, stepD, h, if_true, wantedK_eq, Env.putK_eq]
  cases wantedA ops d.env o with
  | none => rfl
  | some b =>
    cases b
    · rfl
    · simp only
      cases clsOf o
      · simp only [clsK, dPure, evOpK_eq, opdK_eq, Env.putK_eq]
        rfl
      · simp only [clsK, dRead, evOpK_eq, readsBackK_eq, opdK_eq, Env.putK_eq]
        rfl
      · simp only [clsK, dAlloc, opdK_eq, Env.putK_eq]
        rfl
      · simp only [clsK, dEff, evOpK_eq, reads1K_eq, opdK_eq, Env.putK_eq]
        rfl
noncomputable def nextK (k : DS HI → Option (DS HI)) (r : Option (DS HI)) : Option (DS HI) := Option.rec (motive := fun _ => Option (DS HI)) none k r
noncomputable def runK (ops : Array Oper) (l : List Oper) : List Nat → Nat → DS HI → Option (DS HI) :=
  List.rec (motive := fun _ => List Nat → Nat → DS HI → Option (DS HI)) (fun _ _ d => some d)
    (fun o _ ih ms i d => List.rec (motive := fun _ => Option (DS HI)) none (fun m ms _ => nextK (ih ms (i + 1)) (stepK P T callee ops i o m d)) ms) l
theorem runK_eq (ops : Array Oper) : ∀ (l : List Oper) (ms : List Nat) (i : Nat) (d : DS HI), dstsOk N l = true → runK P T callee ops l ms i d = runD P T callee N ops l ms i d
  | [], ms, _, _, _ => by cases ms <;> rfl
  | o :: rest, [], _, _, _ => rfl
  | o :: rest, m :: ms, i, d, h => by
    simp only [dstsOk, List.all_cons, Bool.and_eq_true] at h
    show nextK (runK P T callee ops rest ms (i + 1)) (stepK P T callee ops i o m d) = _
    simp only [nextK, runD, stepK_eq P T callee N ops i o m d h.1]
    cases stepD P T callee N ops i o m d with
    | none => rfl
    | some d' => exact runK_eq ops rest ms (i + 1) d' h.2
noncomputable def evDrawK (ops : Array Oper) (ms : List Nat) (env : Env) (s : St HI) : Option (Env × St HI) :=
  match runK P T callee ops ops.toList ms 0 { env, s := { s with next := s.next + ops.size }, hist := [], wat := [], pend := [], nid := s.next } with
  | some d => some (d.env, commit d.pend d.s)
  | none => none

variable (cert : Nat → Option (List Nat)) (fuel : Nat)
noncomputable def evRegionK (id : Nat) (ops : Array Oper) (draw : Bool) (env : Env) (s : St HI) : Option (Env × St HI) :=
  match draw with
  | true => match cert id with
    | some ms => evDrawK P T callee ops ms env s
    | none => none
  | false => evOpsK P T callee ops ops.toList env s
noncomputable def regK (r : Option (Env × St HI)) : Option (Ex × Env × St HI) :=
  match r with
    | some (e, s') => some (.normal, e, s')
    | none => none
noncomputable def seqK (r : Option (Ex × Env × St HI)) (k : Env → St HI → Option (Ex × Env × St HI)) : Option (Ex × Env × St HI) :=
  match r with
    | some (.normal, e, s') => k e s'
    | some r => some r
    | none => none
noncomputable def condK (c : Option AV) (x y : Env → St HI → Option (Ex × Env × St HI)) (env : Env) (s : St HI) : Option (Ex × Env × St HI) :=
  match c with
    | some (.bool true) => x env s
    | some (.bool false) => y env s
    | _ => none
noncomputable def blockK (id : Nat) (r : Option (Ex × Env × St HI)) : Option (Ex × Env × St HI) :=
  match r with
    | some (.exit i, e, s') => if Nat.beq i id then some (.normal, e, s') else some (.exit i, e, s')
    | some r => some r
    | none => none
abbrev Res (HI : HeapI) := Option (Ex × Env × St HI)
noncomputable def againK (env0 : Env) (ih : Env → St HI → Res HI) (r : Res HI) : Res HI :=
  match r with
  | some (.normal, env', s') => ih (interK env' env0) s'
  | some r => some r
  | none => none
noncomputable def loopK (f : Env → St HI → Res HI) (env0 : Env) (n : Nat) : Env → St HI → Res HI :=
  Nat.rec (motive := fun _ => Env → St HI → Res HI) (fun _ _ => none) (fun _ ih env s => againK env0 ih (f env s)) n
theorem loopK_eq (f : Env → St HI → Res HI) (env0 : Env) : ∀ (n : Nat) (env : Env) (s : St HI), loopK f env0 n env s = loopF f env0 n env s
  | 0, _, _ => rfl
  | n + 1, env, s => by
    show againK env0 (loopK f env0 n) (f env s) = _
    simp only [againK, loopF]
    cases f env s with
    | none => rfl
    | some r =>
      obtain ⟨x, e, s'⟩ := r
      cases x with
      | normal => simp only [interK_eq]; exact loopK_eq f env0 n _ s'
      | exit i => rfl
      | ret => rfl
noncomputable def evCodeK (c : Code) : Env → St HI → Res HI :=
  Code.rec (motive := fun _ => Env → St HI → Res HI) (fun env s => some (.normal, env, s)) (fun id ops draw env s => regK (evRegionK P T callee cert id ops draw env s))
    (fun _ _ iha ihb env s => seqK (iha env s) ihb) (fun c _ _ ihx ihy env s => condK (opdK env c) ihx ihy env s) (fun id _ ihb env s => blockK id (ihb env s))
    (fun _ ihb env s => loopK ihb env fuel env s) (fun _ _ _ _ _ _ _ _ => none) (fun id env s => some (.exit id, env, s)) (fun _ _ _ _ => none) (fun _ env s => some (.normal, env, s))
    (fun _ _ _ => none) (fun env s => some (.ret, env, s)) (fun _ _ _ => none) c

/-- All that code writes is in range. -/
noncomputable def codeDsts (N : Nat) : Code → Bool
  | .region _ ops _ => dstsOk N ops.toList
  | .seq a b => codeDsts N a && codeDsts N b
  | .cond _ x y => codeDsts N x && codeDsts N y
  | .block _ b => codeDsts N b
  | .loop b => codeDsts N b
  | _ => true

theorem loopF_congr {f g : Env → St HI → Option (Ex × Env × St HI)} (h : ∀ e s, f e s = g e s) (e0 : Env) (n : Nat) (e : Env) (s : St HI) : loopF f e0 n e s = loopF g e0 n e s := by
  have : f = g := funext fun e => funext fun s => h e s
  rw [this]

theorem evCodeK_eq : ∀ (c : Code), codeDsts N c = true → ∀ (env : Env) (s : St HI), evCodeK P T callee cert fuel c env s = evCode P T callee N cert fuel c env s
  | .skip, _, _, _ => rfl
  | .label _, _, _, _ => rfl
  | .exit _, _, _, _ => rfl
  | .ret, _, _, _ => rfl
  | .region id ops draw, h, env, s => by
    simp only [codeDsts] at h
    show regK (evRegionK P T callee cert id ops draw env s) = _
    simp only [evCode, regK]
    cases draw
    · simp only [evRegionK, evRegion, evOpsK_eq P T callee N ops ops.toList env s h]
      rfl
    · simp only [evRegionK, evRegion]
      cases cert id with
      | none => rfl
      | some ms =>
        simp only [evDrawK, evDraw, runK_eq P T callee N ops ops.toList ms 0 _ h]
        rfl
  | .seq a b, h, env, s => by
    simp only [codeDsts, Bool.and_eq_true] at h
    show seqK (evCodeK P T callee cert fuel a env s) (evCodeK P T callee cert fuel b) = _
    simp only [evCode, evCodeK_eq a h.1 env s, seqK]
    cases evCode P T callee N cert fuel a env s with
    | none => rfl
    | some r =>
      obtain ⟨x, e, s'⟩ := r
      cases x with
      | normal => exact evCodeK_eq b h.2 e s'
      | exit i => rfl
      | ret => rfl
  | .cond c x y, h, env, s => by
    simp only [codeDsts, Bool.and_eq_true] at h
    show condK (opdK env c) (evCodeK P T callee cert fuel x) (evCodeK P T callee cert fuel y) env s = _
    simp only [evCode, condK, opdK_eq]
    cases opd env c with
    | none => rfl
    | some v =>
      cases v with
      | bool b =>
        cases b
        · exact evCodeK_eq y h.2 env s
        · exact evCodeK_eq x h.1 env s
      | _ => rfl
  | .block id b, h, env, s => by
    simp only [codeDsts] at h
    show blockK id (evCodeK P T callee cert fuel b env s) = _
    simp only [evCode, evCodeK_eq b h env s, blockK]
    cases evCode P T callee N cert fuel b env s with
    | none => rfl
    | some r =>
      obtain ⟨x, e, s'⟩ := r
      cases x <;> rfl
  | .loop b, h, env, s => by
    simp only [codeDsts] at h
    show loopK (evCodeK P T callee cert fuel b) env fuel env s = _
    rw [loopK_eq]
    simp only [evCode]
    exact loopF_congr (evCodeK_eq b h) env fuel env s
  | .scope _, _, _, _ => rfl
  | .goto _, _, _, _ => rfl
  | .refuse _, _, _, _ => rfl
  | .rangeFunc _ _ _ _, _, _, _ => rfl

noncomputable def backK (fn : Func) (r : Option (Ex × Env × St HI)) : Option (AV × St HI) :=
  match r with
            | some (.normal, env, s') | some (.ret, env, s') => match resA T env s' fn.results.toList with
              | some vs => some (single vs, s')
              | none => none
            | _ => none
/-- A function whose code is told. -/
noncomputable def fnK (certs : Nat → Nat → Option (List Nat)) (f : FuncId) (args : List AV) (s : St HI) : Option (AV × St HI) :=
  match T.func f with
      | some fn => match fn.body with
        | some c => if Nat.ble args.length fn.ntmps then backK T fn (evCodeK P T callee (certs f) fuel c (argsK args 0 .leaf) s) else none
        | none => none
      | none => none
noncomputable def callK (certs : Nat → Nat → Option (List Nat)) (prim : Callee HI) : Nat → Callee HI
  | 0 => prim
  | d + 1 => fun f args s => match prim f args s with
    | some r => some r
    | none => fnK P T (callK certs prim d) fuel certs f args s
theorem callK_eq (certs : Nat → Nat → Option (List Nat)) (prim : Callee HI) (hd : ∀ f fn c, T.func f = some fn → fn.body = some c → codeDsts fn.ntmps c = true) : ∀ d, callK P T fuel certs prim d = callA P T fuel certs prim d
  | 0 => rfl
  | d + 1 => by
    funext f args s
    simp only [callK, callA]
    cases prim f args s with
    | some r => rfl
    | none =>
      simp only [fnK, callK_eq certs prim hd d]
      cases hf : T.func f with
      | none => rfl
      | some fn =>
        simp only
        cases hb : fn.body with
        | none => rfl
        | some c =>
          simp only [argsK_eq]
          simp only [evCodeK_eq P T (callA P T fuel certs prim d) fn.ntmps (certs f) fuel c (hd f fn c hf hb)]
          rfl
end
end Go.Am
