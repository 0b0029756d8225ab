/- The abstract machine: statements (regions), code, calls. -/
import Derived.Test.YtbjkfbcladkfcaaGreatDoorAmOpK
set_option linter.unusedSimpArgs false
set_option linter.unusedVariables false
namespace Go.Am

mutual
def AV.beq : AV → AV → Bool
  | .bool a, .bool b => a == b
  | .int j a, .int k b => decide (j = k) && decide (a = b)
  | .string a, .string b => decide (a.data.toList = b.data.toList)
  | .nptr, .nptr | .nsl, .nsl | .nmap, .nmap | .nfunc, .nfunc | .niface, .niface => true
  | .hptr a b, .hptr c d => Nat.beq a c && Nat.beq b d
  | .fptr xs a, .fptr ys b => Nat.beq a b && AV.beqs xs ys
  | .hsl a b c d e f, .hsl a' b' c' d' e' f' => Nat.beq a a' && Nat.beq b b' && Nat.beq c c' && Nat.beq d d' && Nat.beq e e' && (f == f')
  | .fsl xs b c d e f, .fsl ys b' c' d' e' f' => Nat.beq b b' && Nat.beq c c' && Nat.beq d d' && Nat.beq e e' && (f == f') && AV.beqs xs ys
  | .map a, .map b => Nat.beq a b
  | .func f xs ys, .func g us vs => Nat.beq f g && AV.beqs xs us && AV.beqs ys vs
  | .iface t x, .iface u y => Nat.beq t u && AV.beq x y
  | .agg xs, .agg ys => AV.beqs xs ys
  | .tuple xs, .tuple ys => AV.beqs xs ys
  | _, _ => false
def AV.beqs : List AV → List AV → Bool
  | [], [] => true
  | x :: xs, y :: ys => AV.beq x y && AV.beqs xs ys
  | _, _ => false
end

theorem bytes_eq {a b : ByteArray} (h : a.data.toList = b.data.toList) : a = b := by
  cases a with | mk a => cases b with | mk b => simp only at h; rw [Array.toList_inj.1 h]

mutual
theorem AV.eq_of_beq : ∀ (x y : AV), AV.beq x y = true → x = y
  | .bool a, y => by cases y <;> simp [AV.beq]
  | .int j a, y => by cases y <;> simp [AV.beq]
  | .string a, y => by cases y <;> simp only [AV.beq, Bool.false_eq_true, false_implies, decide_eq_true_eq]; intro h; rw [bytes_eq h]
  | .nptr, y => by cases y <;> simp [AV.beq]
  | .nsl, y => by cases y <;> simp [AV.beq]
  | .nmap, y => by cases y <;> simp [AV.beq]
  | .nfunc, y => by cases y <;> simp [AV.beq]
  | .niface, y => by cases y <;> simp [AV.beq]
  | .hptr a b, y => by cases y <;> simp [AV.beq, Nat.beq_eq]
  | .fptr xs a, y => by
    cases y <;> simp only [AV.beq, Bool.false_eq_true, false_implies, Bool.and_eq_true, Nat.beq_eq]
    rintro ⟨rfl, h⟩; rw [AV.eqs_of_beqs _ _ h]
  | .hsl a b c d e f, y => by cases y <;> simp [AV.beq, Nat.beq_eq]; intros; simp_all
  | .fsl xs b c d e f, y => by
    cases y <;> simp only [AV.beq, Bool.false_eq_true, false_implies, Bool.and_eq_true, Nat.beq_eq, beq_iff_eq]
    rintro ⟨⟨⟨⟨⟨rfl, rfl⟩, rfl⟩, rfl⟩, rfl⟩, h⟩; rw [AV.eqs_of_beqs _ _ h]
  | .map a, y => by cases y <;> simp [AV.beq, Nat.beq_eq]
  | .func f xs ys, y => by
    cases y <;> simp only [AV.beq, Bool.false_eq_true, false_implies, Bool.and_eq_true, Nat.beq_eq]
    rintro ⟨⟨rfl, h⟩, h'⟩; rw [AV.eqs_of_beqs _ _ h, AV.eqs_of_beqs _ _ h']
  | .iface t x, y => by
    cases y <;> simp only [AV.beq, Bool.false_eq_true, false_implies, Bool.and_eq_true, Nat.beq_eq]
    rintro ⟨rfl, h⟩; rw [AV.eq_of_beq _ _ h]
  | .agg xs, y => by
    cases y <;> simp only [AV.beq, Bool.false_eq_true, false_implies]
    intro h; rw [AV.eqs_of_beqs _ _ h]
  | .tuple xs, y => by
    cases y <;> simp only [AV.beq, Bool.false_eq_true, false_implies]
    intro h; rw [AV.eqs_of_beqs _ _ h]
theorem AV.eqs_of_beqs : ∀ (xs ys : List AV), AV.beqs xs ys = true → xs = ys
  | [], ys => by cases ys <;> simp [AV.beqs]
  | x :: xs, ys => by
    cases ys <;> simp only [AV.beqs, Bool.false_eq_true, false_implies, Bool.and_eq_true]
    rintro ⟨h, h'⟩; rw [AV.eq_of_beq _ _ h, AV.eqs_of_beqs _ _ h']
end

mutual
theorem AV.beq_self : ∀ (x : AV), AV.beq x x = true
  | .bool _ | .int _ _ | .string _ | .nptr | .nsl | .nmap | .nfunc | .niface | .hptr _ _ | .hsl _ _ _ _ _ _ | .map _ => by simp [AV.beq, Nat.beq_eq]
  | .fptr xs _ => by simp [AV.beq, Nat.beq_eq, AV.beqs_self xs]
  | .fsl xs _ _ _ _ _ => by simp [AV.beq, Nat.beq_eq, AV.beqs_self xs]
  | .func _ xs ys => by simp [AV.beq, Nat.beq_eq, AV.beqs_self xs, AV.beqs_self ys]
  | .iface _ x => by simp [AV.beq, Nat.beq_eq, AV.beq_self x]
  | .agg xs => by simp [AV.beq, AV.beqs_self xs]
  | .tuple xs => by simp [AV.beq, AV.beqs_self xs]
theorem AV.beqs_self : ∀ (xs : List AV), AV.beqs xs xs = true
  | [] => rfl
  | x :: xs => by simp [AV.beqs, AV.beq_self x, AV.beqs_self xs]
end

def opd (env : Env) : Operand → Option AV
  | .tmp t => env.get t
  | .const v => ofV v
  | .global _ => none
  | .func f => some (.func f [] [])

/-- Whether a guarded operation is to be carried out. -/
def wantedA (ops : Array Oper) (env : Env) (o : Oper) : Option Bool :=
  match o.guard with
  | none => some true
  | some (j, want) => match ops[j]? with
    | some g => match g.dst with
      | some d => match env.get d with
        | some (.bool b) => some (b == want)
        | some (.tuple []) => some false
        | _ => none
      | none => none
    | none => none

def dstOk (N : Nat) (o : Oper) : Bool :=
  match o.dst with
  | some d => Nat.blt d N
  | none => true

section
variable {HI : HeapI} (P : Program) (T : Tab) (callee : Callee HI) (N : Nat)

/-- The operations of a region whose order is fixed. -/
def evOps (ops : Array Oper) : List Oper → Env → St HI → Option (Env × St HI)
  | [], env, s => some (env, s)
  | o :: rest, env, s =>
    if dstOk N o then
      match wantedA ops env o with
      | some true => match evOp P T callee o (opd env) s with
        | some (v, s') => evOps ops rest (env.putO o.dst v) s'
        | none => none
      | some false => evOps ops rest (env.putO o.dst (.tuple [])) s
      | none => none
    else none

/-! ### a region that draws its order -/
inductive Cls where
  | pure | read | alloc | eff

def clsOf (o : Oper) : Cls :=
  match o.op with
  | .move _ | .assign _ | .pick .. | .nilCheck _ | .unOp .. | .makeInterface .. | .makeFunc .. | .extract .. | .fieldAddr .. | .indexAddr .. | .field .. | .index .. | .typeAssert .. | .binOp .. | .build .. => .pure
  | .load .. | .lookup .. | .convert .. | .slice .. => .read
  | .call c => match c.callee with
    | .builtin .len | .builtin .cap | .builtin .min | .builtin .max => .read
    | _ => .eff
  | .alloc _ | .box .. | .buildSlice .. | .makeMap _ none => .alloc
  | _ => .eff

/-- What comes ahead of an operation, as a set of bits. -/
def maskOf (ms : List Nat) (o : Oper) : Nat :=
  o.after.toList.foldl (fun m e => if Region.binds .any e then m ||| 2 ^ e.on ||| ms.getD e.on 0 else m) 0
def masksFrom : List Oper → List Nat → List Nat
  | [], ms => ms
  | o :: rest, ms => masksFrom rest (ms ++ [maskOf ms o])
def masks (ops : Array Oper) : List Nat := masksFrom ops.toList []

def tmpOf : Operand → Option Nat
  | .tmp t => some t
  | _ => none

/-- The temporaries that an operation looks at. -/
def looks (ops : Array Oper) (o : Oper) : List Nat :=
  (o.op.operands.toList.filterMap tmpOf) ++ (match o.guard with
    | some (g, _) => ((ops[g]?).bind (·.dst)).toList
    | none => [])

/-- The text's own order stands for all: every temporary is written once; who looks at it comes behind its writer, or the writer behind him. -/
def lexOk (ops : Array Oper) (ms : List Nat) : Bool :=
  (ops.toList.zipIdx.all fun (o, i) =>
    o.after.toList.all (fun e => !Region.binds .any e || Nat.blt e.on i) &&
    (ops.toList.zipIdx.all fun (p, j) =>
      match p.dst with
      | some d => (if Nat.beq i j then !(looks ops o).contains d else (if (looks ops o).contains d then (if Nat.blt j i then (ms.getD i 0).testBit j else (ms.getD j 0).testBit i) else true)) && (Nat.beq i j || !(o.dst == some d))
      | none => true))

/-- What a new block holds, and the value that leads to it, by its number. -/
def evAlloc (o : Oper) (ρ : Operand → Option AV) : Option ((Nat → AV) × Blk) :=
  match o.op with
  | .alloc t => match T.zero t with
    | some z => some (fun b => .hptr b 0, .cells z.cells)
    | none => none
  | .box _ x => match ρ x with
    | some v => some (fun b => .hptr b 0, .cells v.cells)
    | none => none
  | .buildSlice t n parts => match evParts ρ parts.toList, T.und t with
    | some vs, some (.slice elem) => match T.size elem, T.zero elem with
      | some es, some z => if z.cells.length = es ∧ 0 < es ∧ n * es ≤ 2 ^ 24 then
          match fillA (fun i => some (i * es, es)) (List.replicate n z.cells).flatten vs with
          | some cs => some (fun b => .hsl b 0 es n n true, .cells cs)
          | none => none
        else none
      | _, _ => none
    | _, _ => none
  | .makeMap t none => match T.und t with
    | some (.map _ _) => some (fun b => .map b, .map [])
    | _ => none
  | _ => none

structure DS (HI : HeapI) where
  env : Env
  s : St HI
  hist : List (Nat × St HI)
  wat : List (Nat × Oper × Env × AV)
  pend : List (Nat × Nat × Blk)
  nid : Nat

/-- A reading gives this value in a state. -/
def reads1 (o : Oper) (env : Env) (v : AV) (s : St HI) : Bool :=
  match evOp P T callee o (opd env) s with
  | some (u, _) => AV.beq u v
  | none => false

def readsBack (o : Oper) (env : Env) (v : AV) (mask : Nat) : List (Nat × St HI) → Bool
  | [] => true
  | (e, s) :: rest => if mask.testBit e then true else reads1 P T callee o env v s && readsBack o env v mask rest

def commit : List (Nat × Nat × Blk) → St HI → St HI
  | [], s => s
  | (_, b, x) :: rest, s => commit rest (s.put b (some x))

def stepD (ops : Array Oper) (i : Nat) (o : Oper) (mask : Nat) (d : DS HI) : Option (DS HI) :=
  if dstOk N o then
    match wantedA ops d.env o with
    | some false => some { d with env := d.env.putO o.dst (.tuple []) }
    | some true => match clsOf o with
      | .pure => match evOp P T callee o (opd d.env) d.s with
        | some (v, _) => some { d with env := d.env.putO o.dst v }
        | none => none
      | .read => match evOp P T callee o (opd d.env) d.s with
        | some (v, _) => if readsBack P T callee o d.env v mask d.hist then some { d with env := d.env.putO o.dst v, wat := (i, o, d.env, v) :: d.wat } else none
        | none => none
      | .alloc => match evAlloc T o (opd d.env) with
        | some (f, x) => some { d with env := d.env.putO o.dst (f d.nid), pend := (i, d.nid, x) :: d.pend, nid := d.nid + 1 }
        | none => none
      | .eff =>
        match evOp P T callee o (opd d.env) (commit (d.pend.filter fun p => mask.testBit p.1) d.s) with
        | some (v, s') =>
          if d.hist.all (fun h => mask.testBit h.1) && d.wat.all (fun x => mask.testBit x.1 || reads1 P T callee x.2.1 x.2.2.1 x.2.2.2 s') then
            some { env := d.env.putO o.dst v, s := s', hist := (i, d.s) :: d.hist, wat := d.wat.filter (fun x => !mask.testBit x.1), pend := d.pend.filter (fun p => !mask.testBit p.1), nid := d.nid }
          else none
        | none => none
    | none => none
  else none

def runD (ops : Array Oper) : List Oper → List Nat → Nat → DS HI → Option (DS HI)
  | [], _, _, d => some d
  | o :: rest, ms, i, d => match ms with
    | [] => none
    | m :: ms => match stepD P T callee N ops i o m d with
      | some d' => runD ops rest ms (i + 1) d'
      | none => none

def evDraw (ops : Array Oper) (ms : List Nat) (env : Env) (s : St HI) : Option (Env × St HI) :=
  match runD P T callee N ops ops.toList ms 0 { env, s := { s with next := s.next + ops.size }, hist := [], wat := [], pend := [], nid := s.next } with
  | some d => some (d.env, commit d.pend d.s)
  | none => none
end
end Go.Am
