/- The machine once more, with small branches: the same, and lighter for the kernel. -/
import Derived.Test.YtbjkfbcladkfcaaGreatDoorAmRec
set_option linter.unusedSimpArgs false
set_option linter.unusedVariables false
namespace Go.Am
section
variable {HI : HeapI}
abbrev KFun (HI : HeapI) := Program → Tab → Callee HI → Oper → (Operand → Option AV) → St HI → Option (AV × St HI)
noncomputable def purK (s : St HI) (v : Option AV) : Option (AV × St HI) := Option.rec (motive := fun _ => Option (AV × St HI)) none (fun v => some (v, s)) v
theorem purK_eq (s : St HI) (v : Option AV) : purK s v = match v with
  | some v => some (v, s)
  | none => none := by cases v <;> rfl
noncomputable def k_move (x : Operand) : KFun HI := fun P T callee o ρ s =>
  purK s (ρ x)
noncomputable def k_pick (c a b : Operand) : KFun HI := fun P T callee o ρ s =>
  match ρ c with
    | some (.bool true) => purK s (ρ a)
    | some (.bool false) => purK s (ρ b)
    | _ => none
noncomputable def k_alloc (t : TypeId) : KFun HI := fun P T callee o ρ s =>
  match T.zero t with
    | some z => some (.hptr s.next 0, s.new (.cells z.cells))
    | none => none
noncomputable def k_box (x : Operand) : KFun HI := fun P T callee o ρ s =>
  match ρ x with
    | some v => some (.hptr s.next 0, s.new (.cells v.cells))
    | none => none
noncomputable def k_build (t : TypeId) (parts : Array (Nat × Operand)) : KFun HI := fun P T callee o ρ s =>
  match evParts ρ parts.toList, T.zero t with
    | some vs, some z => match T.und t with
      | some (.struct fs) =>
        match fillA (structPlace T fs) z.cells vs with
        | some cs => if fs.toList.all (fun f => (T.info f.type).isSome) then some (.agg cs, s) else none
        | none => none
      | some (.array _ elem) => match T.size elem with
        | some es => match fillA (fun i => some (i * es, es)) z.cells vs with
          | some cs => some (.agg cs, s)
          | none => none
        | none => none
      | _ => none
    | _, _ => none
noncomputable def k_buildSlice (t : TypeId) (n : Nat) (parts : Array (Nat × Operand)) : KFun HI := fun P T callee o ρ s =>
  match evParts ρ parts.toList, T.und t with
    | some vs, some (.slice elem) => match T.size elem, T.zero elem with
      | some es, some z => if z.cells.length = es ∧ 0 < es ∧ n * es ≤ 2 ^ 24 then
          match fillA (fun i => some (i * es, es)) (List.replicate n z.cells).flatten vs with
          | some cs => some (.hsl s.next 0 es n n true, s.new (.cells cs))
          | none => none
        else none
      | _, _ => none
    | _, _ => none
noncomputable def k_load (t : TypeId) (x : Operand) : KFun HI := fun P T callee o ρ s =>
  bindK (ρ x) fun p => purK s (loadVK T s t p)
noncomputable def k_store (t : TypeId) (x y : Operand) : KFun HI := fun P T callee o ρ s =>
  bindK (ρ x) fun p => bindK (ρ y) fun v => Option.rec (motive := fun _ => Option (AV × St HI)) none (fun s' => some (.tuple [], s')) (storeVK T s t p v)
noncomputable def k_nilCheck (x : Operand) : KFun HI := fun P T callee o ρ s =>
  match ρ x with
    | some (.hptr b i) => some (.hptr b i, s)
    | some (.fptr cs i) => some (.fptr cs i, s)
    | some (.func f a b) => some (.func f a b, s)
    | some (.iface t v) => some (.iface t v, s)
    | _ => none
noncomputable def k_binOp (op : BinOp) (t : TypeId) (x y : Operand) : KFun HI := fun P T callee o ρ s =>
  match ρ x, ρ y with
    | some (.int k a), some (.int k' b) => if k = k' ∨ isShift op = true then purK s (intOpK op k a b) else none
    | some u, some v => match nilEq u v, T.und t with
      | some e, some d => if nilKind d u = true ∧ nilKind d v = true then match op with
          | .eql => some (.bool e, s)
          | .neq => some (.bool !e, s)
          | _ => none
        else none
      | _, _ => purK s (evQ P o ρ)
    | _, _ => none
noncomputable def k_unOp (x : Operand) : KFun HI := fun P T callee o ρ s =>
  match ρ x with
    | some (.bool b) => some (.bool !b, s)
    | _ => none
noncomputable def k_convert (src dst : TypeId) (x : Operand) : KFun HI := fun P T callee o ρ s =>
  match T.und src, T.und dst, ρ x with
    | some (.int _), some (.int k), some (.int _ n) => some (.int k (wrapK k n), s)
    | some (.slice e), some .string, some v => match T.und e, sliceLen v with
      | some (.int .u8), some n => match sliceCellsK s 1 n v with
        | some cs => match bytesOf cs with
          | some bs => some (.string ⟨⟨bs⟩⟩, s)
          | none => none
        | none => none
      | _, _ => none
    | some (.string), some (.string), some (.string b) => some (.string b, s)
    | _, _, _ => none
noncomputable def k_makeInterface (t : TypeId) (x : Operand) : KFun HI := fun P T callee o ρ s =>
  match T.und t with
    | some (.interface _) => none
    | some _ => match ρ x with
      | some v => some (.iface t v, s)
      | none => none
    | none => none
noncomputable def k_makeFunc (f : FuncId) (first cap : Array Operand) : KFun HI := fun P T callee o ρ s =>
  match evList ρ first.toList, evList ρ cap.toList with
    | some xs, some ys => some (.func f xs ys, s)
    | _, _ => none
noncomputable def k_makeMap (t : TypeId) (r : Option Operand) : KFun HI := fun P T callee o ρ s =>
  match T.und t with
    | some (.map _ _) => match r with
      | none => some (.map s.next, s.new (.map []))
      | some x => match ρ x with
        | some (.int _ _) => some (.map s.next, s.new (.map []))
        | _ => none
    | _ => none
noncomputable def k_makeSlice (t : TypeId) (l c : Operand) : KFun HI := fun P T callee o ρ s =>
  match T.und t with
    | some (.slice elem) => match T.info elem, T.zero elem, ρ l, ρ c with
      | some i, some z, some (.int _ ln), some (.int _ cn) =>
        if z.cells.length = i.size ∧ 0 < i.size ∧ 0 ≤ ln ∧ ln ≤ cn ∧ cn ≤ 9223372036854775807 ∧ i.bytes * cn ≤ 2 ^ 48 then
          some (.hsl s.next 0 i.size ln.toNat cn.toNat true, s.new (.cells (List.replicate cn.toNat z.cells).flatten))
        else none
      | _, _, _, _ => none
    | _ => none
noncomputable def k_slice (t : TypeId) (x : Operand) (lo hi mx : Option Operand) : KFun HI := fun P T callee o ρ s =>
  match ρ x with
    | some (.string _) => purK s (evQ P o ρ)
    | some v => match optInt ρ lo, optInt ρ hi, optInt ρ mx with
      | some l, some h, some m => match T.und t with
        | some (.slice _) => purK s (resliceV T t v l h m)
        | some (.array _ _) => purK s (sliceArr T s t v l h m)
        | _ => none
      | _, _, _ => none
    | none => none
noncomputable def k_fieldAddr (t : TypeId) (x : Operand) (i : Nat) : KFun HI := fun P T callee o ρ s =>
  match fieldOf T t i with
    | some f => match T.size f.type with
      | some n => if n = 0 then none else match ρ x with
        | some (.hptr b j) => some (.hptr b (j + f.offset), s)
        | some (.fptr cs j) => some (.fptr cs (j + f.offset), s)
        | _ => none
      | none => none
    | none => none
noncomputable def k_field (t : TypeId) (x : Operand) (i : Nat) : KFun HI := fun P T callee o ρ s =>
  match fieldOf T t i, ρ x with
    | some f, some (.agg cs) => purK s (readVK T f.type cs f.offset)
    | _, _ => none
noncomputable def k_indexAddr (t : TypeId) (x ix : Operand) : KFun HI := fun P T callee o ρ s =>
  match ρ x, ρ ix with
    | some v, some (.int _ i) => purK s (indexAddrVK T t v i)
    | _, _ => none
noncomputable def k_index (t : TypeId) (x ix : Operand) : KFun HI := fun P T callee o ρ s =>
  match T.und t, ρ x, ρ ix with
    | some (.array n elem), some (.agg cs), some (.int _ i) => match T.size elem with
      | some es => if 0 ≤ i ∧ i < n then purK s (readVK T elem cs (i.toNat * es)) else none
      | none => none
    | some .string, some (.string b), some (.int _ i) => if 0 ≤ i then match b.data.toList[i.toNat]? with
        | some c => some (.int .u8 c.toNat, s)
        | none => none
      else none
    | _, _, _ => none
noncomputable def k_lookup (t : TypeId) (m k : Operand) (ok : Bool) : KFun HI := fun P T callee o ρ s =>
  match ρ m, ρ k with
    | some x, some y => purK s (lookupV P T s t x y ok)
    | _, _ => none
noncomputable def k_mapUpdate (t : TypeId) (m k v : Operand) : KFun HI := fun P T callee o ρ s =>
  match ρ m, ρ k, ρ v with
    | some x, some y, some z => match updateV P T s t x y z with
      | some s' => some (.tuple [], s')
      | none => none
    | _, _, _ => none
noncomputable def k_range (t : TypeId) (x : Operand) : KFun HI := fun P T callee o ρ s =>
  match T.und t, ρ x with
    | some .string, some (.string b) => some (.hptr s.next 0, s.new (.iter b 0))
    | _, _ => none
noncomputable def k_next (it : Operand) : KFun HI := fun P T callee o ρ s =>
  match ρ it with
    | some (.hptr b 0) => match s.get b with
      | some (.iter st pos) =>
        if pos < st.size then
          some (.tuple [.bool true, .int .i64 pos, .int .i32 (Utf8.decode st pos).1], s.put b (some (.iter st (pos + (Utf8.decode st pos).2))))
        else some (.tuple [.bool false], s)
      | _ => none
    | _ => none
noncomputable def k_typeAssert (x : Operand) (asserted : TypeId) (ok : Bool) : KFun HI := fun P T callee o ρ s =>
  match T.und asserted, ρ x with
    | some (.interface _), _ => none
    | some _, some (.iface t v) => if t = asserted then some (if ok then .tuple [v, .bool true] else v, s) else
        if ok then match T.zero asserted with
          | some z => some (.tuple [z, .bool false], s)
          | none => none
        else none
    | some _, some .niface => if ok then match T.zero asserted with
          | some z => some (.tuple [z, .bool false], s)
          | none => none
        else none
    | _, _ => none
noncomputable def k_extract (x : Operand) (i : Nat) : KFun HI := fun P T callee o ρ s =>
  match ρ x with
    | some (.tuple vs) => purK s vs[i]?
    | _ => none
def kb_len (P : Program) (T : Tab) (ats : List TypeId) (args : List AV) (s : St HI) : Option (AV × St HI) :=
  match ats, args with
  | t :: _, x :: _ => match T.und t with
    | some (.slice _) => match sliceLen x with
      | some n => some (.int .i64 n, s)
      | none => none
    | some (.map _ _) => match x with
      | .nmap => some (.int .i64 0, s)
      | .map m => match s.mapOf m with
        | some es => some (.int .i64 es.length, s)
        | none => none
      | _ => none
    | some .string => match x with
      | .string b => some (.int .i64 b.size, s)
      | _ => none
    | some (.array n _) => some (.int .i64 n, s)
    | _ => none
  | _, _ => none
def kb_cap (P : Program) (T : Tab) (ats : List TypeId) (args : List AV) (s : St HI) : Option (AV × St HI) :=
  match ats, args with
  | t :: _, x :: _ => match T.und t with
    | some (.slice _) => match x with
      | .nsl => some (.int .i64 0, s)
      | .hsl _ _ _ _ cap true => some (.int .i64 cap, s)
      | .fsl _ _ _ _ cap true => some (.int .i64 cap, s)
      | _ => none
    | _ => none
  | _, _ => none
def kb_append (P : Program) (T : Tab) (ats : List TypeId) (args : List AV) (s : St HI) : Option (AV × St HI) :=
  match ats, args with
  | [sT, xT], [x, y] => appendV T s sT xT x y
  | _, _ => none
def kb_copy (P : Program) (T : Tab) (ats : List TypeId) (args : List AV) (s : St HI) : Option (AV × St HI) :=
  match ats, args with
  | t :: _, [x, y] => copyV T s t x y
  | _, _ => none
def kb_clear (P : Program) (T : Tab) (ats : List TypeId) (args : List AV) (s : St HI) : Option (AV × St HI) :=
  match ats, args with
  | t :: _, [x] => match clearV T s t x with
    | some s' => some (.tuple [], s')
    | none => none
  | _, _ => none
def kb_delete (P : Program) (T : Tab) (ats : List TypeId) (args : List AV) (s : St HI) : Option (AV × St HI) :=
  match ats, args with
  | t :: _, [m, k] => match deleteV P T s t m k with
    | some s' => some (.tuple [], s')
    | none => none
  | _, _ => none
def kb_min (P : Program) (T : Tab) (ats : List TypeId) (args : List AV) (s : St HI) : Option (AV × St HI) :=
  match ats, args with
  | _, [.int k a, .int _ c] => some (.int k (if c < a then c else a), s)
  | _, _ => none
def kb_max (P : Program) (T : Tab) (ats : List TypeId) (args : List AV) (s : St HI) : Option (AV × St HI) :=
  match ats, args with
  | _, [.int k a, .int _ c] => some (.int k (if c > a then c else a), s)
  | _, _ => none
def kb_none (_ : Program) (_ : Tab) (_ : List TypeId) (_ : List AV) (_ : St HI) : Option (AV × St HI) := none
def builtinK (b : Builtin) : Program → Tab → List TypeId → List AV → St HI → Option (AV × St HI) :=
  match b with
  | .len => kb_len
  | .cap => kb_cap
  | .append => kb_append
  | .copy => kb_copy
  | .clear => kb_clear
  | .delete => kb_delete
  | .min => kb_min
  | .max => kb_max
  | _ => kb_none
theorem builtinK_eq (P : Program) (T : Tab) (b : Builtin) (ats : Array TypeId) (args : List AV) (s : St HI) : builtinK b P T ats.toList args s = evBuiltin P T b ats args s := by
  unfold evBuiltin
  generalize ats.toList = l
  cases b <;> first
    | rfl
    | (rcases l with _ | ⟨t, _ | ⟨u, _ | ⟨v, l⟩⟩⟩ <;> rcases args with _ | ⟨x, _ | ⟨y, _ | ⟨z, args⟩⟩⟩ <;> first | rfl | (cases x <;> rfl) | (cases x <;> cases y <;> rfl))

abbrev CFun (HI : HeapI) := Program → Tab → Callee HI → Array TypeId → List AV → (Operand → Option AV) → St HI → Option (AV × St HI)
def kc_builtin (b : Builtin) : CFun HI := fun P T _ ats args _ s => builtinK b P T ats.toList args s
def kc_value (f : Operand) : CFun HI := fun _ T callee _ args ρ s => match ρ f with
      | some (.func g first cap) => callF T callee g (first ++ args ++ cap) s
      | _ => none
def kc_invoke (r : Operand) (name : String) : CFun HI := fun _ T callee _ args ρ s => match ρ r with
      | some (.iface t v) => match T.info t, T.und t with
        | some i, some d => match i.methods.find? (·.name == name) with
          | some m => match m.path.isEmpty, m.func, d with
            | true, some (f, true), .pointer _ => callF T callee f (v :: args) s
            | true, some (_, false), .pointer _ => none
            | true, some (f, false), _ => callF T callee f (v :: args) s
            | _, _, _ => none
          | none => none
        | _, _ => none
      | _ => none
def calleeK (c : Call) : CFun HI :=
  match c.callee with
  | .builtin b => kc_builtin b
  | .value f => kc_value f
  | .invoke r name => kc_invoke r name
noncomputable def k_call (c : Call) : KFun HI := fun P T callee _ ρ s =>
  match listK ρ c.args.toList with
  | none => none
  | some args => calleeK c P T callee c.argTypes args ρ s
def k_none : KFun HI := fun _ _ _ _ _ _ => none
def notK (u : UnOp) (a b : KFun HI) : KFun HI :=
  match u with
  | .not => a
  | _ => b
noncomputable def k_fn (fn : Fn) (first cap : Array Operand) : KFun HI :=
  match fn with
  | .func f => k_makeFunc f first cap
  | _ => k_none
noncomputable def opK (op : Op) : KFun HI :=
  Op.rec (motive := fun _ => KFun HI) k_move k_move k_pick k_alloc (fun _ x => k_box x) k_build k_buildSlice k_mapUpdate k_load k_store (fun _ => k_none) (fun _ => k_none) k_nilCheck (fun op t x y _ => k_binOp op t x y)
    (fun u _ x => notK u (k_unOp x) k_none) k_convert (fun _ _ => k_none) k_makeInterface (fun fn first cap => k_fn fn first cap) k_makeMap (fun _ _ => k_none) k_makeSlice k_slice k_fieldAddr k_field k_indexAddr k_index k_lookup k_mapUpdate (fun _ _ _ => k_none) (fun _ _ _ _ => k_none)
    k_range (fun it b => Bool.rec (motive := fun _ => KFun HI) k_none (k_next it) b) (fun _ => k_none) (fun x _ a ok => k_typeAssert x a ok) k_extract k_call (fun _ => k_none) (fun _ => k_none) (fun _ => k_none) (fun _ _ => k_none) (fun _ _ _ => k_none) (fun _ _ => k_none) op
noncomputable def evOpK (P : Program) (T : Tab) (callee : Callee HI) (o : Oper) (ρ : Operand → Option AV) (s : St HI) : Option (AV × St HI) := opK o.op P T callee o ρ s

theorem k_call_eq (P : Program) (T : Tab) (callee : Callee HI) (c : Call) (o : Oper) (ρ : Operand → Option AV) (s : St HI) : k_call c P T callee o ρ s = evCall P T callee c ρ s := by
  unfold k_call evCall calleeK
  rw [listK_eq]
  cases evList ρ c.args.toList with
  | none => rfl
  | some args =>
    simp only
    cases c.callee with
    | builtin b => exact builtinK_eq P T b c.argTypes args s
    | value f => rfl
    | invoke r name => rfl

theorem evOpK_eq (P : Program) (T : Tab) (callee : Callee HI) (o : Oper) (ρ : Operand → Option AV) (s : St HI) : evOpK P T callee o ρ s = evOp P T callee o ρ s := by
  obtain ⟨d, op, ty, ps, af, g⟩ := o
  cases op with
  | call c => exact k_call_eq P T callee c { dst := d, op := .call c, type := ty, pos := ps, after := af, guard := g } ρ s
  | unOp u t x => cases u <;> rfl
  | makeFunc fn a b => cases fn <;> rfl
  | next it b => cases b <;> rfl
  | move x => show purK s (ρ x) = _; rw [purK_eq]; rfl
  | assign x => show purK s (ρ x) = _; rw [purK_eq]; rfl
  | load t x =>
    simp only [evOpK, opK, k_load, loadVK_eq, purK_eq, bindK, evOp]
    cases ρ x <;> rfl
  | store t x y =>
    simp only [evOpK, opK, k_store, storeVK_eq, bindK, evOp]
    cases ρ x with
    | none => rfl
    | some p =>
      cases ρ y with
      | none => rfl
      | some v => simp only; cases storeV T s t p v <;> rfl
  | field t x i => simp only [evOpK, opK, k_field, readVK_eq, purK_eq]; rfl
  | index t x i => simp only [evOpK, opK, k_index, readVK_eq, purK_eq]; rfl
  | convert a b x => simp only [evOpK, opK, k_convert, sliceCellsK_eq, wrapK_eq]; rfl
  | pick c a b => simp only [evOpK, opK, k_pick, purK_eq]; rfl
  | binOp op t x y r => simp only [evOpK, opK, k_binOp, purK_eq, intOpK_eq]; rfl
  | slice t x a b c => simp only [evOpK, opK, k_slice, purK_eq]; rfl
  | indexAddr t x i => simp only [evOpK, opK, k_indexAddr, purK_eq, indexAddrVK_eq]; rfl
  | lookup t m k ok => simp only [evOpK, opK, k_lookup, purK_eq]; rfl
  | extract x i => simp only [evOpK, opK, k_extract, purK_eq]; rfl
  | _ => rfl
end
end Go.Am
