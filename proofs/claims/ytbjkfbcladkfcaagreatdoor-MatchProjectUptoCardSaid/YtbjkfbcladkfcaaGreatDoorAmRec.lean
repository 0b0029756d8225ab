/- Tries and lists by their recursors: lighter for the kernel, the same functions. -/
import Derived.Test.YtbjkfbcladkfcaaGreatDoorAmCall
set_option linter.unusedSimpArgs false
set_option linter.unusedVariables false
namespace Go.Am
section
variable {α : Type}
noncomputable def getK (t : PT α) : List Bool → Option α :=
  PT.rec (motive := fun _ => List Bool → Option α) (fun _ => none)
    (fun _ v _ ihl ihr bs => List.rec (motive := fun _ => Option α) v (fun b bs' _ => Bool.rec (motive := fun _ => Option α) (ihl bs') (ihr bs') b) bs) t
theorem getK_eq (t : PT α) : ∀ bs, getK t bs = t.get bs := by
  induction t with
  | leaf => intro bs; rw [PT.get_leaf]; rfl
  | node l v r ihl ihr =>
    intro bs
    cases bs with
    | nil => rfl
    | cons b bs =>
      cases b
      · exact (ihl bs).trans (by simp [PT.get])
      · exact (ihr bs).trans (by simp [PT.get])
noncomputable def putK (v : Option α) (bs : List Bool) : PT α → PT α :=
  List.rec (motive := fun _ => PT α → PT α)
    (fun t => PT.rec (motive := fun _ => PT α) (.node .leaf v .leaf) (fun l _ r _ _ => .node l v r) t)
    (fun b _ ih t => PT.rec (motive := fun _ => PT α) (Bool.rec (motive := fun _ => PT α) (.node (ih .leaf) none .leaf) (.node .leaf none (ih .leaf)) b)
      (fun l x r _ _ => Bool.rec (motive := fun _ => PT α) (.node (ih l) x r) (.node l x (ih r)) b) t) bs
theorem putK_eq (v : Option α) : ∀ (bs : List Bool) (t : PT α), putK v bs t = PT.put v bs t := by
  intro bs
  induction bs with
  | nil => intro t; cases t <;> rfl
  | cons b bs ih =>
    intro t
    cases t with
    | leaf =>
      cases b
      · show PT.node (putK v bs .leaf) none .leaf = _
        rw [ih]; rfl
      · show PT.node .leaf none (putK v bs .leaf) = _
        rw [ih]; rfl
    | node l x r =>
      cases b
      · show PT.node (putK v bs l) x r = _
        rw [ih]; rfl
      · show PT.node l x (putK v bs r) = _
        rw [ih]; rfl

noncomputable def nthK (l : List α) : Nat → Option α :=
  List.rec (motive := fun _ => Nat → Option α) (fun _ => none) (fun x _ ih n => Nat.rec (motive := fun _ => Option α) (some x) (fun m _ => ih m) n) l
theorem nthK_eq : ∀ (l : List α) (n : Nat), nthK l n = l[n]?
  | [], n => by simp [nthK]
  | x :: l, 0 => rfl
  | x :: l, n + 1 => (nthK_eq l n).trans (by simp)
noncomputable def dropK (l : List α) : Nat → List α :=
  List.rec (motive := fun _ => Nat → List α) (fun _ => []) (fun x t ih n => Nat.rec (motive := fun _ => List α) (x :: t) (fun m _ => ih m) n) l
theorem dropK_eq : ∀ (l : List α) (n : Nat), dropK l n = l.drop n
  | [], n => by simp [dropK]
  | x :: l, 0 => rfl
  | x :: l, n + 1 => (dropK_eq l n).trans (by simp)
noncomputable def takeK (l : List α) : Nat → List α :=
  List.rec (motive := fun _ => Nat → List α) (fun _ => []) (fun x _ ih n => Nat.rec (motive := fun _ => List α) [] (fun m _ => x :: ih m) n) l
theorem takeK_eq : ∀ (l : List α) (n : Nat), takeK l n = l.take n
  | [], n => by simp [takeK]
  | x :: l, 0 => rfl
  | x :: l, n + 1 => congrArg (x :: ·) (takeK_eq l n)
noncomputable def leLen (l : List α) : Nat → Bool :=
  List.rec (motive := fun _ => Nat → Bool) (fun k => Nat.rec (motive := fun _ => Bool) true (fun _ _ => false) k) (fun _ _ ih k => Nat.rec (motive := fun _ => Bool) true (fun m _ => ih m) k) l
theorem leLen_eq : ∀ (l : List α) (k : Nat), leLen l k = decide (k ≤ l.length)
  | [], 0 => rfl
  | [], k + 1 => by
    show false = _
    simp
  | x :: l, 0 => by
    show true = _
    simp
  | x :: l, k + 1 => (leLen_eq l k).trans (by simp)
noncomputable def eqLen (l : List α) : Nat → Bool :=
  List.rec (motive := fun _ => Nat → Bool) (fun k => Nat.rec (motive := fun _ => Bool) true (fun _ _ => false) k) (fun _ _ ih k => Nat.rec (motive := fun _ => Bool) false (fun m _ => ih m) k) l
theorem eqLen_eq : ∀ (l : List α) (k : Nat), eqLen l k = decide (l.length = k)
  | [], 0 => rfl
  | [], k + 1 => by
    show false = _
    simp
  | x :: l, 0 => by
    show false = _
    simp
  | x :: l, k + 1 => (eqLen_eq l k).trans (by simp)
/-- The list with its front replaced. -/
noncomputable def ovl (l : List α) : List α → List α :=
  List.rec (motive := fun _ => List α → List α) (fun _ => []) (fun c t ih xs => List.rec (motive := fun _ => List α) (c :: t) (fun x xs' _ => x :: ih xs') xs) l
noncomputable def spliceK (l : List α) (xs : List α) : Nat → List α :=
  List.rec (motive := fun _ => Nat → List α) (fun _ => []) (fun c t ih o => Nat.rec (motive := fun _ => List α) (ovl (c :: t) xs) (fun m _ => c :: ih m) o) l
end
theorem ovl_set : ∀ (l : List AV) (x : AV) (xs : List AV), ovl l (x :: xs) = setAll (l.set 0 x) 1 xs → True := fun _ _ _ _ => trivial
theorem setAll_cons (c : AV) : ∀ (xs l : List AV) (o : Nat), setAll (c :: l) (o + 1) xs = c :: setAll l o xs
  | [], l, o => rfl
  | x :: xs, l, o => by simp only [setAll, List.set_cons_succ, setAll_cons c xs]
theorem setAll_nil : ∀ (xs : List AV) (o : Nat), setAll [] o xs = []
  | [], o => rfl
  | x :: xs, o => by simp only [setAll, List.set_nil, setAll_nil xs]
theorem ovl_eq : ∀ (l xs : List AV), ovl l xs = setAll l 0 xs
  | [], xs => by rw [setAll_nil]; rfl
  | c :: l, [] => rfl
  | c :: l, x :: xs => by
    show x :: ovl l xs = _
    rw [ovl_eq l xs]
    simp only [setAll, List.set_cons_zero]
    exact (setAll_cons x xs l 0).symm
theorem spliceK_eq : ∀ (l xs : List AV) (o : Nat), spliceK l xs o = setAll l o xs
  | [], xs, o => by rw [setAll_nil]; cases o <;> rfl
  | c :: l, xs, 0 => by
    show ovl (c :: l) xs = _
    exact ovl_eq _ _
  | c :: l, xs, o + 1 => by
    show c :: spliceK l xs o = _
    rw [spliceK_eq l xs o, setAll_cons]

noncomputable def interK {α β : Type} (t : PT α) : PT β → PT α :=
  PT.rec (motive := fun _ => PT β → PT α) (fun _ => .leaf) (fun _ v _ ihl ihr u => PT.rec (motive := fun _ => PT α) .leaf (fun l0 v0 r0 _ _ => .node (ihl l0) (Option.rec (motive := fun _ => Option α) none (fun _ => v) v0) (ihr r0)) u) t
theorem interK_eq {α β : Type} : ∀ (t : PT α) (u : PT β), interK t u = t.inter u := by
  intro t
  induction t with
  | leaf => intro u; cases u <;> rfl
  | node l v r ihl ihr =>
    intro u
    cases u with
    | leaf => rfl
    | node l0 v0 r0 =>
      show PT.node (interK l l0) (Option.rec (motive := fun _ => Option α) none (fun _ => v) v0) (interK r r0) = _
      rw [ihl, ihr]
      cases v0 <;> rfl

/-! ### environments, heaps -/
noncomputable def Env.getK (e : Env) (t : Nat) : Option AV := Go.Am.getK e (bits t)
theorem Env.getK_eq : Env.getK = Env.get := funext fun e => funext fun t => Go.Am.getK_eq e (bits t)
noncomputable def Env.putK (e : Env) (d : Option Nat) (v : AV) : Env :=
  Option.rec (motive := fun _ => Env) e (fun t => Go.Am.putK (some v) (bits t) e) d
theorem Env.putK_eq : Env.putK = Env.putO := by
  funext e d v
  cases d with
  | none => rfl
  | some t => exact Go.Am.putK_eq _ _ _
noncomputable def heapK : HeapI where
  T := PT Blk
  get t i := getK t (bits i)
  put t i v := putK v (bits i) t
  get_put t i v j := by
    rw [getK_eq, getK_eq, putK_eq, PT.get_put]
    by_cases h : j = i
    · subst h; simp
    · have : bits j ≠ bits i := fun e => h (bits_inj e)
      simp [h, this]
noncomputable def opdK (env : Env) (o : Operand) : Option AV :=
  Operand.rec (motive := fun _ => Option AV) (fun t => Go.Am.getK env (bits t)) (fun v => ofV v) (fun _ => none) (fun f => some (.func f [] [])) o
theorem opdK_eq : opdK = opd := by
  funext env o
  cases o with
  | tmp t => exact Go.Am.getK_eq _ _
  | const v => rfl
  | global g => rfl
  | func f => rfl

noncomputable def guardDst (ops : Array Oper) (j : Nat) : Option Nat :=
  match nthK ops.toList j with
    | some g => g.dst
    | none => none
def guardVal (want : Bool) (v : Option AV) : Option Bool :=
  match v with
        | some (.bool b) => some (b == want)
        | some (.tuple []) => some false
        | _ => none
noncomputable def wantedG (ops : Array Oper) (env : Env) (j : Nat) (want : Bool) : Option Bool :=
  match guardDst ops j with
      | some d => guardVal want (Env.getK env d)
      | none => none
noncomputable def wantedK (ops : Array Oper) (env : Env) (o : Oper) : Option Bool :=
  Option.rec (motive := fun _ => Option Bool) (some true) (fun g => Prod.rec (motive := fun _ => Option Bool) (fun j want => wantedG ops env j want) g) o.guard
theorem wantedK_eq : wantedK = wantedA := by
  funext ops env o
  unfold wantedK wantedA
  cases o.guard with
  | none => rfl
  | some g =>
    obtain ⟨j, want⟩ := g
    show wantedG ops env j want = _
    simp only [wantedG, guardDst, guardVal, Env.getK_eq, nthK_eq, Array.getElem?_toList]
    cases ops[j]? with
    | none => rfl
    | some g =>
      simp only
      cases g.dst <;> rfl
noncomputable def argsK (args : List AV) (i : Nat) (e : Env) : Env :=
  match args with
  | [] => e
  | x :: xs => argsK xs (i + 1) (Env.putK e (some i) x)
theorem argsK_eq : ∀ (args : List AV) (i : Nat) (e : Env), argsK args i e = PT.ofList args i e
  | [], _, _ => rfl
  | x :: xs, i, e => by
    simp only [argsK, PT.ofList, argsK_eq xs]
    congr 1
    exact Go.Am.putK_eq _ _ _

noncomputable def bindK {β : Type} (x : Option AV) (f : AV → Option β) : Option β := Option.rec (motive := fun _ => Option β) none f x
noncomputable def listK (ρ : Operand → Option AV) (l : List Operand) : Option (List AV) :=
  List.rec (motive := fun _ => Option (List AV)) (some []) (fun x _ ih => bindK (ρ x) fun v => Option.rec (motive := fun _ => Option (List AV)) none (fun vs => some (v :: vs)) ih) l
theorem listK_eq : listK = evList := by
  funext ρ l
  induction l with
  | nil => rfl
  | cons x l ih =>
    show bindK (ρ x) (fun v => Option.rec (motive := fun _ => Option (List AV)) none (fun vs => some (v :: vs)) (listK ρ l)) = _
    rw [ih]
    unfold bindK
    simp only [evList]
    cases ρ x with
    | none => rfl
    | some v => cases evList ρ l <;> rfl

/-! ### numbers -/
noncomputable def wrapK (k : IntKind) (n : Int) : Int :=
  Int.rec (motive := fun _ => Int) (fun m => Bool.rec (motive := fun _ => Int) (k.wrap (Int.ofNat m)) (Int.ofNat m) (Nat.ble (m + 1) (2 ^ (k.bits - 1)))) (fun m => k.wrap (Int.negSucc m)) n
theorem wrapK_small (k : IntKind) (m : Nat) (h : m < 2 ^ (k.bits - 1)) : k.wrap (Int.ofNat m) = Int.ofNat m := by
  unfold IntKind.wrap
  cases k <;> simp [IntKind.bits, IntKind.signed] at h ⊢ <;> omega
theorem wrapK_eq (k : IntKind) (n : Int) : wrapK k n = k.wrap n := by
  cases n with
  | negSucc m => rfl
  | ofNat m =>
    show Bool.rec (motive := fun _ => Int) (k.wrap (Int.ofNat m)) (Int.ofNat m) (Nat.ble (m + 1) (2 ^ (k.bits - 1))) = _
    cases h : Nat.ble (m + 1) (2 ^ (k.bits - 1)) with
    | false => rfl
    | true => exact (wrapK_small k m (by have := Nat.le_of_ble_eq_true h; omega)).symm
noncomputable def intOpK (op : BinOp) : IntKind → Int → Int → Option AV :=
  BinOp.rec (motive := fun _ => IntKind → Int → Int → Option AV) (fun k a b => some (.int k (wrapK k (a + b)))) (fun k a b => some (.int k (wrapK k (a - b)))) (fun k a b => some (.int k (wrapK k (a * b))))
    (fun k a b => intOp .quo k a b) (fun k a b => intOp .rem k a b) (fun k a b => intOp .and k a b) (fun k a b => intOp .or k a b) (fun k a b => intOp .xor k a b) (fun k a b => intOp .shl k a b) (fun k a b => intOp .shr k a b) (fun k a b => intOp .andNot k a b)
    (fun _ a b => some (.bool (eqI a b))) (fun _ a b => some (.bool (!eqI a b))) (fun _ a b => some (.bool (ltI a b))) (fun _ a b => some (.bool (!ltI b a))) (fun _ a b => some (.bool (ltI b a))) (fun _ a b => some (.bool (!ltI a b))) op
theorem intOpK_eq : intOpK = intOp := by
  funext op k a b
  cases op
  case add => show some (AV.int k (wrapK k (a + b))) = _; rw [wrapK_eq]; rfl
  case sub => show some (AV.int k (wrapK k (a - b))) = _; rw [wrapK_eq]; rfl
  case mul => show some (AV.int k (wrapK k (a * b))) = _; rw [wrapK_eq]; rfl
  all_goals rfl
noncomputable def inK (i : Int) (n : Nat) : Bool := Int.rec (motive := fun _ => Bool) (fun m => Nat.ble (m + 1) n) (fun _ => false) i
theorem inK_eq (i : Int) (n : Nat) : inK i n = decide (0 ≤ i ∧ i < n) := by
  cases i with
  | ofNat m =>
    show Nat.ble (m + 1) n = _
    rw [Bool.eq_iff_iff, Nat.ble_eq, decide_eq_true_eq]
    simp only [Int.ofNat_eq_natCast]
    omega
  | negSucc m =>
    show false = _
    symm
    rw [decide_eq_false_iff_not]
    omega
noncomputable def indexAddrVK (T : Tab) (t : Nat) (x : AV) (i : Int) : Option AV :=
  match T.und t with
  | some (.array n elem) => match T.size elem with
    | some es => match inK i n with
      | true => match x with
        | .hptr b o => some (.hptr b (o + i.toNat * es))
        | .fptr cs o => some (.fptr cs (o + i.toNat * es))
        | _ => none
      | false => none
    | none => none
  | some (.slice elem) => match T.size elem with
    | some es => match x with
      | .hsl b o es' len _ _ => match inK i len && Nat.beq es' es with
        | true => some (.hptr b (o + i.toNat * es))
        | false => none
      | .fsl cs o es' len _ _ => match inK i len && Nat.beq es' es with
        | true => some (.fptr cs (o + i.toNat * es))
        | false => none
      | _ => none
    | none => none
  | _ => none
theorem indexAddrVK_eq : indexAddrVK = indexAddrV := by
  funext T t x i
  unfold indexAddrVK indexAddrV
  cases T.und t with
  | none => rfl
  | some d =>
    cases d
    case array n elem =>
      simp only
      cases T.size elem with
      | none => rfl
      | some es =>
        simp only [inK_eq]
        by_cases h : 0 ≤ i ∧ i < (n : Int)
        · simp only [h, decide_true, if_true, and_self]
          cases x <;> rfl
        · simp only [decide_eq_false h]
          rw [if_neg h]
    case slice elem =>
      simp only
      cases T.size elem with
      | none => rfl
      | some es =>
        cases x
        case hsl b o es' len cap ex =>
          simp only [inK_eq]
          by_cases h : 0 ≤ i ∧ i < (len : Int)
          · by_cases h2 : es' = es
            · simp [h, h2, Nat.beq_refl]
            · have : Nat.beq es' es = false := by rw [Bool.eq_false_iff]; simp [h2]
              simp [this, h2]
          · simp only [decide_eq_false h, Bool.false_and]
            rw [if_neg (fun hc => h ⟨hc.1, hc.2.1⟩)]
        case fsl b o es' len cap ex =>
          simp only [inK_eq]
          by_cases h : 0 ≤ i ∧ i < (len : Int)
          · by_cases h2 : es' = es
            · simp [h, h2, Nat.beq_refl]
            · have : Nat.beq es' es = false := by rw [Bool.eq_false_iff]; simp [h2]
              simp [this, h2]
          · simp only [decide_eq_false h, Bool.false_and]
            rw [if_neg (fun hc => h ⟨hc.1, hc.2.1⟩)]
        all_goals rfl
    all_goals rfl

/-! ### cells -/
section
variable {HI : HeapI}
noncomputable def readVK (T : Tab) (t : Nat) (cs : List AV) (o : Nat) : Option AV :=
  match T.isAgg t with
  | some true => match T.size t with
    | some n => match leLen cs (o + n) with
      | true => some (.agg (takeK (dropK cs o) n))
      | false => none
    | none => none
  | some false => nthK cs o
  | none => none
theorem readVK_eq : readVK = readV := by
  funext T t cs o
  simp only [readVK, readV, nthK_eq, takeK_eq, dropK_eq, leLen_eq]
  cases T.isAgg t with
  | none => rfl
  | some b =>
    cases b
    · rfl
    · simp only
      cases T.size t with
      | none => rfl
      | some n =>
        by_cases h : o + n ≤ cs.length <;> simp [h]
noncomputable def loadVK (T : Tab) (s : St HI) (t : Nat) : AV → Option AV
  | .hptr b o => match s.cells b with
    | some cs => readVK T t cs o
    | none => none
  | .fptr cs o => readVK T t cs o
  | _ => none
theorem loadVK_eq : loadVK (HI := HI) = loadV := by
  funext T s t v
  cases v <;> simp only [loadVK, loadV, readVK_eq]
  rfl
noncomputable def storeVK (T : Tab) (s : St HI) (t : Nat) (p v : AV) : Option (St HI) :=
  match p with
  | .hptr b o => match s.cells b, T.size t with
    | some cs, some n => match eqLen v.cells n && leLen cs (o + n) && v.cells.all AV.single with
      | true => some (s.put b (some (.cells (spliceK cs v.cells o))))
      | false => none
    | _, _ => none
  | _ => none
theorem storeVK_eq : storeVK (HI := HI) = storeV := by
  funext T s t p v
  cases p <;> simp only [storeVK, storeV]
  rename_i b o
  cases s.cells b with
  | none => rfl
  | some cs =>
    cases T.size t with
    | none => rfl
    | some n =>
      simp only [eqLen_eq, leLen_eq, spliceK_eq]
      by_cases h1 : v.cells.length = n <;> by_cases h2 : o + n ≤ cs.length <;> cases h3 : v.cells.all AV.single <;> simp [h1, h2, h3]
noncomputable def sliceCellsK (s : St HI) (es n : Nat) : AV → Option (List AV)
  | .nsl => if n = 0 then some [] else none
  | .hsl b o es' len _ _ => if n = 0 then some [] else match s.cells b with
    | some cs => match Nat.beq es' es && Nat.ble n len && leLen cs (o + n * es) with
      | true => some (takeK (dropK cs o) (n * es))
      | false => none
    | none => none
  | .fsl cs o es' len _ _ => if n = 0 then some [] else match Nat.beq es' es && Nat.ble n len && leLen cs (o + n * es) with
      | true => some (takeK (dropK cs o) (n * es))
      | false => none
  | _ => none
theorem sliceCellsK_eq : sliceCellsK (HI := HI) = sliceCells := by
  funext s es n v
  have key : ∀ (cs : List AV) (o es' len : Nat), (match Nat.beq es' es && Nat.ble n len && leLen cs (o + n * es) with
      | true => some (takeK (dropK cs o) (n * es))
      | false => none) = if es' = es ∧ n ≤ len ∧ o + n * es ≤ cs.length then some ((cs.drop o).take (n * es)) else none := by
    intro cs o es' len
    simp only [leLen_eq, takeK_eq, dropK_eq]
    by_cases h1 : es' = es
    · by_cases h2 : n ≤ len
      · have hb : Nat.ble n len = true := by rw [Nat.ble_eq]; exact h2
        by_cases h3 : o + n * es ≤ cs.length <;> simp [h1, h2, h3, hb, Nat.beq_eq]
      · have : Nat.ble n len = false := by rw [Bool.eq_false_iff]; simp [h2]
        simp [h2, this]
    · have : Nat.beq es' es = false := by rw [Bool.eq_false_iff]; simp [h1]
      simp [h1, this]
  cases v <;> simp only [sliceCellsK, sliceCells, key]
  rfl
end
end Go.Am
