/- The abstract machine's values, heaps, environments; how they stand for the model's. -/
import Derived.Orders
import Derived.KernelRfl
set_option linter.unusedSimpArgs false
set_option linter.unusedVariables false
namespace Go.Am

/-- A value of the abstract machine: addresses are abstract (hptr, hsl) or carry what they lead to (fptr, fsl: frozen cells). -/
inductive AV where
  | bool (b : Bool)
  | int (k : IntKind) (n : Int)
  | string (s : ByteArray)
  | nptr
  | hptr (b o : Nat)
  | fptr (cs : List AV) (o : Nat)
  | nsl
  | hsl (b o es len cap : Nat) (ex : Bool)
  | fsl (cs : List AV) (o es len cap : Nat) (ex : Bool)
  | nmap
  | map (b : Nat)
  | func (f : FuncId) (first cap : List AV)
  | nfunc
  | iface (t : TypeId) (v : AV)
  | niface
  | agg (cs : List AV)
  | tuple (vs : List AV)
  deriving Inhabited

def AV.cells : AV → List AV
  | .agg cs => cs
  | v => [v]

/-- Whether a value fills one cell. -/
def AV.single : AV → Bool
  | .agg _ | .tuple _ => false
  | _ => true

/-! ### tries -/
inductive PT (α : Type) where
  | leaf
  | node (l : PT α) (v : Option α) (r : PT α)

def PT.get {α : Type} : PT α → List Bool → Option α
  | .leaf, _ => none
  | .node _ v _, [] => v
  | .node l _ r, b :: bs => if b then r.get bs else l.get bs

def PT.put {α : Type} (v : Option α) : List Bool → PT α → PT α
  | [], .leaf => .node .leaf v .leaf
  | [], .node l _ r => .node l v r
  | b :: bs, .leaf => if b then .node .leaf none (PT.put v bs .leaf) else .node (PT.put v bs .leaf) none .leaf
  | b :: bs, .node l x r => if b then .node l x (PT.put v bs r) else .node (PT.put v bs l) x r

def PT.inter {α β : Type} : PT α → PT β → PT α
  | .node l v r, .node l0 v0 r0 => .node (l.inter l0) (if v0.isSome then v else none) (r.inter r0)
  | _, _ => .leaf

theorem PT.get_leaf {α : Type} (bs : List Bool) : (PT.leaf : PT α).get bs = none := by cases bs <;> rfl

theorem PT.get_put {α : Type} (v : Option α) : ∀ (bs cs : List Bool) (t : PT α), (PT.put v bs t).get cs = if cs = bs then v else t.get cs := by
  intro bs
  induction bs with
  | nil =>
    intro cs t
    cases t <;> cases cs <;> simp [PT.put, PT.get]
  | cons b bs ih =>
    intro cs t
    cases t <;> cases b <;> cases cs <;> simp [PT.put, PT.get]
    all_goals (rename_i c cs; cases c <;> simp [ih, PT.get_leaf])

theorem PT.get_inter {α β : Type} : ∀ (t : PT α) (u : PT β) (bs : List Bool), (t.inter u).get bs = if (u.get bs).isSome then t.get bs else none := by
  intro t
  induction t with
  | leaf => intro u bs; simp [PT.inter, PT.get_leaf]
  | node l v r ihl ihr =>
    intro u bs
    cases u with
    | leaf => simp [PT.inter, PT.get_leaf]
    | node l0 v0 r0 =>
      cases bs with
      | nil => simp only [PT.inter, PT.get]; cases v0 <;> rfl
      | cons b bs => cases b <;> simp [PT.inter, PT.get, ihl, ihr]

def bitsAux : Nat → Nat → List Bool
  | 0, _ => []
  | f + 1, n => if n = 0 then [] else (n % 2 == 1) :: bitsAux f (n / 2)
def bits (n : Nat) : List Bool := bitsAux n n

theorem bitsAux_inj : ∀ (f g n m : Nat), n ≤ f → m ≤ g → bitsAux f n = bitsAux g m → n = m := by
  intro f
  induction f with
  | zero =>
    intro g n m hn hm h
    have : n = 0 := by omega
    subst this
    cases g with
    | zero => omega
    | succ g =>
      simp only [bitsAux] at h
      split at h
      · omega
      · simp at h
  | succ f ih =>
    intro g n m hn hm h
    cases g with
    | zero =>
      have : m = 0 := by omega
      subst this
      simp only [bitsAux] at h
      split at h
      · assumption
      · simp at h
    | succ g =>
      simp only [bitsAux] at h
      split at h
      · split at h
        · omega
        · simp at h
      · split at h
        · simp at h
        · simp only [List.cons.injEq] at h
          have := ih g (n / 2) (m / 2) (by omega) (by omega) h.2
          have h1 := h.1
          have e1 : n % 2 = m % 2 := by
            rcases Nat.mod_two_eq_zero_or_one n with a | a <;> rcases Nat.mod_two_eq_zero_or_one m with b | b <;> simp [a, b] at h1 ⊢
          omega

theorem bits_inj {n m : Nat} (h : bits n = bits m) : n = m := bitsAux_inj n m n m (Nat.le_refl _) (Nat.le_refl _) h

/-- The map of a list by its indices. -/
def PT.ofList {α : Type} : List α → Nat → PT α → PT α
  | [], _, t => t
  | x :: xs, i, t => PT.ofList xs (i + 1) (PT.put (some x) (bits i) t)

theorem PT.get_ofList {α : Type} : ∀ (l : List α) (i : Nat) (t : PT α) (j : Nat), (PT.ofList l i t).get (bits j) = if i ≤ j ∧ j < i + l.length then l[j - i]? else t.get (bits j) := by
  intro l
  induction l with
  | nil => intro i t j; simp [PT.ofList]; intro h1 h2; omega
  | cons x xs ih =>
    intro i t j
    simp only [PT.ofList, ih, PT.get_put]
    by_cases h : i = j
    · subst h
      rw [if_neg (by omega), if_pos (by simp)]
      simp
    · have hne : bits j ≠ bits i := fun e => h (bits_inj e).symm
      simp only [hne, if_false, List.length_cons]
      by_cases h1 : i + 1 ≤ j ∧ j < i + 1 + xs.length
      · rw [if_pos h1, if_pos (by omega)]
        obtain ⟨k, hk⟩ : ∃ k, j - i = k + 1 := ⟨j - i - 1, by omega⟩
        rw [hk, List.getElem?_cons_succ]
        congr 1; omega
      · rw [if_neg h1, if_neg (by omega)]

/-! ### environments -/
abbrev Env := PT AV
def Env.get (e : Env) (t : Nat) : Option AV := PT.get e (bits t)
def Env.put (e : Env) (t : Nat) (v : AV) : Env := PT.put (some v) (bits t) e
theorem Env.get_put (e : Env) (t : Nat) (v : AV) (u : Nat) : (e.put t v).get u = if u = t then some v else e.get u := by
  simp only [Env.get, Env.put, PT.get_put]
  by_cases h : u = t
  · subst h; simp
  · have : bits u ≠ bits t := fun e => h (bits_inj e)
    simp [h, this]
def Env.putO (e : Env) (d : Option Nat) (v : AV) : Env :=
  match d with
  | some t => e.put t v
  | none => e

/-! ### heaps -/
inductive Blk where
  | cells (cs : List AV)
  | map (es : List (AV × AV))
  | iter (s : ByteArray) (pos : Nat)

/-- What heaps are made of: tries where the kernel reckons, functions where we reason. -/
structure HeapI where
  T : Type
  get : T → Nat → Option Blk
  put : T → Nat → Option Blk → T
  get_put : ∀ t i v j, get (put t i v) j = if j = i then v else get t j

structure St (HI : HeapI) where
  h : HI.T
  next : Nat

def heapPT : HeapI where
  T := PT Blk
  get t i := PT.get t (bits i)
  put t i v := PT.put v (bits i) t
  get_put t i v j := by
    rw [PT.get_put]
    by_cases h : j = i
    · subst h; simp
    · have : bits j ≠ bits i := fun e => h (bits_inj e)
      simp [h, this]

def heapFn : HeapI where
  T := Nat → Option Blk
  get t i := t i
  put t i v := fun j => if j = i then v else t j
  get_put _ _ _ _ := rfl

section
variable {HI : HeapI}
def St.get (s : St HI) (b : Nat) : Option Blk := HI.get s.h b
def St.put (s : St HI) (b : Nat) (x : Option Blk) : St HI := { s with h := HI.put s.h b x }
theorem St.get_put (s : St HI) (b : Nat) (x : Option Blk) (c : Nat) : (s.put b x).get c = if c = b then x else s.get c := HI.get_put _ _ _ _
def St.cells (s : St HI) (b : Nat) : Option (List AV) :=
  match s.get b with
  | some (.cells cs) => some cs
  | _ => none
def St.new (s : St HI) (x : Blk) : St HI := { h := HI.put s.h s.next (some x), next := s.next + 1 }
theorem St.get_new (s : St HI) (x : Blk) (c : Nat) : (s.new x).get c = if c = s.next then some x else s.get c := HI.get_put _ _ _ _
@[simp] theorem St.next_new (s : St HI) (x : Blk) : (s.new x).next = s.next + 1 := rfl
@[simp] theorem St.next_put (s : St HI) (b : Nat) (x : Option Blk) : (s.put b x).next = s.next := rfl
end

/-! ### constants -/
mutual
def ofV : Value → Option AV
  | .bool b => some (.bool b)
  | .int k n => some (.int k n)
  | .string s => some (.string s)
  | .pointer none => some .nptr
  | .slice none 0 0 => some .nsl
  | .map none => some .nmap
  | .nilFunc => some .nfunc
  | .nilIface => some .niface
  | .func (.func f) first cap =>
    match ofVa first, ofVa cap with
    | some xs, some ys => some (.func f xs ys)
    | _, _ => none
  | .iface t v => match ofV v with
    | some x => some (.iface t x)
    | none => none
  | .agg cs => match ofVa cs with
    | some xs => some (.agg xs)
    | none => none
  | .tuple cs => match ofVa cs with
    | some xs => some (.tuple xs)
    | none => none
  | _ => none
def ofVa : Array Value → Option (List AV)
  | ⟨l⟩ => ofVs l
def ofVs : List Value → Option (List AV)
  | [] => some []
  | v :: vs => match ofV v, ofVs vs with
    | some x, some xs => some (x :: xs)
    | _, _ => none
end

mutual
/-- The model's value of an abstract one that bears no address. -/
def AV.toV : AV → Option Value
  | .bool b => some (.bool b)
  | .int k n => some (.int k n)
  | .string s => some (.string s)
  | .nptr => some (.pointer none)
  | .nsl => some (.slice none 0 0)
  | .nmap => some (.map none)
  | .nfunc => some .nilFunc
  | .niface => some .nilIface
  | .func f first cap => match toVs first, toVs cap with
    | some xs, some ys => some (.func (.func f) ⟨xs⟩ ⟨ys⟩)
    | _, _ => none
  | .iface t v => match v.toV with
    | some x => some (.iface t x)
    | none => none
  | .agg cs => match toVs cs with
    | some xs => some (.agg ⟨xs⟩)
    | none => none
  | .tuple cs => match toVs cs with
    | some xs => some (.tuple ⟨xs⟩)
    | none => none
  | _ => none
def toVs : List AV → Option (List Value)
  | [] => some []
  | v :: vs => match v.toV, toVs vs with
    | some x, some xs => some (x :: xs)
    | _, _ => none
end

/-! ### how abstract values stand for the model's -/
structure Emb where
  map : Nat → Option (Nat × Nat)
  frz : Nat → Nat → Option Value
  size : Nat → Option Nat

def CapOk (cap : Nat) (ex : Bool) (cap' : Nat) : Prop := cap ≤ cap' ∧ (ex = true → cap' = cap)
def Frz (ι : Emb) (cb base : Nat) (vs : List Value) : Prop := ∀ (i : Nat) (v : Value), vs[i]? = some v → ι.frz cb (base + i) = some v

mutual
def R (ι : Emb) : AV → Value → Prop
  | .bool b, v => v = .bool b
  | .int k n, v => v = .int k n
  | .string s, v => v = .string s
  | .nptr, v => v = .pointer none
  | .hptr b o, v => ∃ cb base, ι.map b = some (cb, base) ∧ v = .pointer (some ⟨cb, base + o, none⟩)
  | .fptr cs o, v => ∃ cb base vs, v = .pointer (some ⟨cb, base + o, none⟩) ∧ Frz ι cb base vs ∧ Rs ι cs vs
  | .nsl, v => v = .slice none 0 0
  | .hsl b o es len cap ex, v => ∃ cb base a cap' sz, ι.map b = some (cb, base) ∧ v = .slice (some ⟨cb, a, none⟩) len cap' ∧ CapOk cap ex cap' ∧
      (cap' = 0 ∨ a = base + o) ∧ len ≤ cap ∧ ι.size cb = some sz ∧ (cap' = 0 ∨ base + o + cap' * es ≤ sz)
  | .fsl cs o _ len cap ex, v => ∃ cb base a cap' vs sp, v = .slice (some ⟨cb, a, sp⟩) len cap' ∧ (sp = none ∨ cap' = 0) ∧ CapOk cap ex cap' ∧ (cap' = 0 ∨ a = base + o) ∧ len ≤ cap ∧
      Frz ι cb base vs ∧ Rs ι cs vs
  | .nmap, v => v = .map none
  | .map b, v => ∃ cb, ι.map b = some (cb, 0) ∧ v = .map (some cb)
  | .func f first cap, v => ∃ xs ys, v = .func (.func f) ⟨xs⟩ ⟨ys⟩ ∧ Rs ι first xs ∧ Rs ι cap ys
  | .nfunc, v => v = .nilFunc
  | .iface t x, v => ∃ y, v = .iface t y ∧ R ι x y
  | .niface, v => v = .nilIface
  | .agg cs, v => ∃ vs, v = .agg ⟨vs⟩ ∧ Rs ι cs vs
  | .tuple cs, v => ∃ vs, v = .tuple ⟨vs⟩ ∧ Rs ι cs vs
def Rs (ι : Emb) : List AV → List Value → Prop
  | [], vs => vs = []
  | c :: cs, vs => ∃ x xs, vs = x :: xs ∧ R ι c x ∧ Rs ι cs xs
end

structure Emb.le (ι κ : Emb) : Prop where
  map : ∀ b x, ι.map b = some x → κ.map b = some x
  frz : ∀ b o v, ι.frz b o = some v → κ.frz b o = some v
  size : ∀ b n, ι.size b = some n → κ.size b = some n

theorem Emb.le.refl (ι : Emb) : ι.le ι := ⟨fun _ _ h => h, fun _ _ _ h => h, fun _ _ h => h⟩
theorem Emb.le.trans {ι κ μ : Emb} (h : ι.le κ) (h' : κ.le μ) : ι.le μ :=
  ⟨fun b x e => h'.map b x (h.map b x e), fun b o v e => h'.frz b o v (h.frz b o v e), fun b n e => h'.size b n (h.size b n e)⟩

theorem Frz.mono {ι κ : Emb} (h : ι.le κ) {cb base : Nat} {vs : List Value} (hf : Frz ι cb base vs) : Frz κ cb base vs := fun i v e => h.frz _ _ _ (hf i v e)

mutual
theorem R.mono {ι κ : Emb} (h : ι.le κ) : ∀ (x : AV) (v : Value), R ι x v → R κ x v
  | .bool _, _ => by simp [R]
  | .int _ _, _ => by simp [R]
  | .string _, _ => by simp [R]
  | .nptr, _ => by simp [R]
  | .hptr b o, v => by
    simp only [R]
    rintro ⟨cb, base, e, rfl⟩
    exact ⟨cb, base, h.map _ _ e, rfl⟩
  | .fptr cs o, v => by
    simp only [R]
    rintro ⟨cb, base, vs, rfl, hf, hr⟩
    exact ⟨cb, base, vs, rfl, hf.mono h, Rs.mono h cs vs hr⟩
  | .nsl, _ => by simp [R]
  | .hsl b o es len cap ex, v => by
    simp only [R]
    rintro ⟨cb, base, a, cap', sz, e, rfl, hc, ha, hl, hz, hsz⟩
    exact ⟨cb, base, a, cap', sz, h.map _ _ e, rfl, hc, ha, hl, h.size _ _ hz, hsz⟩
  | .fsl cs o es len cap ex, v => by
    simp only [R]
    rintro ⟨cb, base, a, cap', vs, sp, rfl, hp, hc, ha, hl, hf, hr⟩
    exact ⟨cb, base, a, cap', vs, sp, rfl, hp, hc, ha, hl, hf.mono h, Rs.mono h cs vs hr⟩
  | .nmap, _ => by simp [R]
  | .map b, v => by
    simp only [R]
    rintro ⟨cb, e, rfl⟩
    exact ⟨cb, h.map _ _ e, rfl⟩
  | .func f first cap, v => by
    simp only [R]
    rintro ⟨xs, ys, rfl, h1, h2⟩
    exact ⟨xs, ys, rfl, Rs.mono h first xs h1, Rs.mono h cap ys h2⟩
  | .nfunc, _ => by simp [R]
  | .iface t x, v => by
    simp only [R]
    rintro ⟨y, rfl, h1⟩
    exact ⟨y, rfl, R.mono h x y h1⟩
  | .niface, _ => by simp [R]
  | .agg cs, v => by
    simp only [R]
    rintro ⟨vs, rfl, h1⟩
    exact ⟨vs, rfl, Rs.mono h cs vs h1⟩
  | .tuple cs, v => by
    simp only [R]
    rintro ⟨vs, rfl, h1⟩
    exact ⟨vs, rfl, Rs.mono h cs vs h1⟩
theorem Rs.mono {ι κ : Emb} (h : ι.le κ) : ∀ (xs : List AV) (vs : List Value), Rs ι xs vs → Rs κ xs vs
  | [], _ => by simp [Rs]
  | c :: cs, vs => by
    simp only [Rs]
    rintro ⟨x, xs, rfl, h1, h2⟩
    exact ⟨x, xs, rfl, R.mono h c x h1, Rs.mono h cs xs h2⟩
end

theorem Rs.iff {ι : Emb} : ∀ {xs : List AV} {vs : List Value}, Rs ι xs vs ↔ xs.length = vs.length ∧ ∀ (i : Nat) (x : AV), xs[i]? = some x → ∃ v, vs[i]? = some v ∧ R ι x v
  | [], vs => by
    simp only [Rs]
    constructor
    · rintro rfl; simp
    · rintro ⟨h, _⟩; exact List.eq_nil_of_length_eq_zero h.symm
  | c :: cs, vs => by
    simp only [Rs]
    constructor
    · rintro ⟨x, xs, rfl, h1, h2⟩
      obtain ⟨hl, hi⟩ := Rs.iff.1 h2
      refine ⟨by simp [hl], fun i y hy => ?_⟩
      cases i with
      | zero => simp at hy; subst hy; exact ⟨x, rfl, h1⟩
      | succ i => simp at hy; simpa using hi i y hy
    · rintro ⟨hl, hi⟩
      cases vs with
      | nil => simp at hl
      | cons x xs =>
        obtain ⟨v, hv, hr⟩ := hi 0 c rfl
        simp at hv; subst hv
        exact ⟨x, xs, rfl, hr, Rs.iff.2 ⟨by simpa using hl, fun i y hy => by have := hi (i + 1) y (by simpa using hy); simpa using this⟩⟩

theorem Rs.length {ι : Emb} {xs : List AV} {vs : List Value} (h : Rs ι xs vs) : xs.length = vs.length := (Rs.iff.1 h).1
theorem Rs.get {ι : Emb} {xs : List AV} {vs : List Value} (h : Rs ι xs vs) {i : Nat} {x : AV} (hx : xs[i]? = some x) : ∃ v, vs[i]? = some v ∧ R ι x v := (Rs.iff.1 h).2 i x hx

theorem Rs.append {ι : Emb} : ∀ {xs ys : List AV} {us vs : List Value}, Rs ι xs us → Rs ι ys vs → Rs ι (xs ++ ys) (us ++ vs)
  | [], ys, us, vs, h, h' => by simp only [Rs] at h; subst h; simpa using h'
  | x :: xs, ys, us, vs, h, h' => by
    simp only [Rs] at h
    obtain ⟨u, us, rfl, h1, h2⟩ := h
    simp only [List.cons_append, Rs]
    exact ⟨u, us ++ vs, rfl, h1, Rs.append h2 h'⟩

theorem Rs.drop {ι : Emb} : ∀ (n : Nat) {xs : List AV} {us : List Value}, Rs ι xs us → Rs ι (xs.drop n) (us.drop n)
  | 0, _, _, h => by simpa using h
  | n + 1, [], us, h => by simp only [Rs] at h; subst h; simp [Rs]
  | n + 1, x :: xs, us, h => by
    simp only [Rs] at h
    obtain ⟨u, us, rfl, _, h2⟩ := h
    simpa using Rs.drop n h2

theorem Rs.take {ι : Emb} : ∀ (n : Nat) {xs : List AV} {us : List Value}, Rs ι xs us → Rs ι (xs.take n) (us.take n)
  | 0, _, _, h => by simp [Rs]
  | n + 1, [], us, h => by simp only [Rs] at h; subst h; simp [Rs]
  | n + 1, x :: xs, us, h => by
    simp only [Rs] at h
    obtain ⟨u, us, rfl, h1, h2⟩ := h
    simp only [List.take_succ_cons, Rs]
    exact ⟨u, us.take n, rfl, h1, Rs.take n h2⟩

mutual
theorem R_ofV (ι : Emb) : ∀ (v : Value) (x : AV), ofV v = some x → R ι x v
  | .bool _, x => by simp only [ofV]; rintro ⟨⟩; simp [R]
  | .int _ _, x => by simp only [ofV]; rintro ⟨⟩; simp [R]
  | .string _, x => by simp only [ofV]; rintro ⟨⟩; simp [R]
  | .pointer none, x => by simp only [ofV]; rintro ⟨⟩; simp [R]
  | .pointer (some _), x => by simp [ofV]
  | .slice none 0 0, x => by simp only [ofV]; rintro ⟨⟩; simp [R]
  | .slice none 0 (n + 1), x => by simp [ofV]
  | .slice none (n + 1) m, x => by simp [ofV]
  | .slice (some _) _ _, x => by simp [ofV]
  | .map none, x => by simp only [ofV]; rintro ⟨⟩; simp [R]
  | .map (some _), x => by simp [ofV]
  | .chan _, x => by simp [ofV]
  | .float _ _, x => by simp [ofV]
  | .complex _ _ _, x => by simp [ofV]
  | .nilFunc, x => by simp only [ofV]; rintro ⟨⟩; simp [R]
  | .nilIface, x => by simp only [ofV]; rintro ⟨⟩; simp [R]
  | .func (.func f) ⟨first⟩ ⟨cap⟩, x => by
    simp only [ofV, ofVa]
    split
    · rename_i xs ys h1 h2; rintro ⟨⟩; exact ⟨first, cap, rfl, Rs_ofVs ι first xs h1, Rs_ofVs ι cap ys h2⟩
    · intro h; cases h
  | .func (.method _) _ _, x => by simp [ofV]
  | .func (.methodOf _ _) _ _, x => by simp [ofV]
  | .func (.via _ _ _ _) _ _, x => by simp [ofV]
  | .func (.yield _) _ _, x => by simp [ofV]
  | .iface t v, x => by
    simp only [ofV]
    split
    · rename_i y h1; rintro ⟨⟩; exact ⟨v, rfl, R_ofV ι v y h1⟩
    · intro h; cases h
  | .agg ⟨cs⟩, x => by
    simp only [ofV, ofVa]
    split
    · rename_i xs h1; rintro ⟨⟩; exact ⟨cs, rfl, Rs_ofVs ι cs xs h1⟩
    · intro h; cases h
  | .tuple ⟨cs⟩, x => by
    simp only [ofV, ofVa]
    split
    · rename_i xs h1; rintro ⟨⟩; exact ⟨cs, rfl, Rs_ofVs ι cs xs h1⟩
    · intro h; cases h
theorem Rs_ofVs (ι : Emb) : ∀ (vs : List Value) (xs : List AV), ofVs vs = some xs → Rs ι xs vs
  | [], xs => by simp only [ofVs]; rintro ⟨⟩; simp [Rs]
  | v :: vs, xs => by
    simp only [ofVs]
    split
    · rename_i y ys h1 h2; rintro ⟨⟩; exact ⟨v, vs, rfl, R_ofV ι v y h1, Rs_ofVs ι vs ys h2⟩
    · intro h; cases h
end

mutual
theorem R_toV (ι : Emb) : ∀ (x : AV) (v w : Value), x.toV = some v → R ι x w → w = v
  | .bool _, v, w => by simp only [AV.toV, R]; rintro ⟨⟩ rfl; rfl
  | .int _ _, v, w => by simp only [AV.toV, R]; rintro ⟨⟩ rfl; rfl
  | .string _, v, w => by simp only [AV.toV, R]; rintro ⟨⟩ rfl; rfl
  | .nptr, v, w => by simp only [AV.toV, R]; rintro ⟨⟩ rfl; rfl
  | .hptr _ _, v, w => by simp [AV.toV]
  | .fptr _ _, v, w => by simp [AV.toV]
  | .nsl, v, w => by simp only [AV.toV, R]; rintro ⟨⟩ rfl; rfl
  | .hsl _ _ _ _ _ _, v, w => by simp [AV.toV]
  | .fsl _ _ _ _ _ _, v, w => by simp [AV.toV]
  | .nmap, v, w => by simp only [AV.toV, R]; rintro ⟨⟩ rfl; rfl
  | .map _, v, w => by simp [AV.toV]
  | .func f first cap, v, w => by
    simp only [AV.toV]
    split
    · rename_i xs ys h1 h2
      rintro ⟨⟩
      simp only [R]
      rintro ⟨us, vs, rfl, h3, h4⟩
      rw [Rs_toVs ι first xs us h1 h3, Rs_toVs ι cap ys vs h2 h4]
    · intro h; cases h
  | .nfunc, v, w => by simp only [AV.toV, R]; rintro ⟨⟩ rfl; rfl
  | .iface t x, v, w => by
    simp only [AV.toV]
    split
    · rename_i y h1
      rintro ⟨⟩
      simp only [R]
      rintro ⟨z, rfl, h2⟩
      rw [R_toV ι x y z h1 h2]
    · intro h; cases h
  | .niface, v, w => by simp only [AV.toV, R]; rintro ⟨⟩ rfl; rfl
  | .agg cs, v, w => by
    simp only [AV.toV]
    split
    · rename_i xs h1
      rintro ⟨⟩
      simp only [R]
      rintro ⟨us, rfl, h2⟩
      rw [Rs_toVs ι cs xs us h1 h2]
    · intro h; cases h
  | .tuple cs, v, w => by
    simp only [AV.toV]
    split
    · rename_i xs h1
      rintro ⟨⟩
      simp only [R]
      rintro ⟨us, rfl, h2⟩
      rw [Rs_toVs ι cs xs us h1 h2]
    · intro h; cases h
theorem Rs_toVs (ι : Emb) : ∀ (xs : List AV) (vs ws : List Value), toVs xs = some vs → Rs ι xs ws → ws = vs
  | [], vs, ws => by simp only [toVs, Rs]; rintro ⟨⟩ rfl; rfl
  | x :: xs, vs, ws => by
    simp only [toVs]
    split
    · rename_i y ys h1 h2
      rintro ⟨⟩
      simp only [Rs]
      rintro ⟨u, us, rfl, h3, h4⟩
      rw [R_toV ι x y u h1 h3, Rs_toVs ι xs ys us h2 h4]
    · intro h; cases h
end
end Go.Am
