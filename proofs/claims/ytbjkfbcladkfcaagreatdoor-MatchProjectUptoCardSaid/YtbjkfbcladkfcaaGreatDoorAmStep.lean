/- Runs by steps: environments as lists, states up to the next number, callees by what is known of them. -/
import Derived.Test.YtbjkfbcladkfcaaGreatDoorAmFreeze
set_option linter.unusedSimpArgs false
set_option linter.unusedVariables false
namespace Go.Am

/-! ### environments as lists -/
def mk : List (Nat × AV) → Env
  | [] => .leaf
  | (t, v) :: l => (mk l).put t v
theorem mk_nil (t : Nat) : (mk []).get t = none := PT.get_leaf _
theorem mk_cons (t : Nat) (v : AV) (l : List (Nat × AV)) (u : Nat) : (mk ((t, v) :: l)).get u = if u = t then some v else (mk l).get u := Env.get_put _ _ _ _

def Has (e : Env) : List (Nat × AV) → Prop
  | [] => True
  | (t, v) :: l => e.get t = some v ∧ Has e l

theorem Has.le {e : Env} : ∀ {L : List (Nat × AV)}, Has e L → (mk L).le e
  | [], _ => fun t v h => by rw [mk_nil] at h; cases h
  | (t, v) :: l, ⟨h1, h2⟩ => fun u x h => by
    rw [mk_cons] at h
    split at h
    · rename_i e
      cases h
      rw [e]
      exact h1
    · exact Has.le h2 u x h

def numbered : List AV → Nat → List (Nat × AV)
  | [], _ => []
  | x :: xs, i => (i, x) :: numbered xs (i + 1)

theorem numbered_has {e : Env} : ∀ (args : List AV) (i : Nat), (∀ j x, args[j]? = some x → e.get (i + j) = some x) → Has e (numbered args i)
  | [], _, _ => trivial
  | x :: xs, i, h => ⟨by simpa using h 0 x rfl, numbered_has xs (i + 1) (fun j y hy => by
      have := h (j + 1) y (by simpa using hy)
      rwa [show i + 1 + j = i + (j + 1) by omega])⟩

theorem args_le (args : List AV) : (mk (numbered args 0)).le (argsEnv args) := by
  refine (numbered_has args 0 (fun j x hj => ?_)).le
  unfold argsEnv Env.get
  rw [PT.get_ofList, if_pos]
  · simpa using hj
  · have := (List.getElem?_eq_some_iff.1 hj).1
    omega

/-- A part of some code: 0 the first, 1 the second; of a block or a loop its body. -/
def sub : List Nat → Code → Code
  | [], c => c
  | i :: p, .seq a b => sub p (if i = 0 then a else b)
  | i :: p, .cond _ a b => sub p (if i = 0 then a else b)
  | _ :: p, .block _ b => sub p b
  | _ :: p, .loop b => sub p b
  | _ :: _, c => c

section
variable {HI : HeapI}

/-! ### states up to the next number -/
def upN (s : St HI) (k : Nat) : St HI := { h := s.h, next := s.next + k }
@[simp] theorem upN_get (s : St HI) (k b : Nat) : (upN s k).get b = s.get b := rfl
@[simp] theorem upN_next (s : St HI) (k : Nat) : (upN s k).next = s.next + k := rfl
theorem upN_up (s : St HI) (k l : Nat) : upN (upN s k) l = upN s (k + l) := by simp [upN, Nat.add_assoc]
theorem upN_zero (s : St HI) : upN s 0 = s := rfl
@[simp] theorem upN_cells (s : St HI) (k b : Nat) : (upN s k).cells b = s.cells b := rfl
theorem mk_get (s : St HI) (n b : Nat) : St.get { h := s.h, next := n } b = s.get b := rfl

/-- What lies in the one lies in the other. -/
def Sub (s s' : St HI) : Prop := ∀ b x, s.get b = some x → s'.get b = some x
def WF (s : St HI) : Prop := ∀ b, s.next ≤ b → s.get b = none
theorem WF.lt {s : St HI} (h : WF s) {b : Nat} {x : Blk} (hb : s.get b = some x) : b < s.next := Nat.lt_of_not_le fun hge => by rw [h b hge] at hb; cases hb
theorem WF.ltc {s : St HI} (h : WF s) {b : Nat} {cs : List AV} (hb : s.cells b = some cs) : b < s.next := by
  unfold St.cells at hb
  split at hb
  · rename_i h1; exact h.lt h1
  · cases hb
theorem Sub.refl (s : St HI) : Sub s s := fun _ _ h => h
/-- All that lies in a state has a number below. -/
def Below (s : St HI) (n : Nat) : Prop := ∀ b x, s.get b = some x → b < n
theorem WF.below {s : St HI} {k : Nat} (h : WF (upN s k)) : Below s (s.next + k) := fun b x hb => h.lt (s := upN s k) hb
theorem Below.cells {s : St HI} {n b : Nat} {cs : List AV} (h : Below s n) (hb : s.cells b = some cs) : b < n := by
  unfold St.cells at hb
  split at hb
  · rename_i h1; exact h _ _ h1
  · cases hb
theorem Sub.new {s t : St HI} {n : Nat} (hw : Below s n) (h : Sub s t) (hn : n ≤ t.next) (x : Blk) : Sub s (t.new x) := fun b y hb => by
  rw [St.get_new, if_neg (by have := hw b y hb; omega)]
  exact h b y hb
theorem Sub.put {s t : St HI} {n : Nat} (hw : Below s n) (h : Sub s t) {c : Nat} (hn : n ≤ c) (x : Option Blk) : Sub s (t.put c x) := fun b y hb => by
  rw [St.get_put, if_neg (by have := hw b y hb; omega)]
  exact h b y hb
theorem Sub.up {s t : St HI} (h : Sub s t) (k : Nat) : Sub s (upN t k) := h
theorem Sub.mk {s t : St HI} (h : Sub s t) (k : Nat) : Sub s { h := t.h, next := k } := h
theorem Sub.of {s s' : St HI} (hw : WF s) (h : ∀ b, b < s.next → s'.get b = s.get b) : Sub s s' := fun b x hb => by rw [h b (hw.lt hb)]; exact hb

/-- What is not in the state that is told is forgotten. -/
theorem forget_ok {ι κ : Emb} {s s' s1 : St HI} {w w' : World} (h : Stp ι s w κ s' w') (hs' : Sim κ s' w') (hsub : Sub s1 s') (hn : s'.next ≤ s1.next) :
    Stp ι s w κ s1 w' ∧ Sim κ s1 w' :=
  ⟨⟨h.le, h.grow, h.kept, fun cb hl ho b x base hb => h.own cb hl ho b x base (hsub b x hb), h.frzo, h.newid, Nat.le_trans h.next hn, h.os, h.output, h.tape⟩,
    ⟨fun b x hb => hs'.live b x (hsub b x hb), fun b b' x x' cb base base' hb hb' => hs'.inj b b' x x' cb base base' (hsub b x hb) (hsub b' x' hb'), hs'.frz, fun b hb => hs'.fresh b (Nat.le_trans hn hb), hs'.bmap, hs'.bsize⟩⟩

theorem Sim.wf {ι : Emb} {s : St HI} {w : World} (h : Sim ι s w) : WF s := fun _ hb => h.notLive hb

variable {P : Program} {T : Tab} {callee : Callee HI} {N : Nat} {cert : Nat → Option (List Nat)} {fuel : Nat}

theorem Runs.forget {c : Code} {e e' : Env} {s s' s1 : St HI} {x : Ex} (h : Runs P N c e s x e' s') (hsub : Sub s1 s') (hn : s'.next ≤ s1.next) : Runs P N c e s x e' s1 :=
  fun ι a w Q hs ha hK => h ι a w Q hs ha (fun κ a' w' p1 p2 p3 => by
    obtain ⟨q1, q2⟩ := forget_ok p1 p2 hsub hn
    exact hK κ a' w' q1 q2 p3)

/-! ### runs up to the next number -/
def Ev (P : Program) (T : Tab) (callee : Callee HI) (N : Nat) (cert : Nat → Option (List Nat)) (fuel : Nat) (c : Code) (L : List (Nat × AV)) (s : St HI) (x : Ex) (L' : List (Nat × AV)) (s' : St HI) : Prop :=
  ∃ e, evCode P T callee N cert fuel c (mk L) s = some (x, e, s') ∧ Has e L'

def RunP (P : Program) (N : Nat) (c : Code) (L : List (Nat × AV)) (s : St HI) (x : Ex) (L' : List (Nat × AV)) (s' : St HI) : Prop :=
  ∀ k0, WF (upN s k0) → ∃ k, Runs P N c (mk L) (upN s k0) x (mk L') (upN s' k)

theorem RunP.ev (hT : TabOK P T) (hc : CalleeOK P callee) (hmix : P.follows .mixedOrders = true) {c : Code} (hr : regsOk cert c = true) {L L' : List (Nat × AV)} {s s1 : St HI} {x : Ex}
    (h : ∀ k0, WF (upN s k0) → ∃ s', Ev P T callee N cert fuel c L (upN s k0) x L' s' ∧ Sub s1 s') : RunP P N c L s x L' s1 := fun k0 hw => by
  obtain ⟨s', ⟨e, h1, h2⟩, h3⟩ := h k0 hw
  exact ⟨s'.next, (Runs.ev hT hc hmix hr h1 h2.le).forget h3 (by simp)⟩

theorem Runs.wf {c : Code} {e e' : Env} {s s' : St HI} {x : Ex} (h : WF s → Runs P N c e s x e' s') : Runs P N c e s x e' s' :=
  fun ι a w Q hs ha hK => h hs.wf ι a w Q hs ha hK

theorem RunP.seq {c d : Code} {L1 L2 L3 : List (Nat × AV)} {s1 s2 s3 : St HI} {x : Ex} (h : RunP P N c L1 s1 .normal L2 s2) (h' : RunP P N d L2 s2 x L3 s3) : RunP P N (.seq c d) L1 s1 x L3 s3 := fun k0 hw => by
  obtain ⟨k, hk⟩ := h k0 hw
  by_cases hw2 : WF (upN s2 k)
  · obtain ⟨l, hl⟩ := h' k hw2
    exact ⟨l, hk.seq hl⟩
  · refine ⟨0, fun ι a w Q hs ha hK => wp_seq (hk ι a w _ hs ha (fun κ a' w' p1 p2 p3 => absurd p2.wf hw2))⟩

theorem RunP.seqOut {c d : Code} {L1 L2 : List (Nat × AV)} {s1 s2 : St HI} {x : Ex} (hx : x ≠ .normal) (h : RunP P N c L1 s1 x L2 s2) : RunP P N (.seq c d) L1 s1 x L2 s2 := fun k0 hw => by
  obtain ⟨k, hk⟩ := h k0 hw
  exact ⟨k, hk.seqOut hx⟩

theorem RunP.block {c : Code} {id : Nat} {L1 L2 : List (Nat × AV)} {s1 s2 : St HI} {x : Ex} (h : RunP P N c L1 s1 x L2 s2) : RunP P N (.block id c) L1 s1 (x.out id) L2 s2 := fun k0 hw => by
  obtain ⟨k, hk⟩ := h k0 hw
  exact ⟨k, hk.block⟩

theorem RunP.less {c : Code} {L1 L2 L1' L2' : List (Nat × AV)} {s s' : St HI} {x : Ex} (h : RunP P N c L1 s x L1' s') (h1 : Has (mk L2) L1) (h2 : Has (mk L1') L2') : RunP P N c L2 s x L2' s' := fun k0 hw => by
  obtain ⟨k, hk⟩ := h k0 hw
  exact ⟨k, hk.less h1.le h2.le⟩

theorem Runs.condT {o : Operand} {c d : Code} {e e' : Env} {s s' : St HI} {x : Ex} (ho : opd e o = some (.bool true)) (h : Runs P N c e s x e' s') : Runs P N (.cond o c d) e s x e' s' :=
  fun ι a w Q hs ha hK => by
    have := ha.opd ho
    simp only [R] at this
    exact wp_cond_true this (h ι a w Q hs ha hK)
theorem Runs.condF {o : Operand} {c d : Code} {e e' : Env} {s s' : St HI} {x : Ex} (ho : opd e o = some (.bool false)) (h : Runs P N d e s x e' s') : Runs P N (.cond o c d) e s x e' s' :=
  fun ι a w Q hs ha hK => by
    have := ha.opd ho
    simp only [R] at this
    exact wp_cond_false this (h ι a w Q hs ha hK)
theorem RunP.condT {o : Operand} {c d : Code} {L L' : List (Nat × AV)} {s s' : St HI} {x : Ex} (ho : opd (mk L) o = some (.bool true)) (h : RunP P N c L s x L' s') : RunP P N (.cond o c d) L s x L' s' := fun k0 hw => by
  obtain ⟨k, hk⟩ := h k0 hw
  exact ⟨k, hk.condT ho⟩
theorem RunP.condF {o : Operand} {c d : Code} {L L' : List (Nat × AV)} {s s' : St HI} {x : Ex} (ho : opd (mk L) o = some (.bool false)) (h : RunP P N d L s x L' s') : RunP P N (.cond o c d) L s x L' s' := fun k0 hw => by
  obtain ⟨k, hk⟩ := h k0 hw
  exact ⟨k, hk.condF ho⟩

theorem RunP.skip {L : List (Nat × AV)} {s : St HI} : RunP P N .skip L s .normal L s := fun k0 _ =>
  ⟨k0, fun ι _ w _ hs ha hK => wp_skip (hK ι _ w (.refl _ _ _) hs ha)⟩
theorem RunP.ret {L : List (Nat × AV)} {s : St HI} : RunP P N .ret L s .ret L s := fun k0 _ =>
  ⟨k0, fun ι _ w _ hs ha hK => wp_ret (hK ι _ w (.refl _ _ _) hs ha)⟩

/-- So many rounds, then the one that leaves. -/
theorem RunP.loop {c : Code} {n : Nat} (E : Nat → List (Nat × AV)) (S : Nat → St HI) {x : Ex} {L' : List (Nat × AV)} {s' : St HI} (hx : x ≠ .normal) (h1 : ∀ i, i < n → RunP P N c (E i) (S i) .normal (E (i + 1)) (S (i + 1))) (h2 : RunP P N c (E n) (S n) x L' s') : RunP P N (.loop c) (E 0) (S 0) x L' s' := by
  intro k0 hw0
  -- the numbers at each round
  have key : ∀ m, m ≤ n → ∃ K : Nat → Nat, K 0 = k0 ∧ ∀ i, i < m → Runs P N c (mk (E i)) (upN (S i) (K i)) .normal (mk (E (i + 1))) (upN (S (i + 1)) (K (i + 1))) := by
    intro m
    induction m with
    | zero => intro _; exact ⟨fun _ => k0, rfl, fun i hi => absurd hi (Nat.not_lt_zero i)⟩
    | succ m ih =>
      intro hm
      obtain ⟨K, hK0, hK⟩ := ih (by omega)
      have step : ∃ k, Runs P N c (mk (E m)) (upN (S m) (K m)) .normal (mk (E (m + 1))) (upN (S (m + 1)) k) := by
        by_cases hw : WF (upN (S m) (K m))
        · exact h1 m (by omega) (K m) hw
        · exact ⟨0, Runs.wf fun h => absurd h hw⟩
      obtain ⟨k, hk⟩ := step
      refine ⟨fun i => if i = m + 1 then k else K i, by simp [hK0], fun i hi => ?_⟩
      by_cases e : i = m
      · subst e
        simpa using hk
      · have h3 : i < m := by omega
        have := hK i h3
        simp only [show i ≠ m + 1 by omega, show i + 1 ≠ m + 1 by omega, if_false]
        exact this
  obtain ⟨K, hK0, hK⟩ := key n (Nat.le_refl _)
  have last : ∃ k, Runs P N c (mk (E n)) (upN (S n) (K n)) x (mk L') (upN s' k) := by
    by_cases hw : WF (upN (S n) (K n))
    · exact h2 (K n) hw
    · exact ⟨0, Runs.wf fun h => absurd h hw⟩
  obtain ⟨k, hk⟩ := last
  refine ⟨k, ?_⟩
  have := Runs.loop (fun i => mk (E i)) (fun i => upN (S i) (K i)) (n := n) hx hK hk
  simpa only [hK0] using this

/-! ### what is known of a function -/
def Sound (P : Program) (f : Nat) (args : List AV) (s : St HI) (v : AV) (s' : St HI) : Prop :=
  ∀ (ι : Emb) (w : World) (vs : List Value), Rs ι args vs → Sim ι s w → Calls P f ⟨vs⟩ w fun e w' => ∃ v' κ, e = .returned v' ∧ Stp ι s w κ s' w' ∧ Sim κ s' w' ∧ R κ v v'

/-- The same from every state that differs in the next number alone. -/
def SoundP (P : Program) (f : Nat) (args : List AV) (s : St HI) (v : AV) (s' : St HI) : Prop :=
  ∀ k0, WF (upN s k0) → ∃ k, Sound P f args (upN s k0) v (upN s' k)

theorem RunP.sound (hT : TabOK P T) {f : Nat} {fn : Func} {c : Code} (hfn : T.func f = some fn) (hb : fn.body = some c) {args : List AV} (hlen : args.length ≤ fn.ntmps) {x : Ex} {L : List (Nat × AV)} {s s1 : St HI} {rs : List AV} (hx : x = .normal ∨ x = .ret)
    (h : RunP P fn.ntmps c (numbered args 0) s x L s1) (hrs : ∀ k, resA T (mk L) (upN s1 k) fn.results.toList = some rs) : SoundP P f args s (single rs) s1 := fun k0 hw => by
  obtain ⟨k, hk⟩ := h k0 hw
  exact ⟨k, fun ι w vs hr hs => Runs.call hT hfn hb hlen hx (hk.less (args_le args) (Env.le.refl _)) (hrs k) hr hs⟩

/-- What a function is told to answer, and what to make of the state, is taken where it is so. -/
abbrev Spec (HI : HeapI) := FuncId → List AV → St HI → Option (AV × St HI)

noncomputable def extra (P : Program) (f : Nat) (args : List AV) (s : St HI) (v : AV) (s1 : St HI) : Nat :=
  open Classical in if h : ∃ k, Sound P f args s v (upN s1 k) then h.choose else 0

noncomputable def cSpec (P : Program) (D : Spec HI) : Callee HI := fun f args s =>
  match D f args s with
  | some (v, s1) => open Classical in if Sound P f args s v (upN s1 (extra P f args s v s1)) then some (v, upN s1 (extra P f args s v s1)) else none
  | none => none

theorem loadV_h (T : Tab) (s : St HI) (t b o : Nat) : loadV T s t (.hptr b o) = match s.cells b with
    | some cs => readV T t cs o
    | none => none := rfl

theorem sliceLen_n : sliceLen .nsl = some 0 := rfl
theorem sliceLen_h (b o es len cap : Nat) (ex : Bool) : sliceLen (.hsl b o es len cap ex) = some len := rfl
theorem sliceLen_f (cs : List AV) (o es len cap : Nat) (ex : Bool) : sliceLen (.fsl cs o es len cap ex) = some len := rfl

theorem single_bool (b : Bool) : AV.single (.bool b) = true := rfl
theorem cells_bool (b : Bool) : AV.cells (.bool b) = [.bool b] := rfl
theorem single_int (k : IntKind) (n : Int) : AV.single (.int k n) = true := rfl
theorem cells_int (k : IntKind) (n : Int) : AV.cells (.int k n) = [.int k n] := rfl
theorem single_string (b : ByteArray) : AV.single (.string b) = true := rfl
theorem cells_string (b : ByteArray) : AV.cells (.string b) = [.string b] := rfl
theorem single_nptr  : AV.single (.nptr) = true := rfl
theorem cells_nptr  : AV.cells (.nptr) = [.nptr] := rfl
theorem single_hptr (b o : Nat) : AV.single (.hptr b o) = true := rfl
theorem cells_hptr (b o : Nat) : AV.cells (.hptr b o) = [.hptr b o] := rfl
theorem single_fptr (cs : List AV) (o : Nat) : AV.single (.fptr cs o) = true := rfl
theorem cells_fptr (cs : List AV) (o : Nat) : AV.cells (.fptr cs o) = [.fptr cs o] := rfl
theorem single_nsl  : AV.single (.nsl) = true := rfl
theorem cells_nsl  : AV.cells (.nsl) = [.nsl] := rfl
theorem single_hsl (b o es len cap : Nat) (ex : Bool) : AV.single (.hsl b o es len cap ex) = true := rfl
theorem cells_hsl (b o es len cap : Nat) (ex : Bool) : AV.cells (.hsl b o es len cap ex) = [.hsl b o es len cap ex] := rfl
theorem single_fsl (cs : List AV) (o es len cap : Nat) (ex : Bool) : AV.single (.fsl cs o es len cap ex) = true := rfl
theorem cells_fsl (cs : List AV) (o es len cap : Nat) (ex : Bool) : AV.cells (.fsl cs o es len cap ex) = [.fsl cs o es len cap ex] := rfl
theorem single_nmap  : AV.single (.nmap) = true := rfl
theorem cells_nmap  : AV.cells (.nmap) = [.nmap] := rfl
theorem single_map (b : Nat) : AV.single (.map b) = true := rfl
theorem cells_map (b : Nat) : AV.cells (.map b) = [.map b] := rfl
theorem single_func (f : FuncId) (xs ys : List AV) : AV.single (.func f xs ys) = true := rfl
theorem cells_func (f : FuncId) (xs ys : List AV) : AV.cells (.func f xs ys) = [.func f xs ys] := rfl
theorem single_nfunc  : AV.single (.nfunc) = true := rfl
theorem cells_nfunc  : AV.cells (.nfunc) = [.nfunc] := rfl
theorem single_iface (t : TypeId) (v : AV) : AV.single (.iface t v) = true := rfl
theorem cells_iface (t : TypeId) (v : AV) : AV.cells (.iface t v) = [.iface t v] := rfl
theorem single_niface  : AV.single (.niface) = true := rfl
theorem cells_niface  : AV.cells (.niface) = [.niface] := rfl
theorem cells_agg (cs : List AV) : AV.cells (.agg cs) = cs := rfl

theorem cSpec_ok (D : Spec HI) : CalleeOK P (cSpec P D) := by
  intro f args s v s' h ι w vs hr hs
  unfold cSpec at h
  split at h
  · split at h
    · rename_i hsound
      cases h
      exact hsound ι w vs hr hs
    · cases h
  · cases h

theorem cSpec_eq {D : Spec HI} {f : Nat} {args : List AV} {s s1 : St HI} {v : AV} (hD : D f args s = some (v, s1)) (h : ∃ k, Sound P f args s v (upN s1 k)) :
    cSpec P D f args s = some (v, upN s1 (extra P f args s v s1)) := by
  unfold cSpec
  rw [hD]
  have : Sound P f args s v (upN s1 (extra P f args s v s1)) := by
    unfold extra
    rw [dif_pos h]
    exact h.choose_spec
  simp only [this, if_true]

/-- A function that leaves the state as it is. -/
def Pure (P : Program) (HI : HeapI) (f : Nat) (args : List AV) (v : AV) : Prop := ∀ s : St HI, ∃ k, Sound P f args s v (upN s k)

theorem SoundP.get {f : Nat} {args : List AV} {v : AV} {s s' : St HI} (h : SoundP P f args s v s') (k0 : Nat) : ∃ k, Sound P f args (upN s k0) v (upN s' k) := by
  by_cases hw : WF (upN s k0)
  · exact h k0 hw
  · exact ⟨0, fun ι w vs hr hs => absurd hs.wf hw⟩

theorem SoundP.pure {f : Nat} {args : List AV} {v : AV} (h : ∀ s : St HI, SoundP P f args s v s) : Pure P HI f args v := fun s => (h s).get 0

/-- What functions answer that leave the state as it is. -/
def pureD (V : FuncId → List AV → Option AV) : Spec HI := fun f args s => (V f args).map fun v => (v, s)

theorem pure_call {V : FuncId → List AV → Option AV} {f : Nat} (hf : (T.func f).isSome = true) {args : List AV} {v : AV} (hV : V f args = some v) (h : Pure P HI f args v) :
    ∃ kk : St HI → Nat, ∀ s, callF T (cSpec P (pureD V)) f args s = some (v, upN s (kk s)) := by
  refine ⟨fun s => extra P f args s v s, fun s => ?_⟩
  have : callF T (cSpec P (pureD V)) f args s = cSpec P (pureD V) f args s := by
    unfold callF
    cases e : T.func f with
    | none => rw [e] at hf; cases hf
    | some _ => rfl
  rw [this]
  exact cSpec_eq (by simp [pureD, hV]) (h s)

def growPre (T : Tab) (elem : Nat) : Bool :=
  match T.info elem with
  | some i => match i.zero with
    | some zv => Nat.ble i.bytes 65536 && Nat.ble 1 i.bytes && Nat.beq zv.cells.size i.size
    | none => false
  | none => false
theorem growOk_of {T : Tab} {elem n : Nat} (h : growPre T elem = true) (hn : n ≤ 2 ^ 30) : growOk T elem n = true := by
  unfold growPre at h
  split at h
  · rename_i i hi
    split at h
    · rename_i zv hz
      simp only [Bool.and_eq_true, Nat.ble_eq, Nat.beq_eq] at h
      obtain ⟨⟨h1, h2⟩, h3⟩ := h
      simp only [growOk, hi, hz, Bool.and_eq_true, decide_eq_true_eq]
      refine ⟨⟨?_, by omega⟩, h3⟩
      exact Nat.le_trans (Nat.mul_le_mul (show 2 * n + 192 ≤ 2 ^ 31 + 192 by omega) h1) (show (2 ^ 31 + 192) * 65536 ≤ 2 ^ 48 by decide)
    · cases h
  · cases h

/-- What one call answers. -/
noncomputable def one (f : FuncId) (args : List AV) (v : AV) : FuncId → List AV → Option AV := fun g as => open Classical in if g = f ∧ as = args then some v else none
theorem one_eq (f : FuncId) (args : List AV) (v : AV) : one f args v f args = some v := by simp [one]
noncomputable def also (V W : FuncId → List AV → Option AV) : FuncId → List AV → Option AV := fun g as => match V g as with
  | some v => some v
  | none => W g as
theorem also_l {V W : FuncId → List AV → Option AV} {g : FuncId} {as : List AV} {v : AV} (h : V g as = some v) : also V W g as = some v := by simp [also, h]
theorem also_r {f g : FuncId} {args as : List AV} {v w : AV} {W : FuncId → List AV → Option AV} (h : W g as = some w) (hne : g ≠ f) : also (one f args v) W g as = some w := by simp [also, one, hne, h]

/-- A piece of a function's code. -/
def cd (fn : Func) (p : List Nat) : Code := sub p (fn.body.getD .skip)

theorem ltI_cast {a b : Nat} (h : a < b) : ltI (a : Int) (b : Int) = true := by rw [ltI_eq]; simpa using h
theorem ltI_self (a : Int) : ltI a a = false := by rw [ltI_eq]; simp
theorem ltI_not {a b : Nat} (h : b ≤ a) : ltI (a : Int) (b : Int) = false := by rw [ltI_eq]; simpa using h
theorem eqI_self (a : Int) : eqI a a = true := by rw [eqI_eq]; simp
theorem eqI_ne {a b : Nat} (h : a ≠ b) : eqI (a : Int) (b : Int) = false := by rw [eqI_eq, beq_eq_false_iff_ne]; intro e; exact h (by omega)
theorem wrap_add {i k : Nat} (h : i + k < 2 ^ 63) : IntKind.i64.wrap ((i : Int) + (k : Int)) = ((i + k : Nat) : Int) := by
  unfold IntKind.wrap
  simp [IntKind.bits, IntKind.signed]
  omega
theorem wrap_one {i : Nat} (h : i + 1 < 2 ^ 63) : IntKind.i64.wrap ((i : Int) + 1) = (i : Int) + 1 := by
  have := wrap_add (i := i) (k := 1) h
  simpa using this

/-- What is evaluated is so. -/
theorem Sound.ev {f : Nat} {args : List AV} {s s' : St HI} {v : AV} (hc : CalleeOK P callee) (h : callee f args s = some (v, s')) : Sound P f args s v s' :=
  fun ι w vs hr hs => hc f args s v s' h ι w vs hr hs
end
end Go.Am
