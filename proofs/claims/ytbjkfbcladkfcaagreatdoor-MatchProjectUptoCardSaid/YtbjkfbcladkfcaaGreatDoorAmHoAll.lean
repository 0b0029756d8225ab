/- Runs from states that are told by what is so of them. -/
import Derived.Test.YtbjkfbcladkfcaaGreatDoorAmEqs
set_option linter.unusedSimpArgs false
set_option linter.unusedVariables false
namespace Go.Am
section
variable {HI : HeapI} {P : Program} {T : Tab} {callee : Callee HI} {N : Nat} {cert : Nat → Option (List Nat)} {fuel : Nat}

theorem WF.new {s : St HI} (h : WF s) (x : Blk) : WF (s.new x) := fun b hb => by
  simp only [St.next_new] at hb
  rw [St.get_new, if_neg (by omega)]
  exact h b (by omega)
theorem WF.put {s : St HI} (h : WF s) {c : Nat} (hc : c < s.next) (x : Option Blk) : WF (s.put c x) := fun b hb => by
  simp only [St.next_put] at hb
  rw [St.get_put, if_neg (by omega)]
  exact h b hb
theorem WF.up {s : St HI} (h : WF s) (k : Nat) : WF (upN s k) := fun b hb => by
  simp only [upN_next] at hb
  exact h b (by omega)
theorem WF.self {s : St HI} (h : WF s) : Below s s.next := fun b x hb => h.lt hb

abbrev Cond (HI : HeapI) := List (Nat × AV) → St HI → Prop

/-- From every state where the one holds code comes to its end so, in a state where the other holds. -/
def Hoare (P : Program) (N : Nat) (c : Code) (Pre : Cond HI) (x : Ex) (Post : Cond HI) : Prop :=
  ∀ L s, WF s → Pre L s → ∃ L' s', Post L' s' ∧ WF s' ∧ Runs P N c (mk L) s x (mk L') s'

theorem Hoare.ev (hT : TabOK P T) (hc : CalleeOK P callee) (hmix : P.follows .mixedOrders = true) {c : Code} (hr : regsOk cert c = true) {Pre Post : Cond HI} {x : Ex}
    (h : ∀ L s, WF s → Pre L s → ∃ L' s' s1, Ev P T callee N cert fuel c L s x L' s' ∧ Sub s1 s' ∧ s'.next ≤ s1.next ∧ WF s1 ∧ Post L' s1) : Hoare P N c Pre x Post := fun L s hw hp => by
  obtain ⟨L', s', s1, ⟨e, h1, h2⟩, h4, h5, h6, h3⟩ := h L s hw hp
  exact ⟨L', s1, h3, h6, (Runs.ev hT hc hmix hr h1 h2.le).forget h4 h5⟩

theorem Hoare.seq {c d : Code} {A B C : Cond HI} {x : Ex} (h : Hoare P N c A .normal B) (h' : Hoare P N d B x C) : Hoare P N (.seq c d) A x C := fun L s hw hp => by
  obtain ⟨L1, s1, h1, w1, h2⟩ := h L s hw hp
  obtain ⟨L2, s2, h3, w2, h4⟩ := h' L1 s1 w1 h1
  exact ⟨L2, s2, h3, w2, h2.seq h4⟩
theorem Hoare.seqOut {c d : Code} {A B : Cond HI} {x : Ex} (hx : x ≠ .normal) (h : Hoare P N c A x B) : Hoare P N (.seq c d) A x B := fun L s hw hp => by
  obtain ⟨L1, s1, h1, w1, h2⟩ := h L s hw hp
  exact ⟨L1, s1, h1, w1, h2.seqOut hx⟩
theorem Hoare.block {c : Code} {id : Nat} {A B : Cond HI} {x : Ex} (h : Hoare P N c A x B) : Hoare P N (.block id c) A (x.out id) B := fun L s hw hp => by
  obtain ⟨L1, s1, h1, w1, h2⟩ := h L s hw hp
  exact ⟨L1, s1, h1, w1, h2.block⟩
theorem Hoare.condT {o : Operand} {c d : Code} {A B : Cond HI} {x : Ex} (ho : ∀ L s, A L s → opd (mk L) o = some (.bool true)) (h : Hoare P N c A x B) : Hoare P N (.cond o c d) A x B := fun L s hw hp => by
  obtain ⟨L1, s1, h1, w1, h2⟩ := h L s hw hp
  exact ⟨L1, s1, h1, w1, h2.condT (ho L s hp)⟩
theorem Hoare.condF {o : Operand} {c d : Code} {A B : Cond HI} {x : Ex} (ho : ∀ L s, A L s → opd (mk L) o = some (.bool false)) (h : Hoare P N d A x B) : Hoare P N (.cond o c d) A x B := fun L s hw hp => by
  obtain ⟨L1, s1, h1, w1, h2⟩ := h L s hw hp
  exact ⟨L1, s1, h1, w1, h2.condF (ho L s hp)⟩
theorem Hoare.skip {A : Cond HI} : Hoare P N .skip A .normal A := fun L s hw hp =>
  ⟨L, s, hp, hw, fun ι _ w _ hs ha hK => wp_skip (hK ι _ w (.refl _ _ _) hs ha)⟩
theorem Hoare.ret {A : Cond HI} : Hoare P N .ret A .ret A := fun L s hw hp =>
  ⟨L, s, hp, hw, fun ι _ w _ hs ha hK => wp_ret (hK ι _ w (.refl _ _ _) hs ha)⟩
theorem Hoare.weak {c : Code} {A A' B B' : Cond HI} {x : Ex} (h : Hoare P N c A x B) (h1 : ∀ L s, A' L s → A L s) (h2 : ∀ L s, B L s → B' L s) : Hoare P N c A' x B' := fun L s hw hp => by
  obtain ⟨L1, s1, h3, w1, h4⟩ := h L s hw (h1 L s hp)
  exact ⟨L1, s1, h2 _ _ h3, w1, h4⟩

/-- So many rounds, then the one that leaves. -/
theorem Hoare.loop {c : Code} {n : Nat} (I : Nat → Cond HI) {x : Ex} {Q : Cond HI} (hx : x ≠ .normal) (h1 : ∀ i, i < n → Hoare P N c (I i) .normal (I (i + 1))) (h2 : Hoare P N c (I n) x Q) : Hoare P N (.loop c) (I 0) x Q := by
  intro L s hw hp
  have key : ∀ m, m ≤ n → ∃ (E : Nat → List (Nat × AV)) (S : Nat → St HI), E 0 = L ∧ S 0 = s ∧ I m (E m) (S m) ∧ WF (S m) ∧ ∀ i, i < m → Runs P N c (mk (E i)) (S i) .normal (mk (E (i + 1))) (S (i + 1)) := by
    intro m
    induction m with
    | zero => intro _; exact ⟨fun _ => L, fun _ => s, rfl, rfl, hp, hw, fun i hi => absurd hi (Nat.not_lt_zero i)⟩
    | succ m ih =>
      intro hm
      obtain ⟨E, S, hE, hS, hI, hW, hR⟩ := ih (by omega)
      obtain ⟨L1, s1, q1, q2, q3⟩ := h1 m (by omega) (E m) (S m) hW hI
      refine ⟨fun i => if i = m + 1 then L1 else E i, fun i => if i = m + 1 then s1 else S i, by simp [hE], by simp [hS], by simpa using q1, by simpa using q2, fun i hi => ?_⟩
      by_cases e : i = m
      · subst e
        simpa using q3
      · have := hR i (by omega)
        simp only [show i ≠ m + 1 by omega, show i + 1 ≠ m + 1 by omega, if_false]
        exact this
  obtain ⟨E, S, hE, hS, hI, hW, hR⟩ := key n (Nat.le_refl _)
  obtain ⟨L1, s1, q1, q2, q3⟩ := h2 (E n) (S n) hW hI
  refine ⟨L1, s1, q1, q2, ?_⟩
  have := Runs.loop (fun i => mk (E i)) S (n := n) hx hR q3
  rwa [hE, hS] at this

/-- A function's answer from its body's run. -/
theorem Hoare.sound (hT : TabOK P T) {f : Nat} {fn : Func} {c : Code} (hfn : T.func f = some fn) (hb : fn.body = some c) {args : List AV} (hlen : args.length ≤ fn.ntmps) {x : Ex} {A Q : Cond HI} {s : St HI} (hx : x = .normal ∨ x = .ret)
    (h : Hoare P fn.ntmps c A x Q) (hA : WF s → A (numbered args 0) s) : ∃ L s1, (WF s → Q L s1 ∧ WF s1) ∧ ∀ rs, resA T (mk L) s1 fn.results.toList = some rs → Sound P f args s (single rs) s1 := by
  by_cases hw : WF s
  · obtain ⟨L, s1, h1, w1, h2⟩ := h (numbered args 0) s hw (hA hw)
    exact ⟨L, s1, fun _ => ⟨h1, w1⟩, fun rs hrs ι w vs hr hs => Runs.call hT hfn hb hlen hx (h2.less (args_le args) (Env.le.refl _)) hrs hr hs⟩
  · exact ⟨[], s, fun h => absurd h hw, fun rs hrs ι w vs hr hs => absurd hs.wf hw⟩

/-- What one call answers in one state. -/
noncomputable def oneS (f : FuncId) (args : List AV) (s : St HI) (v : AV) (s1 : St HI) : Spec HI := fun g as t => open Classical in if g = f ∧ as = args ∧ t = s then some (v, s1) else none
theorem oneS_call {f : Nat} (hf : (T.func f).isSome = true) {args : List AV} {s s1 : St HI} {v : AV} (h : Sound P f args s v s1) : ∃ k, callF T (cSpec P (oneS f args s v s1)) f args s = some (v, upN s1 k) := by
  refine ⟨extra P f args s v s1, ?_⟩
  have : callF T (cSpec P (oneS f args s v s1)) f args s = cSpec P (oneS f args s v s1) f args s := by
    unfold callF
    cases e : T.func f with
    | none => rw [e] at hf; cases hf
    | some _ => rfl
  rw [this]
  exact cSpec_eq (by simp [oneS]) ⟨0, h⟩

theorem Sound.ofEv (hT : TabOK P T) (hc : CalleeOK P callee) (hmix : P.follows .mixedOrders = true) {f : Nat} {fn : Func} {c : Code} (hfn : T.func f = some fn) (hb : fn.body = some c) (hr : regsOk cert c = true) {args : List AV} (hlen : args.length ≤ fn.ntmps) {x : Ex} {L' : List (Nat × AV)} {s s1 : St HI} {rs : List AV} (hx : x = .normal ∨ x = .ret)
    (h : Ev P T callee fn.ntmps cert fuel c (numbered args 0) s x L' s1) (hrs : resA T (mk L') s1 fn.results.toList = some rs) : Sound P f args s (single rs) s1 := fun ι w vs hrs' hs => by
  obtain ⟨e, h1, h2⟩ := h
  exact Runs.call hT hfn hb hlen hx ((Runs.ev hT hc hmix hr h1 h2.le).less (args_le args) (Env.le.refl _)) hrs hrs' hs
theorem Sound.forget {f : Nat} {args : List AV} {s s' s1 : St HI} {v : AV} (h : Sound P f args s v s') (hsub : Sub s1 s') (hn : s'.next ≤ s1.next) : Sound P f args s v s1 := fun ι w vs hr hs => (h ι w vs hr hs).mono fun e w' hh => by
  obtain ⟨v', κ, rfl, h1, h2, h3⟩ := hh
  obtain ⟨q1, q2⟩ := forget_ok h1 h2 hsub hn
  exact ⟨_, _, rfl, q1, q2, h3⟩
/-- It is enough to look at states that may be. -/
theorem Pure.of {f : Nat} {args : List AV} {v : AV} (h : ∀ s : St HI, WF s → ∃ k, Sound P f args s v (upN s k)) : Pure P HI f args v := fun s => by
  by_cases hw : WF s
  · exact h s hw
  · exact ⟨0, fun ι w vs hr hs => absurd hs.wf hw⟩

/-- A live block is taken by value. -/
theorem freeze_block {κ : Emb} {s' : St HI} {w' : World} (h2 : Sim κ s' w') {b : Nat} {cs : List AV} (hb : s'.get b = some (.cells cs)) :
    ∃ μ : Emb, κ.le μ ∧ Stp κ s' w' μ (s'.put b none) w' ∧ Sim μ (s'.put b none) w' ∧ ∀ o es len cap ex v, R κ (.hsl b o es len cap ex) v → R μ (.fsl cs o es len cap ex) v := by
  obtain ⟨cb, base, hm, hblk, hf⟩ := h2.live b _ hb
  obtain ⟨arr, et, g1, g2, g3, g4⟩ := hblk
  obtain ⟨k1, k2, k3⟩ := sim_freeze h2 hb hm g1
  refine ⟨κ.freeze cb arr, k1, k3, k2, fun o es len cap ex v h3 => ?_⟩
  simp only [R] at h3
  obtain ⟨cb', base', a, cap', sz, hm', rfl, hc, ha, hl, hz, hsz⟩ := h3
  rw [hm] at hm'
  cases hm'
  refine ⟨cb, base, a, cap', (arr.toList.drop base).take cs.length, none, rfl, .inl rfl, hc, ha, hl, fun i v hv => ?_, Rs.iff.2 ⟨?_, fun i x hx => ?_⟩⟩
  · rw [List.getElem?_take] at hv
    split at hv
    · rw [List.getElem?_drop] at hv
      simpa [Emb.freeze] using hv
    · cases hv
  · simp only [List.length_take, List.length_drop, Array.length_toList]
    omega
  · obtain ⟨v, hv, hr'⟩ := g4 i x hx
    have hi := (List.getElem?_eq_some_iff.1 hx).1
    refine ⟨v, ?_, hr'.mono k1⟩
    rw [List.getElem?_take, if_pos hi, List.getElem?_drop]
    simpa using hv

/-- A slice that leads to a live block may be taken by value, the block forgotten. -/
theorem Sound.freeze {f : Nat} {args : List AV} {s s' s1 : St HI} {b o es len cap : Nat} {ex : Bool} {cs : List AV} (h : Sound P f args s (.hsl b o es len cap ex) s') (hb : s'.get b = some (.cells cs)) (hsub : Sub s1 (s'.put b none)) (hn : s'.next ≤ s1.next) :
    Sound P f args s (.fsl cs o es len cap ex) s1 := fun ι w vs hr hs => (h ι w vs hr hs).mono fun e w' hh => by
  obtain ⟨v', κ, rfl, h1, h2, h3⟩ := hh
  obtain ⟨μ, k1, k2, k3, k4⟩ := freeze_block h2 hb
  obtain ⟨q1, q2⟩ := forget_ok (h1.trans k2) k3 hsub hn
  exact ⟨_, _, rfl, q1, q2, k4 _ _ _ _ _ _ h3⟩

theorem Runs.freeze {c : Code} {e e' e2 : Env} {s s' s1 : St HI} {x : Ex} {b : Nat} {cs : List AV} (h : Runs P N c e s x e' s') (hb : s'.get b = some (.cells cs)) (hsub : Sub s1 (s'.put b none)) (hn : s'.next ≤ s1.next)
    (he : ∀ t v, e2.get t = some v → e'.get t = some v ∨ ∃ o es len cap ex, v = .fsl cs o es len cap ex ∧ e'.get t = some (.hsl b o es len cap ex)) : Runs P N c e s x e2 s1 :=
  fun ι a w Q hs ha hK => h ι a w Q hs ha (fun κ a' w' p1 p2 p3 => by
    obtain ⟨μ, k1, k2, k3, k4⟩ := freeze_block p2 hb
    obtain ⟨q1, q2⟩ := forget_ok (p1.trans k2) k3 hsub hn
    refine hK μ a' w' q1 q2 ⟨p3.size, p3.defers, fun t v hv => ?_⟩
    rcases he t v hv with h1 | ⟨o, es, len, cap, ex, rfl, h1⟩
    · exact (p3.env t v h1).mono k1
    · exact k4 _ _ _ _ _ _ (p3.env t _ h1))

/-- What is known behind a run may be told in another way. -/
theorem Hoare.tell {c : Code} {A B C : Cond HI} {x : Ex} (h : Hoare P N c A x B) (h2 : ∀ L s, WF s → B L s → ∃ L2 s2, C L2 s2 ∧ WF s2 ∧ ∀ e s0, Runs P N c e s0 x (mk L) s → Runs P N c e s0 x (mk L2) s2) : Hoare P N c A x C := fun L s hw hp => by
  obtain ⟨L1, s1, q1, q2, q3⟩ := h L s hw hp
  obtain ⟨L2, s2, r1, r2, r3⟩ := h2 L1 s1 q2 q1
  exact ⟨L2, s2, r1, r2, r3 _ _ q3⟩
theorem RunP.hoare {c : Code} {L L' : List (Nat × AV)} {s : St HI} {x : Ex} (hs : WF s) (h : RunP P N c L s x L' s) : Hoare P N c (fun M t => M = L ∧ ∃ k, t = upN s k) x (fun M t => M = L' ∧ ∃ k, t = upN s k) := by
  rintro _ t hw ⟨rfl, k, rfl⟩
  obtain ⟨k', hk⟩ := h k hw
  exact ⟨_, _, ⟨rfl, k', rfl⟩, hs.up k', hk⟩
end
end Go.Am
namespace Go.Am

def row4 (y : Row4) : List AV := [.int .i64 y.k, .int .i64 y.p, .int .i64 y.s, y.B]
def flat : List Row4 → List AV
  | [] => []
  | y :: ys => row4 y ++ flat ys
theorem flat_len : ∀ (L : List Row4), (flat L).length = L.length * 4
  | [] => rfl
  | y :: ys => by simp only [flat, List.length_append, flat_len ys, List.length_cons]; simp only [row4, List.length_cons, List.length_nil]; omega
theorem flat_append : ∀ (L M : List Row4), flat (L ++ M) = flat L ++ flat M
  | [], M => rfl
  | y :: ys, M => by simp only [List.cons_append, flat, flat_append ys M, List.append_assoc]
theorem flat_one (y : Row4) : flat [y] = row4 y := by simp [flat]
theorem flat_take (L : List Row4) : List.take (L.length * 4) (flat L) = flat L := by rw [List.take_of_length_le]; rw [flat_len]; exact Nat.le_refl _
theorem flat_get : ∀ (L : List Row4) (i : Nat) (x : Row4), L[i]? = some x → ∀ r, r < 4 → (flat L)[i * 4 + r]? = some (x.pick r)
  | [], i, x, h, _, _ => by simp at h
  | y :: ys, 0, x, h, r, hr => by
    simp at h
    subst h
    match r, hr with
    | 0, _ => rfl
    | 1, _ => rfl
    | 2, _ => rfl
    | 3, _ => rfl
  | y :: ys, i + 1, x, h, r, hr => by
    have h' : ys[i]? = some x := by simpa using h
    have := flat_get ys i x h' r hr
    rw [flat, List.getElem?_append_right (by simp [row4]; omega)]
    have e : (i + 1) * 4 + r - (row4 y).length = i * 4 + r := by simp [row4]; omega
    rw [e, this]
theorem flat_set : ∀ (L : List Row4) (i : Nat) (x : Row4) (B : AV) (bs : List UInt8), L[i]? = some x → (flat L).set (i * 4 + 3) B = flat (L.set i { x with B := B, bs := bs })
  | [], i, x, _, _, h => by simp at h
  | y :: ys, 0, x, B, bs, h => by
    simp at h
    subst h
    rfl
  | y :: ys, i + 1, x, B, bs, h => by
    have h' : ys[i]? = some x := by simpa using h
    have := flat_set ys i x B bs h'
    rw [flat, List.set_append_right _ _ (by simp [row4]; omega), List.set_cons_succ, flat]
    have e : (i + 1) * 4 + 3 - (row4 y).length = i * 4 + 3 := by simp [row4]; omega
    rw [e, this]

/-- Rows by value. -/
def rowsV (L : List Row4) : AV := if L.length = 0 then .nsl else .fsl (flat L) 0 4 L.length L.length false
theorem isRows_flat {L : List Row4} (hl : L.length < 2 ^ 63) (hb : ∀ x ∈ L, IsBytes x.B x.bs) (cap : Nat) (ex : Bool) : IsRows (.fsl (flat L) 0 4 L.length cap ex) L :=
  ⟨⟨hl, hb⟩, .inr ⟨_, _, _, _, rfl, fun i x hx r hr => by rw [Nat.zero_add]; exact flat_get L i x hx r hr⟩⟩
theorem isRows_nil : IsRows .nsl [] := ⟨⟨by decide, by simp⟩, .inl ⟨rfl, rfl⟩⟩

section
variable {HI : HeapI}
/-- A state with one block more. -/
def with1 (s : St HI) (b : Nat) (x : Blk) (n : Nat) : St HI := { h := (s.put b (some x)).h, next := n }
theorem with1_get (s : St HI) (b : Nat) (x : Blk) (n c : Nat) : (with1 s b x n).get c = if c = b then some x else s.get c := St.get_put s b (some x) c
@[simp] theorem with1_next (s : St HI) (b : Nat) (x : Blk) (n : Nat) : (with1 s b x n).next = n := rfl
theorem with1_wf {s : St HI} (hs : WF s) {b n : Nat} (hb : b < n) (hn : s.next ≤ n) (x : Blk) : WF (with1 s b x n) := fun c hc => by
  simp only [with1_next] at hc
  rw [with1_get, if_neg (by omega)]
  exact hs c (by omega)
theorem with1_sub {s t : St HI} {b n : Nat} {x : Blk} (h : ∀ c y, s.get c = some y → c ≠ b → t.get c = some y) (hb : t.get b = some x) : Sub (with1 s b x n) t := fun c y hc => by
  rw [with1_get] at hc
  split at hc
  · rename_i e; cases hc; rw [e]; exact hb
  · exact h c y hc (by assumption)
end
end Go.Am
namespace Go.Am
section
variable {P : Program}

theorem quiet_bind {α β : Type} (s : Sem α) (k : α → Sem β) : (s >>= k).quiet P = match s.quiet P with
    | some a => (k a).quiet P
    | none => none := by
  induction s with
  | pure a => rfl
  | program g ih => exact ih P
  | _ => rfl
theorem quiet_pure {α : Type} (a : α) : (pure a : Sem α).quiet P = some a := rfl
theorem quiet_program : (program : Sem Program).quiet P = some P := rfl
theorem quiet_und {t : TypeId} {d : TypeDesc} (h : P.underlying t = some d) : (underlying t).quiet P = some d := by
  simp only [underlying, quiet_bind, quiet_program, h, quiet_pure]
theorem quiet_info {t : TypeId} {i : TypeInfo} (h : P.info? t = some i) : (typeInfo t).quiet P = some i := by
  simp only [typeInfo, quiet_bind, quiet_program, h, quiet_pure]
theorem quiet_part {e : TypeId} {k : IntKind} (h : P.underlying e = some (.int k)) {cs : Array Value} {o : Nat} {v : Value} (hv : cs[o]? = some v) : (part e cs o).quiet P = some v := by
  simp only [part, isAgg, quiet_bind, quiet_und h, quiet_pure, hv]
  rfl

/-- Two pairs of numbers. -/
theorem quiet_eqInt {d : Nat} {e : TypeId} {k : IntKind} (he : P.underlying e = some (.int k)) (a c : Int) : (Op.equalIn (d + 1) e (.int k a) (.int k c)).quiet P = some (a == c) := by
  simp only [Op.equalIn, quiet_bind, quiet_und he, if_true, quiet_pure]
theorem quiet_eqPair {d : Nat} {t e : TypeId} {k : IntKind} {i : TypeInfo} (hu : P.underlying t = some (.array 2 e)) (he : P.underlying e = some (.int k)) (hi : P.info? e = some i) (h1 : i.size = 1) (a b c f : Int) :
    (Op.equalIn (d + 2) t (.agg #[.int k a, .int k b]) (.agg #[.int k c, .int k f])).quiet P = some (a == c && b == f) := by
  have p0 : ∀ x y : Int, (part e #[.int k x, .int k y] 0).quiet P = some (.int k x) := fun x y => quiet_part he rfl
  have p1 : ∀ x y : Int, (part e #[.int k x, .int k y] 1).quiet P = some (.int k y) := fun x y => quiet_part he rfl
  rw [show d + 2 = d + 1 + 1 from rfl, Op.equalIn]
  simp only [quiet_bind, quiet_und hu, sizeOf, quiet_info hi, quiet_pure, h1, Nat.mul_one]
  simp only [Std.Legacy.Range.forIn_eq_forIn_range', Std.Legacy.Range.size, Nat.sub_zero, Nat.add_one_sub_one, Nat.div_one, List.range', List.forIn_cons, List.forIn_nil, quiet_bind, Nat.zero_add, p0, p1, quiet_eqInt he]
  cases hx : (a == c) <;> cases hy : (b == f) <;> simp [quiet_bind, quiet_pure, p0, p1, quiet_eqInt he, hx, hy]

theorem quiet_check {b : Bool} {d : Nat} {t e : TypeId} {k : IntKind} {i : TypeInfo} (hu : P.underlying t = some (.array 2 e)) (he : P.underlying e = some (.int k)) (hi : P.info? e = some i) (h1 : i.size = 1) (x y : Int) :
    (Instr.checkKey b (d + 2) t (.agg #[.int k x, .int k y])).quiet P = some () := by
  have p0 : (part e #[.int k x, .int k y] 0).quiet P = some (.int k x) := quiet_part he rfl
  have p1 : (part e #[.int k x, .int k y] 1).quiet P = some (.int k y) := quiet_part he rfl
  have c : ∀ z : Int, (Instr.checkKey b (d + 1) e (.int k z)).quiet P = some () := fun z => by
    simp only [Instr.checkKey, quiet_bind, quiet_und he]
    rfl
  rw [show d + 2 = d + 1 + 1 from rfl, Instr.checkKey]
  simp only [quiet_bind, quiet_und hu, sizeOf, quiet_info hi, quiet_pure, h1, Nat.mul_one]
  simp [Std.Legacy.Range.forIn_eq_forIn_range', Std.Legacy.Range.size, List.range', quiet_bind, quiet_pure, quiet_info hi, h1, p0, p1, c]

def pairA (p : Int × Int) : AV := .agg [.int .i64 p.1, .int .i64 p.2]
def pairsOf (ps : List (Int × Int)) : List (AV × AV) := ps.map fun p => (pairA p, .bool true)

theorem quiet_asking {t e : TypeId} {i : TypeInfo} (hu : P.underlying t = some (.array 2 e)) (he : P.underlying e = some (.int .i64)) (hi : P.info? e = some i) (h1 : i.size = 1) (a b : Int) : ∀ (ps : List (Int × Int)) (n : Nat),
    ∃ u, (Instr.findAsking t (.agg #[.int .i64 a, .int .i64 b]) ((pairsOf ps).map fun e => { key := (e.1.toV).getD undef, val := undef, born := 0 }) n).quiet P = some ((ps.findIdx? fun p => a == p.1 && b == p.2).map fun j => (n + j, u))
  | [], n => ⟨undef, rfl⟩
  | p :: ps, n => by
    obtain ⟨u, hu'⟩ := quiet_asking hu he hi h1 a b ps (n + 1)
    have hk : ((pairA p).toV).getD undef = .agg #[.int .i64 p.1, .int .i64 p.2] := rfl
    have hq := quiet_eqPair (d := 9998) hu he hi h1 a b p.1 p.2
    simp only [pairsOf, List.map_cons, Instr.findAsking, quiet_bind, hk, Op.equal, Op.maxDepth]
    rw [show (10000 : Nat) = 9998 + 2 from rfl, hq]
    cases e1 : (a == p.1 && b == p.2)
    · refine ⟨u, ?_⟩
      simp only [Bool.false_eq_true, if_false, List.findIdx?_cons, e1]
      rw [show (List.map (fun p => (pairA p, AV.bool true)) ps) = pairsOf ps from rfl, hu']
      cases (ps.findIdx? fun p => a == p.1 && b == p.2) with
      | none => rfl
      | some j => simp only [Option.map_some, Option.some.injEq, Prod.mk.injEq, and_true]; omega
    · exact ⟨undef, by simp [quiet_pure, List.findIdx?_cons, e1]⟩

theorem findA_pair {t e : TypeId} {i : TypeInfo} (hu : P.underlying t = some (.array 2 e)) (he : P.underlying e = some (.int .i64)) (hi : P.info? e = some i) (h1 : i.size = 1) (a b : Int) (ps : List (Int × Int)) :
    findA P t (.agg [.int .i64 a, .int .i64 b]) (pairsOf ps) = some (ps.findIdx? fun p => a == p.1 && b == p.2) := by
  have c0 := quiet_check (b := false) (d := 9998) hu he hi h1 a b
  have c1 := quiet_check (b := true) (d := 9998) hu he hi h1 a b
  obtain ⟨u, hq⟩ := quiet_asking hu he hi h1 a b ps 0
  have hf : (Instr.findKey t (.agg #[.int .i64 a, .int .i64 b]) ((pairsOf ps).map fun e => { key := (e.1.toV).getD undef, val := undef, born := 0 })).quiet P = some ((ps.findIdx? fun p => a == p.1 && b == p.2).map fun j => (0 + j, u)) := by
    simp only [Instr.findKey, quiet_bind, quiet_und hu]
    cases ps with
    | nil => rfl
    | cons p ps =>
      simp only [pairsOf, List.map_cons, Instr.findNow, Instr.sameNow]
      exact hq
  have hv : (AV.agg [.int .i64 a, .int .i64 b]).toV = some (.agg #[.int .i64 a, .int .i64 b]) := rfl
  rw [show (9998 : Nat) + 2 = 10000 from rfl] at c0 c1
  simp only [findA, hv, c0, c1, hf]
  cases (ps.findIdx? fun p => a == p.1 && b == p.2) with
  | none => rfl
  | some j => simp
end
end Go.Am
namespace Go.Am
def selRow (p q : Int) (y : Row4) : Bool := eqI y.p p && eqI y.s q

def inEs (es : List (Int × Int)) (y : Row4) : Bool := es.any fun p => selRow p.1 p.2 y
def stepE (es : List (Int × Int)) (x : Row4) : List (Int × Int) := if inEs es x then es else es ++ [(x.p, x.s)]
def seenP (L : List Row4) : List (Int × Int) := L.foldl stepE []
theorem seen_next {L : List Row4} {i : Nat} {x : Row4} (h : L[i]? = some x) : seenP (L.take (i + 1)) = stepE (seenP (L.take i)) x := by
  rw [List.take_add_one, h]
  simp [seenP]
theorem sel_iff {p q : Int} {y : Row4} : selRow p q y = true ↔ y.p = p ∧ y.s = q := by
  simp [selRow, eqI_eq]
theorem in_iff {es : List (Int × Int)} {y : Row4} : inEs es y = true ↔ (y.p, y.s) ∈ es := by
  simp only [inEs, List.any_eq_true, sel_iff]
  constructor
  · rintro ⟨p, hp, h1, h2⟩
    rw [h1, h2]
    exact hp
  · intro h
    exact ⟨_, h, rfl, rfl⟩
theorem find_none {es : List (Int × Int)} {x : Row4} (h : inEs es x = false) : (es.findIdx? fun p => x.p == p.1 && x.s == p.2) = none := by
  rw [List.findIdx?_eq_none_iff]
  intro p hp
  refine Bool.eq_false_iff.2 fun hc => ?_
  simp only [Bool.and_eq_true, beq_iff_eq] at hc
  have : inEs es x = true := in_iff.2 (by rw [hc.1, hc.2]; exact hp)
  rw [h] at this
  cases this
theorem find_some {es : List (Int × Int)} {x : Row4} (h : inEs es x = true) : ∃ i, (es.findIdx? fun p => x.p == p.1 && x.s == p.2) = some i ∧ i < es.length := by
  cases e : es.findIdx? fun p => x.p == p.1 && x.s == p.2 with
  | none =>
    rw [List.findIdx?_eq_none_iff] at e
    have := e _ (in_iff.1 h)
    simp at this
  | some i => exact ⟨i, rfl, (List.findIdx?_eq_some_iff_findIdx_eq.1 e).1⟩

theorem filter_or (L : List Row4) (f g : Row4 → Bool) (h : ∀ y ∈ L, f y = true → g y = true → False) : (L.filter fun y => f y || g y).length = (L.filter f).length + (L.filter g).length := by
  induction L with
  | nil => rfl
  | cons y ys ih =>
    have ih' := ih (fun z hz => h z (List.mem_cons_of_mem _ hz))
    simp only [List.filter_cons]
    cases hf : f y <;> cases hg : g y
    · simpa using ih'
    · simp only [Bool.or_true, if_true, List.length_cons, Bool.false_eq_true, if_false]; omega
    · simp only [Bool.or_false, if_true, List.length_cons, Bool.false_eq_true, if_false]; omega
    · exact (h y (List.mem_cons_self ..) hf hg).elim

def cntP (L : List Row4) (i : Nat) : Nat := (L.filter (inEs (seenP (L.take i)))).length
theorem count_zero (L : List Row4) : cntP L 0 = 0 := by simp [cntP, seenP, inEs]
theorem count_le (L : List Row4) (i : Nat) : cntP L i ≤ L.length := List.length_filter_le _ _
theorem count_old {L : List Row4} {i : Nat} {x : Row4} (h : L[i]? = some x) (hin : inEs (seenP (L.take i)) x = true) : cntP L (i + 1) = cntP L i := by
  rw [cntP, seen_next h, stepE, if_pos hin, cntP]
theorem count_new {L : List Row4} {i : Nat} {x : Row4} (h : L[i]? = some x) (hin : inEs (seenP (L.take i)) x = false) : cntP L (i + 1) = cntP L i + (L.filter (selRow x.p x.s)).length := by
  rw [cntP, seen_next h, stepE, if_neg (by rw [hin]; simp), cntP, ← filter_or]
  · congr 1
    refine List.filter_congr fun y _ => ?_
    simp [inEs]
  · intro y _ h1 h2
    rw [sel_iff] at h2
    rw [in_iff] at h1
    rw [h2.1, h2.2] at h1
    rw [in_iff.2 h1] at hin
    cases hin
theorem seen_mono {es : List (Int × Int)} {x : Row4} {p : Int × Int} (h : p ∈ es) : p ∈ stepE es x := by
  unfold stepE
  split
  · exact h
  · exact List.mem_append_left _ h
theorem seen_all : ∀ (L : List Row4) (es : List (Int × Int)), (∀ p ∈ es, p ∈ L.foldl stepE es) ∧ ∀ y ∈ L, (y.p, y.s) ∈ L.foldl stepE es
  | [], es => ⟨fun p hp => hp, fun y hy => by cases hy⟩
  | x :: xs, es => by
    obtain ⟨h1, h2⟩ := seen_all xs (stepE es x)
    refine ⟨fun p hp => h1 p (seen_mono hp), fun y hy => ?_⟩
    rcases List.mem_cons.1 hy with rfl | hy
    · refine h1 _ ?_
      unfold stepE
      split
      · rename_i h; exact in_iff.1 h
      · simp
    · exact h2 y hy
theorem count_all (L : List Row4) : cntP L L.length = L.length := by
  rw [cntP, List.take_length, List.filter_eq_self.2]
  intro y hy
  exact in_iff.2 ((seen_all L []).2 y hy)
end Go.Am
namespace Go.Am
open Go.ChangeShapes

structure Meas (H : Type) (m : DataW H → Nat) : Prop where
  len : ∀ es sp, es.length ≤ m (.slice es sp)
  mem : ∀ es sp e, e ∈ es → m e ≤ m (.slice es sp)
  agg : ∀ es e, e ∈ es → m e ≤ m (.agg es)

section
variable {H : Type} {enc : TypeId × Value → H} {P : Program} {w : World} {base fuel n : Nat} {held : Bool} {v : Value} {x : DataW H × List MemPlace} {t e : TypeId} {m : DataW H → Nat}

/-- The cells of a slice's place i. -/
theorem place_y {a : Addr} {es i : Nat} {y : Option (DataW H × List MemPlace)} {f : List Value → Option (DataW H × List MemPlace)} (h : (w.cells? base (a.add (i * es)) es).bind f = y) (hy : y.isSome = true) (hes : 0 < es) :
    ∃ l z, y = some z ∧ l.length = es ∧ f l = some z ∧ (i = 0 → a.spot = none) ∧ (a.spot = none → ∀ j, j < es → w.cell? ⟨a.block, a.off + (i * es + j), none⟩ = l[j]?) := by
  cases hc : w.cells? base (a.add (i * es)) es with
  | none => rw [hc] at h; simp at h; subst h; cases hy
  | some l =>
    rw [hc] at h
    simp only [Option.bind_some] at h
    obtain ⟨h1, h2⟩ := cellsN hc
    obtain ⟨z, hz⟩ := Option.isSome_iff_exists.1 (h ▸ hy)
    refine ⟨l, z, h ▸ hz, h1, hz, fun hi => ?_, fun hs j hj => ?_⟩
    · subst hi
      have h3 := h2 0 hes
      have h4 : ∃ c, l[0]? = some c := ⟨l[0]'(by omega), by simp [h1, hes]⟩
      obtain ⟨c, hc4⟩ := h4
      rw [hc4] at h3
      have h5 := cell_spot h3
      simpa [Addr.add] using h5
    · have h3 := h2 j hj
      rw [add_plain hs (i * es)] at h3
      rw [add_plain rfl] at h3
      simpa [Nat.add_assoc] using h3

theorem freeze_bytes_m (hm : Meas H m) (ht : P.underlying t = some (.slice e)) (he : P.underlying e = some (.int .u8)) (hc : P.cellsOf e = 1) (h : DataW.trod enc P w base (fun _ => true) held fuel t [v] = some x) : ∃ B bs, IsBytes B bs ∧ R (frzEmb w) B v ∧ bs.length ≤ m x.1 := by
  rcases DataW.trod_slice ht h with ⟨hv, _⟩ | ⟨a, len, cap, elems, rest, n, _, hv, hxx, _, hlc, hmx, hel, hread, hrest, _⟩
  · simp only [List.cons.injEq, and_true] at hv
    subst hv
    exact ⟨.nsl, [], ⟨by simp, .inl ⟨rfl, rfl⟩⟩, rfl, by simp⟩
  · simp only [List.cons.injEq, and_true] at hv
    subst hv
    rw [hc] at hread hrest
    obtain ⟨hr1, hr2⟩ := hrest rfl
    have hspot : a.spot = none ∨ cap = 0 := by
      rcases Nat.eq_zero_or_pos len with h0 | h0
      · rcases Nat.eq_zero_or_pos cap with h1 | h1
        · exact .inr h1
        · have h2 := hr2 0 (by omega)
          rw [h0] at h2
          obtain ⟨_, _, _, _, h4, _⟩ := place (i := 0) h2 (by simp; omega) (by decide)
          exact .inl (h4 rfl)
      · obtain ⟨_, _, _, _, h4, _⟩ := place (hread 0 h0) (by simp [hel, h0]) (by decide)
        exact .inl (h4 rfl)
    have hcell : ∀ i, i < len → ∃ b : UInt8, w.cell? ⟨a.block, a.off + i, none⟩ = some (.int .u8 (b.toNat : Int)) := by
      intro i hi
      have hs : a.spot = none := hspot.resolve_right (by omega)
      obtain ⟨l, z, h1, h2, _, h4⟩ := place (hread i hi) (by simp [hel, hi]) (by decide)
      obtain ⟨z1, h5, _, h6⟩ := DataW.trod_int he h2
      have h7 := h4 hs 0 (by decide)
      rw [h5] at h7
      refine ⟨UInt8.ofNat z1.toNat, ?_⟩
      rw [u8_of h6]
      simpa using h7
    obtain ⟨bs, hb1, hb2⟩ := exists_list len hcell
    refine ⟨.fsl (bs.map fun b => .int .u8 (b.toNat : Int)) 0 1 bs.length len false, bs, ⟨by unfold Go.maxLen at hmx; omega, .inr ⟨_, _, _, _, rfl, fun i b hb => by simp [hb]⟩⟩, ?_, by rw [hxx, hb1, ← hel]; have := hm.len (elems.map (·.1)) (rest.map (·.1)); simpa using this⟩
    refine ⟨a.block, a.off, a.off, cap, bs.map (fun b => .int .u8 (b.toNat : Int)), a.spot, by rw [hb1], hspot, ⟨hlc, by simp⟩, .inr rfl, by omega, fun i u hu => ?_, Rs.iff.2 ⟨by simp, fun i y hy => ?_⟩⟩
    · simp only [List.getElem?_map, Option.map_eq_some_iff] at hu
      obtain ⟨b, h1, rfl⟩ := hu
      exact hb2 i b h1
    · simp only [List.getElem?_map, Option.map_eq_some_iff] at hy ⊢
      obtain ⟨b, h1, rfl⟩ := hy
      exact ⟨_, ⟨b, h1, rfl⟩, rfl⟩

theorem freeze_rows_m (hms : Meas H m) {tb eb i64 : TypeId} {f0 f1 f2 f3 : Field} (ht : P.underlying t = some (.slice e)) (he : P.underlying e = some (.struct #[f0, f1, f2, f3])) (hc : P.cellsOf e = 4)
    (hf : f0.type = i64 ∧ f0.offset = 0 ∧ f1.type = i64 ∧ f1.offset = 1 ∧ f2.type = i64 ∧ f2.offset = 2 ∧ f3.type = tb ∧ f3.offset = 3) (hi : P.underlying i64 = some (.int .i64)) (hci : P.cellsOf i64 = 1)
    (hb : P.underlying tb = some (.slice eb)) (hcb : P.cellsOf tb = 1) (heb : P.underlying eb = some (.int .u8)) (hceb : P.cellsOf eb = 1)
    (h : DataW.trod enc P w base (fun _ => true) held fuel t [v] = some x) : ∃ A L, IsRows A L ∧ R (frzEmb w) A v ∧ L.length ≤ m x.1 ∧ (∀ y ∈ L, y.bs.length ≤ m x.1) ∧ ((A = .nsl ∧ L = []) ∨ ∃ cs o, A = .fsl cs o 4 L.length L.length false) := by
  obtain ⟨g0, o0, g1, o1, g2, o2, g3, o3⟩ := hf
  rcases DataW.trod_slice ht h with ⟨hv, _⟩ | ⟨a, len, cap, elems, rest, n, _, hv, hxx, _, hlc, hmx, hel, hread, hrest, _⟩
  · simp only [List.cons.injEq, and_true] at hv
    subst hv
    exact ⟨.nsl, [], ⟨⟨by simp, by simp⟩, .inl ⟨rfl, rfl⟩⟩, rfl, by simp, by simp, .inl ⟨rfl, rfl⟩⟩
  · simp only [List.cons.injEq, and_true] at hv
    subst hv
    rw [hc] at hread hrest
    obtain ⟨hr1, hr2⟩ := hrest rfl
    have hspot : a.spot = none ∨ cap = 0 := by
      rcases Nat.eq_zero_or_pos len with h0 | h0
      · rcases Nat.eq_zero_or_pos cap with h1 | h1
        · exact .inr h1
        · have h2 := hr2 0 (by omega)
          rw [h0] at h2
          obtain ⟨_, _, _, _, h4, _⟩ := place (i := 0) h2 (by simp; omega) (by decide)
          exact .inl (h4 rfl)
      · obtain ⟨_, _, _, _, h4, _⟩ := place (hread 0 h0) (by simp [hel, h0]) (by decide)
        exact .inl (h4 rfl)
    have hcell : ∀ i, i < len → ∃ y : Row4, (IsBytes y.B y.bs ∧ y.bs.length ≤ m x.1) ∧ ∀ r, r < 4 → ∃ u, w.cell? ⟨a.block, a.off + (i * 4 + r), none⟩ = some u ∧ R (frzEmb w) (y.pick r) u := by
      intro i hilt
      have hs : a.spot = none := hspot.resolve_right (by omega)
      obtain ⟨l, z, hyz, h1, h2, _, h4⟩ := place_y (hread i hilt) (by simp [hel, hilt]) (by decide)
      obtain ⟨c0, c1, c2, c3, rfl⟩ := list4' h1
      obtain ⟨xs, m1, _, hz, _, hlen, hff⟩ := DataW.trod_struct he h2
      have hlen' : xs.length = 4 := by simpa using hlen
      have hx : ∀ i, i < 4 → ∃ y, xs[i]? = some y := fun i hi => ⟨xs[i]'(by omega), by simp [hlen', hi]⟩
      obtain ⟨y0, k0⟩ := hx 0 (by decide)
      obtain ⟨y1, k1⟩ := hx 1 (by decide)
      obtain ⟨y2, k2⟩ := hx 2 (by decide)
      obtain ⟨y3, k3⟩ := hx 3 (by decide)
      have q0 := hff 0 f0 rfl
      have q1 := hff 1 f1 rfl
      have q2 := hff 2 f2 rfl
      have q3 := hff 3 f3 rfl
      rw [k0, g0, o0, hci] at q0
      rw [k1, g1, o1, hci] at q1
      rw [k2, g2, o2, hci] at q2
      rw [k3, g3, o3, hcb] at q3
      obtain ⟨z0, e0, _⟩ := DataW.trod_int hi q0
      obtain ⟨z1, e1, _⟩ := DataW.trod_int hi q1
      obtain ⟨z2, e2, _⟩ := DataW.trod_int hi q2
      obtain ⟨B, bs, hB, hR, hbl⟩ := freeze_bytes_m hms hb heb hceb q3
      simp at e0 e1 e2
      subst e0; subst e1; subst e2
      have hmem : z.1 ∈ elems.map (·.1) := by
        exact List.mem_map.2 ⟨z, List.mem_of_getElem? hyz, rfl⟩
      have hbl2 : bs.length ≤ m x.1 := by
        have h10 : m y3.1 ≤ m z.1 := by
          rw [hz]
          exact hms.agg _ _ (List.mem_map.2 ⟨y3, List.mem_of_getElem? k3, rfl⟩)
        have h11 := hms.mem (elems.map (·.1)) (rest.map (·.1)) z.1 hmem
        rw [hxx]
        exact Nat.le_trans hbl (Nat.le_trans h10 h11)
      refine ⟨⟨z0, z1, z2, B, bs⟩, ⟨hB, hbl2⟩, fun r hr => ?_⟩
      have h5 := h4 hs r hr
      match r, hr with
      | 0, _ => exact ⟨_, by simpa using h5, rfl⟩
      | 1, _ => exact ⟨_, by simpa using h5, rfl⟩
      | 2, _ => exact ⟨_, by simpa using h5, rfl⟩
      | 3, _ => exact ⟨_, by simpa using h5, hR⟩
    obtain ⟨L, hL1, hL2⟩ := exists_list len hcell
    have hq : ∀ m, m < len * 4 → ∃ x : AV, ∃ u, w.cell? ⟨a.block, a.off + m, none⟩ = some u ∧ R (frzEmb w) x u ∧ ∃ y, L[m / 4]? = some y ∧ x = y.pick (m % 4) := by
      intro m hm
      have hi : m / 4 < L.length := by omega
      obtain ⟨_, h2⟩ := hL2 (m / 4) L[m / 4] (by simp [hi])
      obtain ⟨u, h3, h4⟩ := h2 (m % 4) (by omega)
      refine ⟨_, u, ?_, h4, L[m / 4], by simp [hi], rfl⟩
      have e : m / 4 * 4 + m % 4 = m := by omega
      rw [e] at h3
      exact h3
    obtain ⟨cs, hc1, hc2⟩ := exists_list (len * 4) hq
    have hq2 : ∀ m, m < len * 4 → ∃ u : Value, w.cell? ⟨a.block, a.off + m, none⟩ = some u := fun m hm => let ⟨_, u, h, _⟩ := hq m hm; ⟨u, h⟩
    obtain ⟨us, hu1, hu2⟩ := exists_list (len * 4) hq2
    refine ⟨.fsl cs 0 4 L.length len false, L, ⟨⟨by unfold Go.maxLen at hmx; omega, fun y hy => ?_⟩, .inr ⟨_, _, _, _, rfl, fun i y hy r hr => ?_⟩⟩, ?_, ?_, fun y hy => ?_, .inr ⟨cs, 0, by rw [hL1]⟩⟩
    · obtain ⟨i, hi, rfl⟩ := List.mem_iff_getElem.1 hy
      exact (hL2 i _ (by simp [hi])).1.1
    · have hil : i < L.length := (List.getElem?_eq_some_iff.1 hy).1
      have hm : i * 4 + r < cs.length := by omega
      have hget : cs[i * 4 + r]? = some (cs[i * 4 + r]) := by simp [hm]
      obtain ⟨u, _, _, y', h5, h6⟩ := hc2 (i * 4 + r) _ hget
      have e1 : (i * 4 + r) / 4 = i := by omega
      have e2 : (i * 4 + r) % 4 = r := by omega
      rw [e1, hy] at h5
      rw [e2] at h6
      cases h5
      rw [Nat.zero_add, hget, h6]
    · refine ⟨a.block, a.off, a.off, cap, us, a.spot, by rw [hL1], hspot, ⟨hlc, by simp⟩, .inr rfl, by omega, fun i u hu => hu2 i u hu, Rs.iff.2 ⟨by omega, fun i y hy => ?_⟩⟩
      obtain ⟨u, h5, h6, _⟩ := hc2 i y hy
      have hil : i < us.length := by have := (List.getElem?_eq_some_iff.1 hy).1; omega
      refine ⟨us[i], by simp [hil], ?_⟩
      have h7 := hu2 i us[i] (by simp [hil])
      rw [h5] at h7
      cases h7
      exact h6
    · rw [hL1, hxx, ← hel]
      have := hms.len (elems.map (·.1)) (rest.map (·.1))
      simpa using this
    · obtain ⟨i, hi, rfl⟩ := List.mem_iff_getElem.1 hy
      exact (hL2 i _ (by simp [hi])).1.2
end
end Go.Am
