/- Runs of code, put together by rules: sequence, block, loop, less of what is known, new blocks forgotten. -/
import Derived.Test.YtbjkfbcladkfcaaGreatDoorAmCall
set_option linter.unusedSimpArgs false
set_option linter.unusedVariables false
namespace Go.Am
section
variable {HI : HeapI} {P : Program} {T : Tab} {callee : Callee HI} {N : Nat} {cert : Nat → Option (List Nat)} {fuel : Nat}

def Env.le (e e' : Env) : Prop := ∀ t v, e.get t = some v → e'.get t = some v
theorem Env.le.refl (e : Env) : e.le e := fun _ _ h => h
theorem RelAct.less {ι : Emb} {e e' : Env} {a : Act} (h : RelAct ι e' N a) (hl : e.le e') : RelAct ι e N a := ⟨h.size, h.defers, fun t v hv => h.env t v (hl t v hv)⟩

/-- From a state and what is known of the temporaries, code comes to its end so. -/
def Runs (P : Program) (N : Nat) (c : Code) (env : Env) (s : St HI) (x : Ex) (env' : Env) (s' : St HI) : Prop :=
  ∀ (ι : Emb) (a : Act) (w : World) (Q : Exit → Act → World → Prop), Sim ι s w → RelAct ι env N a → (∀ κ a' w', Stp ι s w κ s' w' → Sim κ s' w' → RelAct κ env' N a' → Q x.toExit a' w') → c.wp P Q a w

theorem Runs.ev (hT : TabOK P T) (hc : CalleeOK P callee) (hmix : P.follows .mixedOrders = true) {c : Code} (hr : regsOk cert c = true) {env env1 env' : Env} {s s' : St HI} {x : Ex} (h : evCode P T callee N cert fuel c env s = some (x, env1, s')) (hl : env'.le env1) : Runs P N c env s x env' s' :=
  fun _ _ _ _ hs ha hK => code_sound hT hc hmix c hr h hs ha (fun κ a' w' p1 p2 p3 => hK κ a' w' p1 p2 (p3.less hl))

theorem Runs.less {c : Code} {e1 e2 e1' e2' : Env} {s s' : St HI} {x : Ex} (h : Runs P N c e1 s x e1' s') (h1 : e1.le e2) (h2 : e2'.le e1') : Runs P N c e2 s x e2' s' :=
  fun ι a w Q hs ha hK => h ι a w Q hs (ha.less h1) (fun κ a' w' p1 p2 p3 => hK κ a' w' p1 p2 (p3.less h2))

theorem Runs.trim {c : Code} {e e' : Env} {s s' : St HI} {x : Ex} (h : Runs P N c e s x e' s') (hk : ∀ b, b < s.next → s'.get b = s.get b) : Runs P N c e s x e' { h := s.h, next := s'.next } :=
  fun ι a w Q hs ha hK => h ι a w Q hs ha (fun κ a' w' p1 p2 p3 => by
    obtain ⟨q1, q2⟩ := trim_ok hs p1 p2 hk
    exact hK κ a' w' q1 q2 p3)

/-- The next number may be taken higher. -/
theorem Runs.more {c : Code} {e e' : Env} {s s' : St HI} {x : Ex} {n : Nat} (h : Runs P N c e s x e' s') (hn : s'.next ≤ n) : Runs P N c e s x e' { h := s'.h, next := n } :=
  fun ι a w Q hs ha hK => h ι a w Q hs ha (fun κ a' w' p1 p2 p3 =>
    hK κ a' w' ⟨p1.le, p1.grow, p1.kept, fun cb hl ho => p1.own cb hl ho, p1.frzo, p1.newid, Nat.le_trans p1.next hn, p1.os, p1.output, p1.tape⟩
      ⟨p2.live, p2.inj, p2.frz, fun b hb => p2.fresh b (Nat.le_trans hn hb), p2.bmap, p2.bsize⟩ p3)

theorem Runs.seq {c d : Code} {e1 e2 e3 : Env} {s1 s2 s3 : St HI} {x : Ex} (h : Runs P N c e1 s1 .normal e2 s2) (h' : Runs P N d e2 s2 x e3 s3) : Runs P N (.seq c d) e1 s1 x e3 s3 :=
  fun ι a w Q hs ha hK => wp_seq (h ι a w _ hs ha (fun κ a' w' p1 p2 p3 => h' κ a' w' Q p2 p3 (fun μ a2 w2 q1 q2 q3 => hK μ a2 w2 (p1.trans q1) q2 q3)))

theorem Runs.seqOut {c d : Code} {e1 e2 : Env} {s1 s2 : St HI} {x : Ex} (hx : x ≠ .normal) (h : Runs P N c e1 s1 x e2 s2) : Runs P N (.seq c d) e1 s1 x e2 s2 :=
  fun ι a w Q hs ha hK => wp_seq (h ι a w _ hs ha (fun κ a' w' p1 p2 p3 => by
    have hk := hK κ a' w' p1 p2 p3
    cases x with
    | normal => exact absurd rfl hx
    | exit i => exact hk
    | ret => exact hk))

def Ex.out (id : Nat) : Ex → Ex
  | .exit i => if i = id then .normal else .exit i
  | x => x

theorem Runs.block {c : Code} {id : Nat} {e1 e2 : Env} {s1 s2 : St HI} {x : Ex} (h : Runs P N c e1 s1 x e2 s2) : Runs P N (.block id c) e1 s1 (x.out id) e2 s2 :=
  fun ι a w Q hs ha hK => wp_block (h ι a w _ hs ha (fun κ a' w' p1 p2 p3 => by
    have hk := hK κ a' w' p1 p2 p3
    cases x with
    | normal => exact hk
    | ret => exact hk
    | exit i =>
      simp only [Ex.out, Ex.toExit, Exit.inBlock] at hk ⊢
      split <;> rename_i h
      · rw [if_pos h] at hk; exact hk
      · rw [if_neg h] at hk; exact hk))

/-- So many rounds, then the one that leaves. -/
theorem Runs.loop {c : Code} {n : Nat} (E : Nat → Env) (S : Nat → St HI) {x : Ex} {e' : Env} {s' : St HI} (hx : x ≠ .normal) (h1 : ∀ i, i < n → Runs P N c (E i) (S i) .normal (E (i + 1)) (S (i + 1))) (h2 : Runs P N c (E n) (S n) x e' s') : Runs P N (.loop c) (E 0) (S 0) x e' s' := by
  intro ι a w Q hs ha hK
  refine wp_loop_n (fun k a1 w1 => ∃ i κ, i + k = n ∧ Stp ι (S 0) w κ (S i) w1 ∧ Sim κ (S i) w1 ∧ RelAct κ (E i) N a1) ?_ (n := n) ⟨0, ι, by omega, .refl _ _ _, hs, ha⟩
  rintro k a1 w1 ⟨i, κ, hik, p1, p2, p3⟩
  by_cases hi : i < n
  · refine h1 i hi κ a1 w1 _ p2 p3 (fun μ a2 w2 q1 q2 q3 => ?_)
    exact ⟨k - 1, by omega, i + 1, μ, by omega, p1.trans q1, q2, q3⟩
  · have : i = n := by omega
    subst this
    refine h2 κ a1 w1 _ p2 p3 (fun μ a2 w2 q1 q2 q3 => ?_)
    have hk := hK μ a2 w2 (p1.trans q1) q2 q3
    cases x with
    | normal => exact absurd rfl hx
    | exit i => exact hk
    | ret => exact hk

/-- A function's contract from its body's run. -/
theorem Runs.call (hT : TabOK P T) {f : Nat} {fn : Func} {c : Code} (hfn : T.func f = some fn) (hb : fn.body = some c) {args : List AV} (hlen : args.length ≤ fn.ntmps) {x : Ex} {env : Env} {s s1 : St HI} {rs : List AV} (hx : x = .normal ∨ x = .ret)
    (h : Runs P fn.ntmps c (argsEnv args) s x env s1) (hrs : resA T env s1 fn.results.toList = some rs) {ι : Emb} {w : World} {vs : List Value} (hr : Rs ι args vs) (hs : Sim ι s w) :
    Calls P f ⟨vs⟩ w fun e w' => ∃ v' κ, e = .returned v' ∧ Stp ι s w κ s1 w' ∧ Sim κ s1 w' ∧ R κ (single rs) v' := by
  have hvl := hr.length
  have ha : RelAct ι (argsEnv args) fn.ntmps { tmps := ⟨vs⟩ ++ Array.replicate (fn.ntmps - (⟨vs⟩ : Array Value).size) undef, defers := [] } := by
    refine ⟨by simp; omega, rfl, fun t u hu => ?_⟩
    unfold argsEnv Env.get at hu
    rw [PT.get_ofList] at hu
    split at hu
    · rename_i hc
      obtain ⟨y, hy, hyr⟩ := hr.get (i := t) (by simpa using hu)
      have hy' : (⟨vs⟩ : Array Value)[t]? = some y := by simpa using hy
      have hts : t < vs.length := (List.getElem?_eq_some_iff.1 hy).1
      rw [Array.getD_eq_getD_getElem?, Array.getElem?_append_left (by simpa using hts), hy']
      exact hyr
    · rw [PT.get_leaf] at hu; cases hu
  refine calls_of_wp (hT.func _ _ hfn).1 hb ?_
  refine h ι _ w _ hs ha (fun κ a' w' p1 p2 p3 => ?_)
  have hrun : ∃ v', (results fn a'.tmps).run P w' = .ok v' w' ∧ R κ (single rs) v' := by
    unfold results
    obtain ⟨us, h1, h2⟩ := results_sound (P := P) hT p2 p3 (g := fun
      | .tmp t => pure (a'.tmps.getD t undef)
      | .cell b t => do loadVar t (← asAddr (a'.tmps.getD b undef))) (fun _ => rfl) (fun _ _ => rfl) fn.results.toList hrs
    have e : fn.results = ⟨fn.results.toList⟩ := rfl
    rw [e]
    refine ⟨_, ?_, single_size h2⟩
    simp only [List.mapM_toArray, Sem.run_bind, Sem.run_map, Sem.run_pure]
    exact congrArg (fun r => Result.andThen (Result.andThen r fun a w' => Result.ok a.toArray w') fun a w' => Result.ok (if h : a.size = 1 then a[0] else Value.tuple a) w') h1
  obtain ⟨v', h3, h4⟩ := hrun
  rcases hx with rfl | rfl
  · exact ⟨p3.defers, v', h3, ⟨v', κ, rfl, p1, p2, h4⟩⟩
  · exact ⟨p3.defers, v', h3, ⟨v', κ, rfl, p1, p2, h4⟩⟩
end
end Go.Am
