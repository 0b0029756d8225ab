/- One function's run; garbage; closed runs. -/
import Derived.Test.YtbjkfbcladkfcaaGreatDoorAmTabG
set_option linter.unusedSimpArgs false
set_option linter.unusedVariables false
namespace Go.Am
section
variable {HI : HeapI} {P : Program} {T : Tab} {callee : Callee HI} {fuel : Nat} {cert : Nat → Option (List Nat)}

theorem call_sound (hT : TabOK P T) (hc : CalleeOK P callee) (hmix : P.follows .mixedOrders = true) {f : Nat} {fn : Func} {c : Code} (hfn : T.func f = some fn) (hb : fn.body = some c) (hreg : regsOk cert c = true) {args : List AV} (hlen : args.length ≤ fn.ntmps)
    {e : Ex} {env : Env} {s s1 : St HI} {rs : List AV} (he : e = .normal ∨ e = .ret) (hev : evCode P T callee fn.ntmps cert fuel c (argsEnv args) s = some (e, env, s1)) (hrs : resA T env s1 fn.results.toList = some rs)
    {ι : Emb} {w : World} {vs : List Value} (hr : Rs ι args vs) (hs : Sim ι s w) :
    Calls P f ⟨vs⟩ w fun e w' => ∃ v' κ, e = .returned v' ∧ Stp ι s w κ s1 w' ∧ Sim κ s1 w' ∧ R κ (single rs) v' := by
  have hvl := hr.length
  have ha : RelAct ι (argsEnv args) fn.ntmps { tmps := ⟨vs⟩ ++ Array.replicate (fn.ntmps - (⟨vs⟩ : Array Value).size) undef, defers := [] } := by
    refine ⟨by simp; omega, rfl, fun t u hu => ?_⟩
    unfold argsEnv Env.get at hu
    rw [PT.get_ofList] at hu
    split at hu
    · rename_i hc
      obtain ⟨y, hy, hyr⟩ := hr.get (i := t) (by simpa using hu)
      have hy' : (⟨vs⟩ : Array Value)[t]? = some y := by simpa using hy
      have hts : t < vs.length := (List.getElem?_eq_some_iff.1 hy).1
      rw [Array.getD_eq_getD_getElem?, Array.getElem?_append_left (by simpa using hts), hy']
      exact hyr
    · rw [PT.get_leaf] at hu; cases hu
  refine calls_of_wp (hT.func _ _ hfn).1 hb ?_
  refine code_sound hT hc hmix c hreg hev hs ha (fun κ a' w' p1 p2 p3 => ?_)
  have hrun : ∃ v', (results fn a'.tmps).run P w' = .ok v' w' ∧ R κ (single rs) v' := by
    unfold results
    obtain ⟨us, h1, h2⟩ := results_sound (P := P) hT p2 p3 (g := fun
      | .tmp t => pure (a'.tmps.getD t undef)
      | .cell b t => do loadVar t (← asAddr (a'.tmps.getD b undef))) (fun _ => rfl) (fun _ _ => rfl) fn.results.toList hrs
    have e : fn.results = ⟨fn.results.toList⟩ := rfl
    rw [e]
    refine ⟨_, ?_, single_size h2⟩
    simp only [List.mapM_toArray, Sem.run_bind, Sem.run_map, Sem.run_pure]
    exact congrArg (fun r => Result.andThen (Result.andThen r fun a w' => Result.ok a.toArray w') fun a w' => Result.ok (if h : a.size = 1 then a[0] else Value.tuple a) w') h1
  obtain ⟨v', h3, h4⟩ := hrun
  rcases he with rfl | rfl
  · exact ⟨p3.defers, v', h3, ⟨v', κ, rfl, p1, p2, h4⟩⟩
  · exact ⟨p3.defers, v', h3, ⟨v', κ, rfl, p1, p2, h4⟩⟩

/-- The new blocks are forgotten. -/
theorem trim_ok {ι κ : Emb} {s s' : St HI} {w w' : World} (hs : Sim ι s w) (h : Stp ι s w κ s' w') (hs' : Sim κ s' w') (hk : ∀ b, b < s.next → s'.get b = s.get b) :
    Stp ι s w κ { h := s.h, next := s'.next } w' ∧ Sim κ { h := s.h, next := s'.next } w' := by
  have sub : ∀ b x, (({ h := s.h, next := s'.next } : St HI)).get b = some x → s'.get b = some x := fun b x hb => by
    have hb' : s.get b = some x := hb
    have hlt : b < s.next := Nat.lt_of_not_le fun hge => by rw [hs.notLive hge] at hb'; cases hb'
    rw [hk b hlt]; exact hb'
  refine ⟨⟨h.le, h.grow, h.kept, fun cb hl ho b x base hb => h.own cb hl ho b x base (sub b x hb), h.frzo, h.newid, h.next, h.os, h.output, h.tape⟩,
    ⟨fun b x hb => hs'.live b x (sub b x hb), fun b b' x x' cb base base' hb hb' => hs'.inj b b' x x' cb base base' (sub b x hb) (sub b' x' hb'), hs'.frz, hs'.fresh, hs'.bmap, hs'.bsize⟩⟩


def embNone : Emb := { map := fun _ => none, frz := fun _ _ => none, size := fun _ => none }
end

theorem sim_none {w : World} : Sim (HI := heapPT) embNone { h := PT.leaf, next := 0 } w := by
  refine ⟨fun b x h => ?_, fun b b' x x' cb base base' h => ?_, fun cb o v h => by simp [embNone] at h, fun b _ => rfl, fun b cb base h => by simp [embNone] at h, fun cb n h => by simp [embNone] at h⟩
  · have : PT.get PT.leaf (bits b) = some x := h
    rw [PT.get_leaf] at this; cases this
  · have : PT.get PT.leaf (bits b) = some x := h
    rw [PT.get_leaf] at this; cases this

/-- What is run from nothing runs so from anything. -/
theorem closed_ok {P : Program} {HI : HeapI} {callee : Callee heapPT} (hc : CalleeOK P callee) {f : Nat} {args : List AV} {v : AV} {s1 : St heapPT} (hev : callee f args { h := PT.leaf, next := 0 } = some (v, s1)) (hargs : ∀ ι vs, Rs ι args vs → Rs embNone args vs) (hv : ∀ ι κ v', R ι v v' → R κ v v')
    {ι : Emb} {s : St HI} {w : World} {vs : List Value} (hr : Rs ι args vs) (hs : Sim ι s w) :
    Calls P f ⟨vs⟩ w fun e w' => ∃ v' κ, e = .returned v' ∧ Stp ι s w κ s w' ∧ Sim κ s w' ∧ R κ v v' := by
  refine (hc f args _ v s1 hev embNone w vs (hargs ι vs hr) sim_none).mono fun e w' he => ?_
  obtain ⟨v', κ, rfl, h1, h2, h3⟩ := he
  have off : ∀ cb, Off (HI := heapPT) embNone { h := PT.leaf, next := 0 } cb := fun cb b x base hb => by
    have : PT.get PT.leaf (bits b) = some x := hb
    rw [PT.get_leaf] at this; cases this
  have kept : ∀ cb, cb < w.heap.size → w'.heap[cb]? = w.heap[cb]? := fun cb hl => h1.kept cb hl (off cb)
  refine ⟨v', ι, rfl, ⟨.refl _, h1.grow, fun cb hl _ => kept cb hl, fun _ _ h => h, fun _ _ _ h _ _ => h, fun _ _ => rfl, Nat.le_refl _, h1.os, h1.output, h1.tape⟩, ⟨fun b x hb => ?_, hs.inj, fun cb o y hy => ?_, hs.fresh, fun b cb base h => Nat.lt_of_lt_of_le (hs.bmap b cb base h) h1.grow, fun cb n h => Nat.lt_of_lt_of_le (hs.bsize cb n h) h1.grow⟩, hv _ _ _ h3⟩
  · obtain ⟨cb, base, p1, p2, p3⟩ := hs.live b x hb
    exact ⟨cb, base, p1, p2.mono (.refl _) (kept cb p2.lt), p3⟩
  · have := hs.frz cb o y hy
    unfold World.cell? at this ⊢
    rw [kept cb (hs.bfrz hy)]
    exact this
end Go.Am
