/- Long regions in parts. -/
import Derived.Test.YtbjkfbcladkfcaaGreatDoorAmRows
set_option linter.unusedSimpArgs false
set_option linter.unusedVariables false
namespace Go.Am
section
variable {HI : HeapI} {P : Program} {T : Tab} {callee : Callee HI} {N : Nat} {cert : Nat → Option (List Nat)} {fuel : Nat}

theorem evOps_split {ops : Array Oper} : ∀ (n : Nat) (l : List Oper) (env e : Env) (s s' : St HI), evOps P T callee N ops (l.take n) env s = some (e, s') → evOps P T callee N ops l env s = evOps P T callee N ops (l.drop n) e s'
  | 0, l, env, e, s, s', h => by
    simp only [List.take_zero, evOps, Option.some.injEq, Prod.mk.injEq] at h
    obtain ⟨rfl, rfl⟩ := h
    rfl
  | n + 1, [], env, e, s, s', h => by
    simp only [List.take_nil, evOps, Option.some.injEq, Prod.mk.injEq] at h
    obtain ⟨rfl, rfl⟩ := h
    rfl
  | n + 1, o :: l, env, e, s, s', h => by
    simp only [List.take_succ_cons, evOps] at h
    simp only [evOps, List.drop_succ_cons]
    split at h
    · rename_i hd
      rw [if_pos hd]
      split at h
      · split at h
        · exact evOps_split n l _ _ _ _ h
        · cases h
      · exact evOps_split n l _ _ _ _ h
      · cases h
    · cases h

theorem ev_seq {a b : Code} {env e : Env} {s s1 : St HI} {r : Option (Ex × Env × St HI)} (h : evCode P T callee N cert fuel a env s = some (.normal, e, s1)) (h2 : evCode P T callee N cert fuel b e s1 = r) : evCode P T callee N cert fuel (.seq a b) env s = r := by
  simp only [evCode, h, h2]
theorem ev_region {id : Nat} {ops : Array Oper} {env e : Env} {s s' : St HI} (h : evOps P T callee N ops ops.toList env s = some (e, s')) : evCode P T callee N cert fuel (.region id ops false) env s = some (.normal, e, s') := by
  simp only [evCode, evRegion, h]

theorem runD_split {ops : Array Oper} : ∀ (n : Nat) (l : List Oper) (ms : List Nat) (i : Nat) (d d' : DS HI), l.length ≤ ms.length → n ≤ l.length → runD P T callee N ops (l.take n) (ms.take n) i d = some d' → runD P T callee N ops l ms i d = runD P T callee N ops (l.drop n) (ms.drop n) (i + n) d'
  | 0, l, ms, i, d, d', _, _, h => by
    simp only [List.take_zero, runD, Option.some.injEq] at h
    subst h
    rfl
  | n + 1, [], ms, i, d, d', _, hn, h => by simp at hn
  | n + 1, o :: l, [], i, d, d', hl, _, h => by simp at hl
  | n + 1, o :: l, m :: ms, i, d, d', hl, hn, h => by
    simp only [List.take_succ_cons, runD] at h
    simp only [runD, List.drop_succ_cons]
    split at h
    · rename_i d1 hd
      rw [runD_split n l ms (i + 1) d1 d' (by simpa using hl) (by simpa using hn) h, show i + 1 + n = i + (n + 1) by omega]
    · cases h

def noDst (t : Nat) (l : List Oper) : Bool := l.all fun o => match o.dst with
  | some d => !Nat.beq t d
  | none => true
theorem putO_keep {e : Env} {o : Oper} {v : AV} {t : Nat} (h : (match o.dst with
  | some d => !Nat.beq t d
  | none => true) = true) : (e.putO o.dst v).get t = e.get t := by
  cases hd : o.dst with
  | none => rfl
  | some d =>
    rw [hd] at h
    simp only [Bool.not_eq_true'] at h
    simp only [Env.putO, Env.get_put]
    rw [if_neg (fun e => by rw [e, Nat.beq_refl] at h; cases h)]
theorem runD_keep {ops : Array Oper} {t : Nat} : ∀ (l : List Oper) (ms : List Nat) (i : Nat) (d d' : DS HI), noDst t l = true → runD P T callee N ops l ms i d = some d' → d'.env.get t = d.env.get t
  | [], ms, i, d, d', _, h => by
    cases ms <;> (simp only [runD, Option.some.injEq] at h; rw [h])
  | o :: l, [], i, d, d', _, h => by simp [runD] at h
  | o :: l, m :: ms, i, d, d', hn, h => by
    simp only [noDst, List.all_cons, Bool.and_eq_true] at hn
    simp only [runD] at h
    split at h
    · rename_i d1 h1
      rw [runD_keep l ms (i + 1) d1 d' hn.2 h]
      unfold stepD at h1
      split at h1
      · split at h1
        · cases h1; exact putO_keep hn.1
        · split at h1
          · split at h1
            · cases h1; exact putO_keep hn.1
            · cases h1
          · split at h1
            · split at h1
              · cases h1; exact putO_keep hn.1
              · cases h1
            · cases h1
          · split at h1
            · cases h1; exact putO_keep hn.1
            · cases h1
          · split at h1
            · split at h1
              · cases h1; exact putO_keep hn.1
              · cases h1
            · cases h1
        · cases h1
      · cases h1
    · cases h
theorem evOps_keep {ops : Array Oper} {t : Nat} : ∀ (l : List Oper) (e e' : Env) (s s' : St HI), noDst t l = true → evOps P T callee N ops l e s = some (e', s') → e'.get t = e.get t
  | [], e, e', s, s', _, h => by simp only [evOps, Option.some.injEq, Prod.mk.injEq] at h; rw [h.1]
  | o :: l, e, e', s, s', hn, h => by
    simp only [noDst, List.all_cons, Bool.and_eq_true] at hn
    simp only [evOps] at h
    split at h
    · split at h
      · split at h
        · rw [evOps_keep l _ e' _ s' hn.2 h, putO_keep hn.1]
        · cases h
      · rw [evOps_keep l _ e' _ s' hn.2 h, putO_keep hn.1]
      · cases h
    · cases h

/-- A region whose order is fixed, and one that draws its order, as pieces of code. -/
theorem RunP.plain (hT : TabOK P T) (hc : CalleeOK P callee) (hmix : P.follows .mixedOrders = true) {c : Code} {id : Nat} {ops : Array Oper} (hcode : c = .region id ops false) {L L' : List (Nat × AV)} {s s1 : St HI}
    (h : ∀ k0, WF (upN s k0) → ∃ e s', evOps P T callee N ops ops.toList (mk L) (upN s k0) = some (e, s') ∧ Has e L' ∧ Sub s1 s') : RunP P N c L s .normal L' s1 := by
  subst hcode
  refine RunP.ev (cert := fun _ => none) (fuel := 0) hT hc hmix rfl fun k0 hw => ?_
  obtain ⟨e, s', h1, h2, h3⟩ := h k0 hw
  exact ⟨s', ⟨e, by simp only [evCode, evRegion, h1], h2⟩, h3⟩
theorem RunP.draw (hT : TabOK P T) (hc : CalleeOK P callee) (hmix : P.follows .mixedOrders = true) {c : Code} {id : Nat} {ops : Array Oper} {ms : List Nat} (hcode : c = .region id ops true) (hms : cert id = some ms) (hr : regsOk cert c = true) {L L' : List (Nat × AV)} {s s1 : St HI}
    (h : ∀ k0, WF (upN s k0) → ∃ d, runD P T callee N ops ops.toList ms 0 { env := mk L, s := upN s (k0 + ops.size), hist := [], wat := [], pend := [], nid := s.next + k0 } = some d ∧ Has d.env L' ∧ Sub s1 (commit d.pend d.s)) : RunP P N c L s .normal L' s1 := by
  refine RunP.ev (cert := cert) (fuel := 0) hT hc hmix hr fun k0 hw => ?_
  subst hcode
  obtain ⟨d, h1, h2, h3⟩ := h k0 hw
  refine ⟨commit d.pend d.s, ⟨d.env, ?_, h2⟩, h3⟩
  have e : ({ h := (upN s k0).h, next := (upN s k0).next + ops.size } : St HI) = upN s (k0 + ops.size) := by simp [upN, Nat.add_assoc]
  have h1' : runD P T callee N ops ops.toList ms 0 { env := mk L, s := { h := (upN s k0).h, next := (upN s k0).next + ops.size }, hist := [], wat := [], pend := [], nid := (upN s k0).next } = some d := by rw [e]; exact h1
  simp only [evCode, evRegion, hms, evDraw, h1']
end
end Go.Am
