/- Tables of the abstract machine, from a program's lists; what a closed run says of any run. -/
import Derived.Test.YtbjkfbcladkfcaaGreatDoorAmCode
set_option linter.unusedSimpArgs false
set_option linter.unusedVariables false
namespace Go.Am

def PT.putS {α : Type} (x : Option α) (i : Nat) (t : PT α) : PT α :=
  match x with
  | some y => PT.put (some y) (bits i) t
  | none => t

def PT.ofListO {α : Type} : List (Option α) → Nat → PT α → PT α
  | [], _, t => t
  | x :: xs, i, t => PT.ofListO xs (i + 1) (PT.putS x i t)

theorem PT.get_ofListO {α : Type} : ∀ (l : List (Option α)) (i : Nat) (t : PT α) (j : Nat) (x : α), (∀ j, i ≤ j → t.get (bits j) = none) → (PT.ofListO l i t).get (bits j) = some x → (i ≤ j ∧ l[j - i]? = some (some x)) ∨ t.get (bits j) = some x
  | [], i, t, j, x, _, h => .inr h
  | y :: ys, i, t, j, x, hn, h => by
    simp only [PT.ofListO] at h
    have hn' : ∀ j, i + 1 ≤ j → (PT.putS y i t).get (bits j) = none := by
      intro k hk
      cases y with
      | none => exact hn k (by omega)
      | some y =>
        simp only [PT.putS, PT.get_put]
        rw [if_neg (fun e => by have := bits_inj e; omega)]
        exact hn k (by omega)
    rcases PT.get_ofListO ys (i + 1) _ j x hn' h with ⟨h1, h2⟩ | h1
    · refine .inl ⟨by omega, ?_⟩
      have e : j - i = (j - (i + 1)) + 1 := by omega
      rw [e, List.getElem?_cons_succ]
      exact h2
    · cases y with
      | none => exact .inr h1
      | some y =>
        simp only [PT.putS, PT.get_put] at h1
        split at h1
        · rename_i e
          have := bits_inj e
          subst this
          refine .inl ⟨Nat.le_refl _, ?_⟩
          simp
          exact Option.some.inj h1
        · exact .inr h1

def funcIn (f : Func) : Option Func := if f.body.isSome && !(f.name == "runtime.NumGoroutine") then some f else none

theorem tabOK_of {P : Program} {it : PT TypeInfo} {ut : PT TypeDesc} {ft : PT Func}
    (hi : it = PT.ofListO (P.types.toList.map some) 0 .leaf) (hu : ut = PT.ofListO ((List.range P.types.size).map P.underlying) 0 .leaf)
    (hf : ft = PT.ofListO (P.funcs.toList.map funcIn) 0 .leaf) : TabOK P { info := fun t => it.get (bits t), und := fun t => ut.get (bits t), func := fun f => ft.get (bits f) } where
  info t i h := by
    subst hi
    rcases PT.get_ofListO _ 0 .leaf t i (fun j _ => PT.get_leaf _) h with ⟨_, h1⟩ | h1
    · simp at h1
      have h2 : P.types[t]? = some i := by simpa using h1
      simp only [Tables.info?, (Array.getElem?_eq_some_iff.1 h2).1, if_true, h2]
    · rw [PT.get_leaf] at h1; cases h1
  und t d h := by
    subst hu
    rcases PT.get_ofListO _ 0 .leaf t d (fun j _ => PT.get_leaf _) h with ⟨_, h1⟩ | h1
    · simp only [Nat.sub_zero, List.getElem?_map, Option.map_eq_some_iff] at h1
      obtain ⟨u, h2, h3⟩ := h1
      rw [List.getElem?_range] at h2
      · cases h2; exact h3
      · refine Decidable.byContradiction fun hn => ?_
        rw [List.getElem?_eq_none (by simpa using Nat.le_of_not_lt hn)] at h2
        cases h2
    · rw [PT.get_leaf] at h1; cases h1
  func f x h := by
    subst hf
    rcases PT.get_ofListO _ 0 .leaf f x (fun j _ => PT.get_leaf _) h with ⟨_, h1⟩ | h1
    · simp only [Nat.sub_zero, List.getElem?_map, Option.map_eq_some_iff] at h1
      obtain ⟨y, h2, h3⟩ := h1
      unfold funcIn at h3
      split at h3
      · rename_i hc
        cases h3
        rw [Bool.and_eq_true] at hc
        exact ⟨by simpa using h2, hc.1, by simpa using hc.2⟩
      · cases h3
    · rw [PT.get_leaf] at h1; cases h1

/-- The check of every function's certificate. -/
def certsOk (certs : Nat → Nat → Option (List Nat)) : List Func → Nat → Bool
  | [], _ => true
  | f :: fs, i => (match f.body with
    | some c => regsOk (certs i) c
    | none => true) && certsOk certs fs (i + 1)

theorem certsOk_get {certs : Nat → Nat → Option (List Nat)} : ∀ (fs : List Func) (i : Nat), certsOk certs fs i = true → ∀ j fn c, fs[j]? = some fn → fn.body = some c → regsOk (certs (i + j)) c = true
  | [], _, _, j, fn, c, h, _ => by simp at h
  | f :: fs, i, h, j, fn, c, hj, hb => by
    simp only [certsOk, Bool.and_eq_true] at h
    cases j with
    | zero =>
      simp at hj
      subst hj
      have := h.1
      rw [hb] at this
      exact this
    | succ j =>
      have := certsOk_get fs (i + 1) h.2 j fn c (by simpa using hj) hb
      rw [show i + (j + 1) = i + 1 + j by omega]
      exact this
end Go.Am
