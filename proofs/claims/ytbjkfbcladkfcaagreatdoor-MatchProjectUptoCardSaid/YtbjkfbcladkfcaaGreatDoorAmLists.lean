/- Lists: where two of them differ first; slices of bytes that are carried by value. -/
import Derived.Test.YtbjkfbcladkfcaaGreatDoorAmRuns
set_option linter.unusedSimpArgs false
set_option linter.unusedVariables false
namespace Go.Am

theorem first_diff {α : Type} [DecidableEq α] : ∀ (l m : List α), l.length = m.length → l = m ∨ ∃ (i : Nat) (x y : α), l[i]? = some x ∧ m[i]? = some y ∧ x ≠ y ∧ ∀ j, j < i → l[j]? = m[j]?
  | [], [], _ => .inl rfl
  | x :: l, y :: m, h => by
    by_cases e : x = y
    · subst e
      rcases first_diff l m (by simpa using h) with rfl | ⟨i, u, v, h1, h2, h3, h4⟩
      · exact .inl rfl
      · refine .inr ⟨i + 1, u, v, by simpa using h1, by simpa using h2, h3, fun j hj => ?_⟩
        cases j with
        | zero => rfl
        | succ j => simpa using h4 j (by omega)
    · exact .inr ⟨0, x, y, rfl, rfl, e, fun j hj => by omega⟩

/-- A slice of bytes, carried by value. -/
def IsBytes (B : AV) (bs : List UInt8) : Prop :=
  bs.length < 2 ^ 63 ∧ ((B = .nsl ∧ bs = []) ∨ ∃ cs o cap ex, B = .fsl cs o 1 bs.length cap ex ∧ ∀ (i : Nat) (b : UInt8), bs[i]? = some b → cs[o + i]? = some (.int .u8 (b.toNat : Int)))

theorem IsBytes.len {B : AV} {bs : List UInt8} (h : IsBytes B bs) : sliceLen B = some bs.length := by
  rcases h.2 with ⟨rfl, rfl⟩ | ⟨cs, o, cap, ex, rfl, _⟩ <;> rfl

theorem IsBytes.one {B : AV} {bs bs' : List UInt8} (h : IsBytes B bs) (h' : IsBytes B bs') : bs = bs' := by
  rcases h.2 with ⟨rfl, rfl⟩ | ⟨cs, o, cap, ex, rfl, m⟩
  · rcases h'.2 with ⟨_, rfl⟩ | ⟨_, _, _, _, e, _⟩
    · rfl
    · cases e
  · rcases h'.2 with ⟨e, _⟩ | ⟨_, _, _, _, e, m'⟩
    · cases e
    · simp only [AV.fsl.injEq] at e
      obtain ⟨rfl, rfl, _, hl, _, _⟩ := e
      refine List.ext_getElem hl (fun i h1 h2 => ?_)
      have a := m i bs[i] (by simp [h1])
      have b := m' i bs'[i] (by simp [h2])
      rw [a] at b
      simp only [Option.some.injEq, AV.int.injEq, true_and] at b
      exact UInt8.toNat_inj.1 (by omega)

theorem u8_eq {a b : UInt8} : ltI (a.toNat : Int) (b.toNat : Int) = decide (a < b) ∧ eqI (a.toNat : Int) (b.toNat : Int) = decide (a = b) := by
  constructor
  · rw [ltI_eq]
    simp [UInt8.lt_iff_toNat_lt]
  · rw [eqI_eq, Bool.eq_iff_iff, beq_iff_eq, decide_eq_true_eq]
    constructor
    · intro h
      exact UInt8.toNat_inj.1 (by omega)
    · intro h
      rw [h]
end Go.Am
