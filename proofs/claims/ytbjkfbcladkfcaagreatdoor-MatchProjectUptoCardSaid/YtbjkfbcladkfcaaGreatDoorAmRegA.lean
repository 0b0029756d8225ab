/- A region that draws its order: what the run in the text's order shows. -/
import Derived.Test.YtbjkfbcladkfcaaGreatDoorAmRegDef
set_option linter.unusedSimpArgs false
set_option linter.unusedVariables false
namespace Go.Am
section
variable {HI : HeapI} {P : Program} {T : Tab} {callee : Callee HI} {N : Nat}

theorem pure_any {o : Oper} {ρ : Operand → Option AV} {s s' : St HI} {v : AV} (hc : clsOf o = .pure) (h : evOp P T callee o ρ s = some (v, s')) : ∀ s2 : St HI, evOp P T callee o ρ s2 = some (v, s2) := by
  have pur : ∀ {x : Option AV}, (match x with | some v => some (v, s) | none => none) = some (v, s') → ∀ s2 : St HI, (match x with | some v => some (v, s2) | none => none : Option (AV × St HI)) = some (v, s2) := by
    intro x hx s2
    cases x with
    | none => cases hx
    | some u => cases hx; rfl
  obtain ⟨dst, op, type, pos, after, guard⟩ := o
  intro s2
  cases op <;> simp only [clsOf, reduceCtorEq] at hc
  case makeMap t r => cases r <;> simp only [clsOf, reduceCtorEq] at hc
  case move x => simp only [evOp] at h ⊢; exact pur h s2
  case assign x => simp only [evOp] at h ⊢; exact pur h s2
  case pick c a b =>
    simp only [evOp] at h ⊢
    split at h
    · exact pur h s2
    · exact pur h s2
    · cases h
  case nilCheck x =>
    simp only [evOp] at h ⊢
    split at h <;> first | (cases h; simp only [*]) | cases h
  case unOp op t x =>
    cases op <;> simp only [evOp] at h ⊢ <;> first | cases h | (split at h <;> first | (cases h; simp only [*]) | cases h)
  case makeInterface t x =>
    simp only [evOp] at h ⊢
    split at h
    · cases h
    · split at h
      · cases h; simp only [*]
      · cases h
    · cases h
  case makeFunc fn a b =>
    cases fn <;> simp only [evOp] at h ⊢ <;> first | cases h | (split at h <;> first | (cases h; simp only [*]) | cases h)
  case extract x i =>
    simp only [evOp] at h ⊢
    split at h
    · exact pur h s2
    · cases h
  case fieldAddr t x i =>
    simp only [evOp] at h ⊢
    split at h
    · split at h
      · split at h
        · cases h
        · split at h <;> first | (cases h; simp only [*, if_false]) | cases h
      · cases h
    · cases h
  case field t x i =>
    simp only [evOp] at h ⊢
    split at h
    · exact pur h s2
    · cases h
  case indexAddr t x i =>
    simp only [evOp] at h ⊢
    split at h
    · exact pur h s2
    · cases h
  case index t x i =>
    simp only [evOp] at h ⊢
    split at h
    · rename_i e1 e2 e3
      split at h
      · rename_i e4
        split at h
        · rename_i hc
          rw [if_pos hc]; exact pur h s2
        · cases h
      · cases h
    · rename_i e1 e2 e3
      split at h
      · rename_i hc
        split at h
        · rename_i e4
          cases h; first | rfl | simp only [e1, e2, e3, if_pos hc, e4]
        · cases h
      · cases h
    · cases h
  case typeAssert x t a ok =>
    simp only [evOp] at h ⊢
    split at h
    · cases h
    · split at h
      · cases h; simp only [*, if_true]
      · split at h
        · split at h
          · cases h; simp only [*, if_true, if_false]
          · cases h
        · cases h
    · split at h
      · split at h
        · cases h; simp only [*, if_true]
        · cases h
      · cases h
    · cases h
  case binOp op t x y yt =>
    simp only [evOp] at h ⊢
    split at h
    · rename_i e1 e2
      split at h
      · rename_i hk
        rw [if_pos hk]; exact pur h s2
      · cases h
    · split at h
      · split at h
        · rename_i hk
          rw [if_pos hk]
          split at h <;> first | (cases h; rfl) | cases h
        · cases h
      · exact pur h s2
    · cases h
  case call c =>
    exfalso
    split at hc <;> cases hc
  case build t ps =>
    simp only [evOp] at h ⊢
    split at h
    · split at h
      · split at h
        · split at h
          · cases h; simp only [*, if_true]
          · cases h
        · cases h
      · split at h
        · split at h
          · cases h; simp only [*]
          · cases h
        · cases h
      · cases h
    · cases h

theorem builtin_same {b : Builtin} {ats : Array TypeId} {args : List AV} {s s' : St HI} {v : AV} (hb : b = .len ∨ b = .cap ∨ b = .min ∨ b = .max) (h : evBuiltin P T b ats args s = some (v, s')) : s' = s := by
  unfold evBuiltin at h
  split at h
  · split at h
    · split at h
      · cases h; rfl
      · cases h
    · split at h
      · cases h; rfl
      · split at h
        · cases h; rfl
        · cases h
      · cases h
    · split at h
      · cases h; rfl
      · cases h
    · cases h; rfl
    · cases h
  · split at h
    · split at h
      · cases h; rfl
      · cases h; rfl
      · cases h; rfl
      · cases h
    · cases h
  · simp at hb
  · simp at hb
  · simp at hb
  · simp at hb
  · cases h; rfl
  · cases h; rfl
  · cases h

theorem read_same {o : Oper} {ρ : Operand → Option AV} {s s' : St HI} {v : AV} (hc : clsOf o = .read) (h : evOp P T callee o ρ s = some (v, s')) : s' = s := by
  have pur : ∀ {x : Option AV}, (match x with | some v => some (v, s) | none => none) = some (v, s') → s' = s := fun hx => (pur_some hx).2
  obtain ⟨dst, op, type, pos, after, guard⟩ := o
  cases op <;> simp only [clsOf, reduceCtorEq] at hc
  case makeMap t r => cases r <;> simp only [clsOf, reduceCtorEq] at hc
  case load t x => simp only [evOp] at h; split at h <;> first | exact pur h | cases h
  case lookup t m k ok => simp only [evOp] at h; split at h <;> first | exact pur h | cases h
  case convert a b x =>
    simp only [evOp] at h
    split at h
    · cases h; rfl
    · split at h
      · split at h
        · split at h
          · cases h; rfl
          · cases h
        · cases h
      · cases h
    · cases h; rfl
    · cases h
  case slice t x lo hi mx =>
    simp only [evOp] at h
    split at h
    · exact pur h
    · split at h
      · split at h
        · exact pur h
        · exact pur h
        · cases h
      · cases h
    · cases h
  case call c =>
    obtain ⟨cal, args, ats⟩ := c
    simp only [evOp, evCall] at h
    split at h
    · cases h
    · cases cal <;> simp only [reduceCtorEq] at hc
      case builtin b =>
        refine builtin_same ?_ h
        split at hc <;> first | (rename_i e; cases e; simp; done) | (cases hc; done)

end
end Go.Am
