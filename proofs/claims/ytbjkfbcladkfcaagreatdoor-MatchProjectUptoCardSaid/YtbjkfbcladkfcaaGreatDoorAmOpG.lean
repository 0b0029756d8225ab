/- The operations are sound: append. -/
import Derived.Test.YtbjkfbcladkfcaaGreatDoorAmOpF
set_option linter.unusedSimpArgs false
set_option linter.unusedVariables false
namespace Go.Am
section
variable {HI : HeapI} {P : Program} {T : Tab}
variable {ι : Emb} {s s' : St HI} {w : World} {v : AV}

theorem growBy_le (need : Nat) : ∀ (r c : Nat), c ≤ need + (need + 768) / 4 → Builtin.growBy need r c ≤ need + (need + 768) / 4
  | 0, c, h => by simpa [Builtin.growBy] using h
  | r + 1, c, h => by
    unfold Builtin.growBy
    split
    · exact h
    · rename_i hc
      exact growBy_le need r _ (by omega)

theorem nextslicecap_le {need cap : Nat} (h : cap < need) : Builtin.nextslicecap need cap ≤ 2 * need + 192 := by
  unfold Builtin.nextslicecap
  split
  · omega
  · split
    · omega
    · have := growBy_le need 4 cap (by omega)
      omega

/-- What append adds. -/
def newCells (zeros : Bool) (elem size n : Nat) (x : Value) : Sem (Array Value) :=
  if !zeros then Builtin.firstCells size n x
  else if n * size = 0 then Pure.pure #[]
  else do Pure.pure (Builtin.zeroCells (← zeroValue elem).cells n)

/-- What is known of the second operand of an append. -/
structure Added (P : Program) (elem : TypeId) (size : Nat) (xT : TypeId) (x : Value) (n : Nat) (zeros : Bool) (w : World) : Prop where
  no : zeros = false → ∃ d, P.underlying xT = some d ∧ (∀ k, d ≠ .int k) ∧ (Builtin.lenOf x).run P w = .ok n w
  yes : zeros = true → ∃ d k m i, P.underlying xT = some (.int d) ∧ x = .int k m ∧ P.info? elem = some i ∧ 0 ≤ m ∧ m ≤ 1048576 ∧ n = m.toNat ∧ i.bytes ≤ 1048576

theorem wrap_small {m : Int} (h0 : 0 ≤ m) (h1 : m ≤ 1048576) : IntKind.i64.wrap m = m := by simp [IntKind.wrap, IntKind.bits, IntKind.signed]; omega
theorem mul_small {m : Int} {b : Nat} (h0 : 0 ≤ m) (h1 : m ≤ 1048576) (hb : b ≤ 1048576) : ¬ (m * (b : Int) > 2 ^ 48) := by
  have h2 : m * (b : Int) ≤ 1048576 * 1048576 := by
    have a1 : m * (b : Int) ≤ 1048576 * (b : Int) := Int.mul_le_mul_of_nonneg_right h1 (by omega)
    omega
  omega

/-- append where there is room. -/
theorem append_room {sT xT ty elem : TypeId} {i : TypeInfo} {x : Value} {n : Nat} {zeros : Bool} {base : Option Addr} {sLen sCap : Nat} {w' : World} {new : Array Value} (hd : P.underlying sT = some (.slice elem)) (hi : P.info? elem = some i)
    (ha : Added P elem i.size xT x n zeros w) (hroom : sLen + n ≤ sCap) (hnew : (newCells zeros elem i.size n x).run P w = .ok new w)
    (hst : (match base with | some a => storeCells (a.add (sLen * i.size)) new.toList | none => Pure.pure () : Sem Unit).run P w = .ok () w') :
    (Builtin.append_ #[sT, xT] ty #[.slice base sLen sCap, x]).run P w = .ok (.slice base (sLen + n) sCap) w' := by
  have hsz : (sizeOf elem).run P w = .ok i.size w := by simp [sizeOf, typeInfo, hi]
  have hti : ∀ w, (typeInfo elem).run P w = .ok i w := fun w => by simp [typeInfo, hi]
  unfold newCells at hnew
  have e0 : (#[sT, xT] : Array TypeId)[0]? = some sT := rfl
  have e1 : (#[sT, xT] : Array TypeId)[1]? = some xT := rfl
  have e2 : (#[Value.slice base sLen sCap, x] : Array Value)[0]? = some (.slice base sLen sCap) := rfl
  have e3 : (#[Value.slice base sLen sCap, x] : Array Value)[1]? = some x := rfl
  have fin : ∀ {v : Sem Value}, (∀ a, base = some a → v = (do storeCells (a.add (sLen * i.size)) new.toList; Pure.pure (.slice base (sLen + n) sCap))) → (base = none → v = Pure.pure (.slice base (sLen + n) sCap)) → v.run P w = .ok (.slice base (sLen + n) sCap) w' := fun {v} h1 h2 => by
    cases base with
    | none =>
      simp only [Sem.run_pure, Result.ok.injEq, true_and] at hst
      subst hst
      rw [h2 rfl]; rfl
    | some a =>
      simp only at hst
      rw [h1 a rfl]
      simp [hst]
  cases zeros with
  | false =>
    obtain ⟨d, hxd, hne, hlen⟩ := ha.no rfl
    simp only [Bool.not_false, if_true] at hnew
    simp only [Builtin.append_, e0, e1, e2, e3, Sem.run_bind, run_underlying hd, Result.andThen_ok, hsz, run_underlying hxd, Sem.run_pure]
    cases d <;> first
      | exact absurd rfl (hne _)
      | (simp only [Bool.false_eq_true, if_false, Sem.run_bind, hlen, Result.andThen_ok, if_pos hroom, Bool.not_false, if_true, hnew]
         exact fin (fun a e => by subst e; rfl) (fun e => by subst e; rfl))
  | true =>
    obtain ⟨d, k, m, i', hxd, rfl, hi', h0, h1, rfl, hb⟩ := ha.yes rfl
    rw [hi] at hi'; cases hi'
    simp only [Bool.not_true, Bool.false_eq_true, if_false] at hnew
    have hn : ¬ (m < 0) := by omega
    simp only [Builtin.append_, e0, e1, e2, e3, Sem.run_bind, run_underlying hd, Result.andThen_ok, hsz, run_underlying hxd, Sem.run_pure, if_true, asInt, asIntOf, wrap_small h0 h1, if_neg hn, hti, if_neg (mul_small h0 h1 hb), if_pos hroom,
      Bool.not_true, Bool.false_eq_true, if_false]
    rw [hnew]
    simp only [Result.andThen_ok]
    exact fin (fun a e => by subst e; rfl) (fun e => by subst e; rfl)

def grown (w : World) (need cap : Nat) (elem : TypeId) : Nat := (Question.appendCap need cap elem).cut (w.tape w.drawn (.appendCap need cap elem))
theorem grown_ge (w : World) (need cap : Nat) (elem : TypeId) : need ≤ grown w need cap elem := by simp [grown, Question.cut]

/-- append where there is none. -/
theorem append_grow {sT xT ty elem : TypeId} {i : TypeInfo} {zv : Value} {x : Value} {n : Nat} {zeros : Bool} {base : Option Addr} {sLen sCap : Nat} {old new : Array Value} (hd : P.underlying sT = some (.slice elem)) (hi : P.info? elem = some i) (hz : i.zero = some zv)
    (ha : Added P elem i.size xT x n zeros w) (hroom : ¬ sLen + n ≤ sCap) (hb : (2 * (sLen + n) + 192) * i.bytes ≤ 2 ^ 48) (hb0 : 0 < i.bytes)
    (hold : (Builtin.firstCells i.size sLen (.slice base sLen sCap)).run P { w with drawn := w.drawn + 1 } = .ok old { w with drawn := w.drawn + 1 })
    (hnew : (newCells zeros elem i.size n x).run P { w with drawn := w.drawn + 1 } = .ok new { w with drawn := w.drawn + 1 }) :
    (Builtin.append_ #[sT, xT] ty #[.slice base sLen sCap, x]).run P w = .ok (.slice (some ⟨w.heap.size, 0, none⟩) (sLen + n) (grown w (sLen + n) sCap elem))
      (World.push { w with drawn := w.drawn + 1 } (.cells (old ++ new ++ Builtin.zeroCells zv.cells (grown w (sLen + n) sCap elem - (sLen + n))) elem)) := by
  have hsz : (sizeOf elem).run P w = .ok i.size w := by simp [sizeOf, typeInfo, hi]
  have hti : ∀ w, (typeInfo elem).run P w = .ok i w := fun w => by simp [typeInfo, hi]
  have hzv : ∀ w, (zeroValue elem).run P w = .ok zv w := fun w => by simp [zeroValue, typeInfo, hi, hz]
  unfold newCells at hnew
  have e0 : (#[sT, xT] : Array TypeId)[0]? = some sT := rfl
  have e1 : (#[sT, xT] : Array TypeId)[1]? = some xT := rfl
  have e2 : (#[Value.slice base sLen sCap, x] : Array Value)[0]? = some (.slice base sLen sCap) := rfl
  have e3 : (#[Value.slice base sLen sCap, x] : Array Value)[1]? = some x := rfl
  have hbig : ∀ z : Bool, ¬ (((sLen + n : Nat) : Int) > IntKind.i64.max ∧ (z = true ∨ i.bytes = 0)) := by
    intro z h
    have h1 : 2 * (sLen + n) + 192 ≤ (2 * (sLen + n) + 192) * i.bytes := Nat.le_mul_of_pos_right _ hb0
    have h2 : IntKind.i64.max = 9223372036854775807 := by decide
    have := h.1
    omega
  have hcap : ¬ (Builtin.nextslicecap (sLen + n) sCap * i.bytes > 2 ^ 48) := by
    have h1 := nextslicecap_le (need := sLen + n) (cap := sCap) (by omega)
    have h2 := Nat.mul_le_mul_right i.bytes h1
    omega
  have hf : (Question.appendCap (sLen + n) sCap elem).forced = false := rfl
  cases zeros with
  | false =>
    obtain ⟨d, hxd, hne, hlen⟩ := ha.no rfl
    simp only [Bool.not_false, if_true] at hnew
    have hbig' := hbig false
    simp only [Bool.false_eq_true, false_or] at hbig'
    simp only [Builtin.append_, e0, e1, e2, e3, Sem.run_bind, run_underlying hd, Result.andThen_ok, hsz, run_underlying hxd, Sem.run_pure]
    cases d <;> first
      | exact absurd rfl (hne _)
      | (simp only [Bool.false_eq_true, if_false, Sem.run_bind, hlen, Result.andThen_ok, if_neg hroom, Bool.not_false, if_true, hti, false_or, if_neg hbig', if_neg hcap, run_choose, hf, run_askRoom, hold, hnew, hzv, run_newRow, Sem.run_pure]
         rfl)
  | true =>
    obtain ⟨d, k, m, i', hxd, rfl, hi', h0, h1, rfl, hbb⟩ := ha.yes rfl
    rw [hi] at hi'; cases hi'
    simp only [Bool.not_true, Bool.false_eq_true, if_false] at hnew
    have hbig' := hbig true
    simp only [true_or, and_true] at hbig'
    have hn : ¬ (m < 0) := by omega
    simp only [Builtin.append_, e0, e1, e2, e3, Sem.run_bind, run_underlying hd, Result.andThen_ok, hsz, run_underlying hxd, Sem.run_pure, if_true, asInt, asIntOf, wrap_small h0 h1, if_neg hn, hti, if_neg (mul_small h0 h1 hbb), if_neg hroom,
      true_or, and_true, if_neg hbig', if_neg hcap, run_choose, hf, Bool.false_eq_true, if_false, run_askRoom, hold, Bool.not_true]
    rw [hnew]
    simp only [Result.andThen_ok, hzv, run_newRow, Sem.run_pure]
    rfl
end
end Go.Am
