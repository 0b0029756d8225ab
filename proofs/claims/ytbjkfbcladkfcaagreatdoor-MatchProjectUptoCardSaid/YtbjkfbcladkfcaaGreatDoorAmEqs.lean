/- What '==' and '!=' answer of strings, of Booleans; what conversions of bytes give. -/
import Derived.Test.YtbjkfbcladkfcaaGreatDoorAmGo
import Derived.ChangeKeysEq
set_option linter.unusedSimpArgs false
set_option linter.unusedVariables false
namespace Go.Am
section
variable {HI : HeapI} {P : Program} {ρ : Operand → Option AV}

theorem evQ_bin {op : BinOp} {t rt : TypeId} {x y : Operand} {d : Option Nat} {ty : TypeId} {ps : String} {af : Array Edge} {g : Option (Nat × Bool)} {u v : AV} {a b : Value} (hx : ρ x = some u) (hy : ρ y = some v) (hu : u.toV = some a) (hv : v.toV = some b) {w : Value} {z : AV}
    (hb : (do eqGuard op t x y a b; binOp op t a b : Sem Value).quiet P = some w) (hz : ofV w = some z) :
    evQ P { dst := d, op := .binOp op t x y rt, type := ty, pos := ps, after := af, guard := g } ρ = some z := by
  have px : plainVals ρ x = some a := by simp [plainVals, hx, hu]
  have py : plainVals ρ y = some b := by simp [plainVals, hy, hv]
  have q : ∀ s : Sem Value, (do pure (.value (← s)) : Sem Next).quiet P = (s.quiet P).map .value := by
    intro s
    induction s with
    | pure a => rfl
    | program k ih => exact ih P
    | _ => rfl
  unfold evQ
  rw [if_pos (by simp [Op.operands, px, py])]
  simp only [execOp, px, py, Option.getD_some]
  rw [q, hb]
  exact hz

/-- An operator on values that bear no address. -/
def evB (P : Program) (op : BinOp) (t : TypeId) (x y : Operand) (u v : AV) : Option AV :=
  match u.toV, v.toV with
  | some a, some b => match (do eqGuard op t x y a b; binOp op t a b : Sem Value).quiet P with
    | some w => ofV w
    | none => none
  | _, _ => none
theorem evQ_evB {op : BinOp} {t rt : TypeId} {x y : Operand} {d : Option Nat} {ty : TypeId} {ps : String} {af : Array Edge} {g : Option (Nat × Bool)} :
    evQ P { dst := d, op := .binOp op t x y rt, type := ty, pos := ps, after := af, guard := g } ρ = match ρ x, ρ y with
      | some u, some v => evB P op t x y u v
      | _, _ => none := by
  have q : ∀ s : Sem Value, (do pure (.value (← s)) : Sem Next).quiet P = (s.quiet P).map .value := by
    intro s
    induction s with
    | pure a => rfl
    | program k ih => exact ih P
    | _ => rfl
  cases hx : ρ x with
  | none => simp [evQ, Op.operands, plainVals, hx]
  | some u =>
    cases hy : ρ y with
    | none => simp [evQ, Op.operands, plainVals, hx, hy]
    | some v =>
      cases hu : u.toV with
      | none => simp [evQ, Op.operands, plainVals, hx, hy, hu, evB]
      | some a =>
        cases hv : v.toV with
        | none => simp [evQ, Op.operands, plainVals, hx, hy, hu, hv, evB]
        | some b =>
          have px : plainVals ρ x = some a := by simp [plainVals, hx, hu]
          have py : plainVals ρ y = some b := by simp [plainVals, hy, hv]
          unfold evQ
          rw [if_pos (by simp [Op.operands, px, py])]
          simp only [execOp, px, py, Option.getD_some, evB, hu, hv]
          rw [q]
          cases (do eqGuard op t x y a b; binOp op t a b : Sem Value).quiet P <;> rfl
theorem evB_eqStr {t : TypeId} {x y : Operand} {a b : ByteArray} : evB P .eql t x y (.string a) (.string b) = some (.bool (decide (a.data.toList = b.data.toList))) := by
  have e : (do eqGuard .eql t x y (.string a) (.string b); binOp .eql t (.string a) (.string b) : Sem Value) = pure (.bool (a.toList == b.toList)) := by
    simp [eqGuard, binOp, Op.stringOp]
  simp only [evB, AV.toV, e]
  rw [← ByteArray.toList_eq, ← ByteArray.toList_eq, show (a.toList == b.toList) = decide (a.toList = b.toList) by rw [Bool.eq_iff_iff]; simp]
  rfl
theorem evB_neStr {t : TypeId} {x y : Operand} {a b : ByteArray} : evB P .neq t x y (.string a) (.string b) = some (.bool (!decide (a.data.toList = b.data.toList))) := by
  have e : (do eqGuard .neq t x y (.string a) (.string b); binOp .neq t (.string a) (.string b) : Sem Value) = pure (.bool !(a.toList == b.toList)) := by
    simp [eqGuard, binOp, Op.stringOp]
  simp only [evB, AV.toV, e]
  rw [← ByteArray.toList_eq, ← ByteArray.toList_eq, show (a.toList == b.toList) = decide (a.toList = b.toList) by rw [Bool.eq_iff_iff]; simp]
  rfl

theorem evQ_eqStr {t rt : TypeId} {x y : Operand} {d : Option Nat} {ty : TypeId} {ps : String} {af : Array Edge} {g : Option (Nat × Bool)} {a b : ByteArray} (hx : ρ x = some (.string a)) (hy : ρ y = some (.string b)) :
    evQ P { dst := d, op := .binOp .eql t x y rt, type := ty, pos := ps, after := af, guard := g } ρ = some (.bool (decide (a.data.toList = b.data.toList))) := by
  refine evQ_bin hx hy rfl rfl (w := .bool (decide (a.data.toList = b.data.toList))) ?_ rfl
  rw [← ByteArray.toList_eq, ← ByteArray.toList_eq]
  have e : (do eqGuard .eql t x y (.string a) (.string b); binOp .eql t (.string a) (.string b) : Sem Value) = pure (.bool (a.toList == b.toList)) := by
    simp [eqGuard, binOp, Op.stringOp]
  rw [e, show (a.toList == b.toList) = decide (a.toList = b.toList) by rw [Bool.eq_iff_iff]; simp]
  rfl
theorem evQ_neStr {t rt : TypeId} {x y : Operand} {d : Option Nat} {ty : TypeId} {ps : String} {af : Array Edge} {g : Option (Nat × Bool)} {a b : ByteArray} (hx : ρ x = some (.string a)) (hy : ρ y = some (.string b)) :
    evQ P { dst := d, op := .binOp .neq t x y rt, type := ty, pos := ps, after := af, guard := g } ρ = some (.bool (!decide (a.data.toList = b.data.toList))) := by
  refine evQ_bin hx hy rfl rfl (w := .bool (!decide (a.data.toList = b.data.toList))) ?_ rfl
  rw [← ByteArray.toList_eq, ← ByteArray.toList_eq]
  have e : (do eqGuard .neq t x y (.string a) (.string b); binOp .neq t (.string a) (.string b) : Sem Value) = pure (.bool !(a.toList == b.toList)) := by
    simp [eqGuard, binOp, Op.stringOp]
  rw [e, show (a.toList == b.toList) = decide (a.toList = b.toList) by rw [Bool.eq_iff_iff]; simp]
  rfl

/-! ### bytes -/
theorem bytesOf_map : ∀ (bs : List UInt8), bytesOf (bs.map fun b => .int .u8 (b.toNat : Int)) = some bs
  | [] => rfl
  | b :: bs => by simp [bytesOf, bytesOf_map bs]

theorem IsBytes.cells {B : AV} {bs : List UInt8} (h : IsBytes B bs) (s : St HI) : sliceCells s 1 bs.length B = some (bs.map fun b => .int .u8 (b.toNat : Int)) := by
  rcases h.2 with ⟨rfl, rfl⟩ | ⟨cs, o, cap, ex, rfl, m⟩
  · rfl
  · by_cases hn : bs.length = 0
    · have : bs = [] := List.eq_nil_of_length_eq_zero hn
      subst this
      rfl
    · have hlast := m (bs.length - 1) (bs[bs.length - 1]'(by omega)) (by simp)
      have hlt := (List.getElem?_eq_some_iff.1 hlast).1
      simp only [sliceCells, hn, if_false, Nat.mul_one, Nat.le_refl, true_and]
      rw [if_pos (by omega)]
      congr 1
      refine List.ext_getElem? (fun i => ?_)
      rw [List.getElem?_take, List.getElem?_map]
      split
      · rename_i hi
        rw [List.getElem?_drop, m i bs[i] (by simp [hi])]
        simp [hi]
      · rename_i hi
        rw [List.getElem?_eq_none (by omega)]
        rfl
end
end Go.Am
