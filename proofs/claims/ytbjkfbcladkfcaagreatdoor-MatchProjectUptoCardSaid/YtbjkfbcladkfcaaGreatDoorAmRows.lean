/- Rows and bytes out of memory: read one by one, and as functions of the value that carries them. -/
import Derived.Test.YtbjkfbcladkfcaaGreatDoorAmStep
set_option linter.unusedSimpArgs false
set_option linter.unusedVariables false
namespace Go.Am

theorem IsRows.len {A : AV} {L : List Row4} (h : IsRows A L) : sliceLen A = some L.length := by
  rcases h.2 with ⟨rfl, rfl⟩ | ⟨cs, o, cap, ex, rfl, _⟩ <;> rfl

theorem IsRows.one {A : AV} {L L' : List Row4} (h : IsRows A L) (h' : IsRows A L') : L = L' := by
  have hb := h.1.2
  have hb' := h'.1.2
  rcases h.2 with ⟨rfl, rfl⟩ | ⟨cs, o, cap, ex, rfl, m⟩
  · rcases h'.2 with ⟨_, rfl⟩ | ⟨_, _, _, _, e, _⟩
    · rfl
    · cases e
  · rcases h'.2 with ⟨e, _⟩ | ⟨_, _, _, _, e, m'⟩
    · cases e
    · simp only [AV.fsl.injEq] at e
      obtain ⟨rfl, rfl, _, hl, _, _⟩ := e
      refine List.ext_getElem hl (fun i h1 h2 => ?_)
      have hx : L[i]? = some L[i] := by simp [h1]
      have hy : L'[i]? = some L'[i] := by simp [h2]
      have q : ∀ r, r < 4 → L[i].pick r = L'[i].pick r := fun r hr => by
        have a := m i _ hx r hr
        rw [m' i _ hy r hr] at a
        exact (Option.some.inj a).symm
      have q0 := q 0 (by decide)
      have q1 := q 1 (by decide)
      have q2 := q 2 (by decide)
      have q3 := q 3 (by decide)
      have b := hb L[i] (List.getElem_mem h1)
      have b' := hb' L'[i] (List.getElem_mem h2)
      revert q0 q1 q2 q3 b b'
      generalize L[i] = x
      generalize L'[i] = y
      intro q0 q1 q2 q3 b b'
      obtain ⟨xk, xp, xs, xB, xb⟩ := x
      obtain ⟨yk, yp, ys, yB, yb⟩ := y
      simp only [Row4.pick, if_true, Nat.succ_ne_self, if_false, AV.int.injEq, true_and, show (2 : Nat) ≠ 0 by decide, show (2 : Nat) ≠ 1 by decide, show (3 : Nat) ≠ 0 by decide, show (3 : Nat) ≠ 1 by decide, show (3 : Nat) ≠ 2 by decide, show (1 : Nat) ≠ 0 by decide] at q0 q1 q2 q3
      subst q0 q1 q2 q3
      simp only at b b'
      rw [b.one b']

noncomputable def rowsOf (A : AV) : Option (List Row4) := open Classical in if h : ∃ L, IsRows A L then some h.choose else none
theorem rowsOf_eq {A : AV} {L : List Row4} (h : IsRows A L) : rowsOf A = some L := by
  have he : ∃ L, IsRows A L := ⟨L, h⟩
  unfold rowsOf
  rw [dif_pos he, he.choose_spec.one h]
noncomputable def bOf (B : AV) : Option (List UInt8) := open Classical in if h : ∃ b, IsBytes B b then some h.choose else none
theorem bOf_eq {B : AV} {b : List UInt8} (h : IsBytes B b) : bOf B = some b := by
  have he : ∃ b, IsBytes B b := ⟨b, h⟩
  unfold bOf
  rw [dif_pos he, he.choose_spec.one h]

theorem IsBytes.single {B : AV} {b : List UInt8} (h : IsBytes B b) : AV.single B = true := by
  rcases h.2 with ⟨rfl, _⟩ | ⟨_, _, _, _, rfl, _⟩ <;> rfl

abbrev rowA (y : Row4) : AV := .agg [.int .i64 y.k, .int .i64 y.p, .int .i64 y.s, y.B]

theorem take4 {α : Type} {l : List α} {o : Nat} {a b c d : α} (h0 : l[o]? = some a) (h1 : l[o + 1]? = some b) (h2 : l[o + 2]? = some c) (h3 : l[o + 3]? = some d) : (l.drop o).take 4 = [a, b, c, d] := by
  refine List.ext_getElem? (fun i => ?_)
  rw [List.getElem?_take]
  split
  · rename_i hi
    rw [List.getElem?_drop]
    match i, hi with
    | 0, _ => simpa using h0
    | 1, _ => simpa using h1
    | 2, _ => simpa using h2
    | 3, _ => simpa using h3
  · rename_i hi
    rw [List.getElem?_eq_none (by simpa using hi)]

/-- What the reads of a row give. -/
structure RowAt (T : Tab) (HI : HeapI) (tr ti tb : Nat) (cs : List AV) (j : Nat) (x : Row4) : Prop where
  all : ∀ s : St HI, loadV T s tr (.fptr cs j) = some (rowA x)
  k : ∀ s : St HI, loadV T s ti (.fptr cs j) = some (.int .i64 x.k)
  p : ∀ s : St HI, loadV T s ti (.fptr cs (j + 1)) = some (.int .i64 x.p)
  s : ∀ s : St HI, loadV T s ti (.fptr cs (j + 2)) = some (.int .i64 x.s)
  B : ∀ s : St HI, loadV T s tb (.fptr cs (j + 3)) = some x.B

theorem IsRows.at {T : Tab} {HI : HeapI} {tr ti tb : Nat} (hr : T.isAgg tr = some true) (hs : T.size tr = some 4) (hi : T.isAgg ti = some false) (hb : T.isAgg tb = some false)
    {cs : List AV} {o n cap : Nat} {ex : Bool} {L : List Row4} (h : IsRows (.fsl cs o 4 n cap ex) L) {i : Nat} {x : Row4} (hx : L[i]? = some x) : RowAt T HI tr ti tb cs (o + i * 4) x := by
  rcases h.2 with ⟨e, _⟩ | ⟨_, _, _, _, e, m⟩
  · cases e
  · simp only [AV.fsl.injEq] at e
    obtain ⟨rfl, rfl, _, _, _, _⟩ := e
    have q0 := m i x hx 0 (by decide)
    have q1 := m i x hx 1 (by decide)
    have q2 := m i x hx 2 (by decide)
    have q3 := m i x hx 3 (by decide)
    simp only [Row4.pick, if_true, if_false, show (2 : Nat) ≠ 0 by decide, show (2 : Nat) ≠ 1 by decide, show (3 : Nat) ≠ 0 by decide, show (3 : Nat) ≠ 1 by decide, show (3 : Nat) ≠ 2 by decide, show (1 : Nat) ≠ 0 by decide, ← Nat.add_assoc, Nat.add_zero] at q0 q1 q2 q3
    refine ⟨fun s => ?_, fun s => ?_, fun s => ?_, fun s => ?_, fun s => ?_⟩
    · have h3 := (List.getElem?_eq_some_iff.1 q3).1
      simp only [loadV, readV, hr, hs]
      rw [if_pos (by omega), take4 q0 q1 q2 q3]
    · simp only [loadV, readV, hi, q0]
    · simp only [loadV, readV, hi, q1]
    · simp only [loadV, readV, hi, q2]
    · simp only [loadV, readV, hb, q3]

/-- A predicate holds below a bound, or fails first somewhere. -/
theorem first_false (p : Nat → Bool) : ∀ n, (∀ i, i < n → p i = true) ∨ ∃ i, i < n ∧ p i = false ∧ ∀ j, j < i → p j = true
  | 0 => .inl fun i hi => absurd hi (Nat.not_lt_zero i)
  | n + 1 => by
    rcases first_false p n with h | ⟨i, h1, h2, h3⟩
    · cases e : p n with
      | true =>
        refine .inl fun i hi => ?_
        by_cases e' : i = n
        · rw [e']; exact e
        · exact h i (by omega)
      | false => exact .inr ⟨n, by omega, e, h⟩
    · exact .inr ⟨i, by omega, h2, h3⟩

def sameRow (x y : Row4) : Bool := eqI x.k y.k && eqI x.p y.p && eqI x.s y.s && decide (x.bs = y.bs)
def sameL : List Row4 → List Row4 → Bool
  | [], [] => true
  | x :: xs, y :: ys => sameRow x y && sameL xs ys
  | _, _ => false

theorem sameL_len : ∀ {L M : List Row4}, L.length ≠ M.length → sameL L M = false
  | [], [], h => absurd rfl h
  | [], _ :: _, _ => rfl
  | _ :: _, [], _ => rfl
  | x :: xs, y :: ys, h => by
    simp only [sameL]
    rw [sameL_len (fun e => h (by simp [e])), Bool.and_false]
theorem sameL_true : ∀ {L M : List Row4}, L.length = M.length → (∀ (i : Nat) x y, L[i]? = some x → M[i]? = some y → sameRow x y = true) → sameL L M = true
  | [], [], _, _ => rfl
  | x :: xs, y :: ys, h, hp => by
    simp only [sameL]
    rw [hp 0 x y rfl rfl, sameL_true (by simpa using h) (fun i u v hu hv => hp (i + 1) u v (by simpa using hu) (by simpa using hv))]
    rfl
theorem sameL_false : ∀ {L M : List Row4} {i : Nat} {x y : Row4}, L[i]? = some x → M[i]? = some y → sameRow x y = false → sameL L M = false
  | [], _, i, x, y, h, _, _ => by simp at h
  | _ :: _, [], i, x, y, _, h, _ => by simp at h
  | u :: us, v :: vs, 0, x, y, h1, h2, h3 => by
    simp at h1 h2
    subst h1 h2
    simp [sameL, h3]
  | u :: us, v :: vs, i + 1, x, y, h1, h2, h3 => by
    simp only [sameL]
    rw [sameL_false (by simpa using h1) (by simpa using h2) h3, Bool.and_false]

theorem sameRow_comm (x y : Row4) : sameRow x y = sameRow y x := by
  have e : ∀ a b : Int, eqI a b = eqI b a := fun a b => by rw [eqI_eq, eqI_eq, Bool.eq_iff_iff, beq_iff_eq, beq_iff_eq]; exact eq_comm
  have d : decide (x.bs = y.bs) = decide (y.bs = x.bs) := by rw [Bool.eq_iff_iff, decide_eq_true_eq, decide_eq_true_eq]; exact eq_comm
  simp only [sameRow, e x.k, e x.p, e x.s, d]
theorem sameL_comm : ∀ (L M : List Row4), sameL L M = sameL M L
  | [], [] => rfl
  | [], _ :: _ => rfl
  | _ :: _, [] => rfl
  | x :: xs, y :: ys => by simp only [sameL, sameRow_comm x y, sameL_comm xs ys]
theorem sameRow_refl (x : Row4) : sameRow x x = true := by
  have e : ∀ a : Int, eqI a a = true := fun a => by rw [eqI_eq]; simp
  simp [sameRow, e]
theorem sameL_refl : ∀ (L : List Row4), sameL L L = true
  | [] => rfl
  | x :: xs => by simp only [sameL, sameRow_refl x, sameL_refl xs, Bool.and_self]

/-- Where the rounds of a comparison lead. -/
theorem rows_cases {L M : List Row4} (hl : L.length = M.length) : (sameL L M = true ∧ ∀ (i : Nat) x y, L[i]? = some x → M[i]? = some y → sameRow x y = true) ∨
    (sameL L M = false ∧ ∃ (i : Nat) (x y : Row4), L[i]? = some x ∧ M[i]? = some y ∧ sameRow x y = false ∧ ∀ (j : Nat) x y, j < i → L[j]? = some x → M[j]? = some y → sameRow x y = true) := by
  rcases first_false (fun i => match L[i]?, M[i]? with
    | some x, some y => sameRow x y
    | _, _ => true) L.length with h | ⟨i, h1, h2, h3⟩
  · have k : ∀ (i : Nat) x y, L[i]? = some x → M[i]? = some y → sameRow x y = true := fun i x y hx hy => by
      have := h i (List.getElem?_eq_some_iff.1 hx).1
      simpa only [hx, hy] using this
    exact .inl ⟨sameL_true hl k, k⟩
  · have e1 : L[i]? = some (L[i]'h1) := by simp [h1]
    have e2 : M[i]? = some (M[i]'(hl ▸ h1)) := by simp [show i < M.length by omega]
    simp only [e1, e2] at h2
    refine .inr ⟨sameL_false e1 e2 h2, i, _, _, e1, e2, h2, fun j x y hj hx hy => ?_⟩
    have := h3 j hj
    simpa only [hx, hy] using this
end Go.Am
