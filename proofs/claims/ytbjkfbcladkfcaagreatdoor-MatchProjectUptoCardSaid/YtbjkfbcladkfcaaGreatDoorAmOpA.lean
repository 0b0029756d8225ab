/- The operations are sound: those that leave the world alone. -/
import Derived.Test.YtbjkfbcladkfcaaGreatDoorAmOps
import Derived.Laws.Entries
import Derived.Laws.Cells
set_option linter.unusedSimpArgs false
set_option linter.unusedVariables false
namespace Go.Am

structure TabOK (P : Program) (T : Tab) : Prop where
  info : ∀ t i, T.info t = some i → P.info? t = some i
  und : ∀ t d, T.und t = some d → P.underlying t = some d
  func : ∀ f x, T.func f = some x → P.funcs[f]? = some x ∧ x.body.isSome = true ∧ (x.name == "runtime.NumGoroutine") = false

section
variable {HI : HeapI} {P : Program} {T : Tab}

theorem run_quiet {α : Type} : ∀ {m : Sem α} {a : α}, m.quiet P = some a → ∀ w, m.run P w = .ok a w := by
  intro m
  induction m with
  | pure a => intro b h w; simp only [Sem.quiet] at h; cases h; rfl
  | program k ih => intro b h w; simp only [Sem.quiet] at h; simp only [Sem.run]; exact ih _ h w
  | load => intro b h; simp [Sem.quiet] at h
  | store => intro b h; simp [Sem.quiet] at h
  | new => intro b h; simp [Sem.quiet] at h
  | shape => intro b h; simp [Sem.quiet] at h
  | freeze => intro b h; simp [Sem.quiet] at h
  | frozen => intro b h; simp [Sem.quiet] at h
  | getObj => intro b h; simp [Sem.quiet] at h
  | setObj => intro b h; simp [Sem.quiet] at h
  | choose => intro b h; simp [Sem.quiet] at h
  | sys => intro b h; simp [Sem.quiet] at h
  | mark => intro b h; simp [Sem.quiet] at h
  | halt => intro b h; simp [Sem.quiet] at h

theorem TabOK.size_run (hT : TabOK P T) {t n : Nat} (h : T.size t = some n) (w : World) : (sizeOf t).run P w = .ok n w := by
  unfold Tab.size at h
  split at h
  · rename_i i hi
    cases h
    simp [sizeOf, typeInfo, hT.info _ _ hi]
  · cases h

theorem TabOK.zero_run (hT : TabOK P T) {t : Nat} {z : AV} (h : T.zero t = some z) (w : World) : ∃ v, (zeroValue t).run P w = .ok v w ∧ ofV v = some z := by
  unfold Tab.zero at h
  split at h
  · rename_i i hi
    split at h
    · rename_i v hv
      exact ⟨v, by simp [zeroValue, typeInfo, hT.info _ _ hi, hv], h⟩
    · cases h
  · cases h

theorem TabOK.isAgg_run (hT : TabOK P T) {t : Nat} {b : Bool} (h : T.isAgg t = some b) (w : World) : (isAgg t).run P w = .ok b w := by
  unfold Tab.isAgg at h
  split at h
  · rename_i fs hd; cases h; simp [isAgg, run_underlying (hT.und _ _ hd)]
  · rename_i n e hd; cases h; simp [isAgg, run_underlying (hT.und _ _ hd)]
  · rename_i d h1 h2 hd
    cases h
    simp only [isAgg, Sem.run_bind, run_underlying (hT.und _ _ hd), Result.andThen_ok]
    cases d <;> first | rfl | (exfalso; first | exact h1 _ hd | exact h2 _ _ hd)
  · cases h

theorem R.cells {ι : Emb} {x : AV} {v : Value} (h : R ι x v) : Rs ι x.cells v.cells.toList := by
  cases x <;> simp only [R] at h
  case agg cs => obtain ⟨vs, rfl, h1⟩ := h; simpa [AV.cells, Value.cells] using h1
  case bool => subst h; simp [AV.cells, Value.cells, Rs, R]
  case int => subst h; simp [AV.cells, Value.cells, Rs, R]
  case string => subst h; simp [AV.cells, Value.cells, Rs, R]
  case nptr => subst h; simp [AV.cells, Value.cells, Rs, R]
  case nsl => subst h; simp [AV.cells, Value.cells, Rs, R]
  case nmap => subst h; simp [AV.cells, Value.cells, Rs, R]
  case nfunc => subst h; simp [AV.cells, Value.cells, Rs, R]
  case niface => subst h; simp [AV.cells, Value.cells, Rs, R]
  case hptr => have h0 := h; obtain ⟨cb, base, _, rfl⟩ := h; simp only [AV.cells, Value.cells, Rs]; exact ⟨_, _, rfl, h0, rfl⟩
  case fptr => have h0 := h; obtain ⟨cb, base, vs, rfl, _⟩ := h; simp only [AV.cells, Value.cells, Rs]; exact ⟨_, _, rfl, h0, rfl⟩
  case hsl => have h0 := h; obtain ⟨cb, base, a, cap', sz, _, rfl, _⟩ := h; simp only [AV.cells, Value.cells, Rs]; exact ⟨_, _, rfl, h0, rfl⟩
  case fsl => have h0 := h; obtain ⟨cb, base, a, cap', sz, sp, rfl, _⟩ := h; simp only [AV.cells, Value.cells, Rs]; exact ⟨_, _, rfl, h0, rfl⟩
  case map => have h0 := h; obtain ⟨cb, _, rfl⟩ := h; simp only [AV.cells, Value.cells, Rs]; exact ⟨_, _, rfl, h0, rfl⟩
  case func => have h0 := h; obtain ⟨xs, ys, rfl, _⟩ := h; simp only [AV.cells, Value.cells, Rs]; exact ⟨_, _, rfl, h0, rfl⟩
  case iface => have h0 := h; obtain ⟨y, rfl, _⟩ := h; simp only [AV.cells, Value.cells, Rs]; exact ⟨_, _, rfl, h0, rfl⟩
  case tuple => have h0 := h; obtain ⟨vs, rfl, _⟩ := h; simp only [AV.cells, Value.cells, Rs]; exact ⟨_, _, rfl, h0, rfl⟩

theorem R.single {ι : Emb} {x : AV} {v : Value} (h : R ι x v) (hx : x.single = true) : v.oneCell' = true := by
  cases x <;> simp only [R] at h <;> simp only [AV.single] at hx
  all_goals first
    | (subst h; rfl)
    | (obtain ⟨_, _, _, rfl⟩ := h; rfl)
    | (obtain ⟨_, _, _, rfl, _⟩ := h; rfl)
    | (obtain ⟨_, _, _, _, _, _, rfl, _⟩ := h; rfl)
    | (obtain ⟨_, _, _, _, _, rfl, _⟩ := h; rfl)
    | (obtain ⟨_, _, rfl⟩ := h; rfl)
    | (obtain ⟨_, _, rfl, _⟩ := h; rfl)
    | (obtain ⟨_, rfl, _⟩ := h; rfl)
    | cases hx

theorem Rs.singles {ι : Emb} : ∀ {xs : List AV} {vs : List Value}, Rs ι xs vs → xs.all AV.single = true → ∀ v ∈ vs, v.oneCell' = true
  | [], vs, h, _, v, hv => by simp only [Rs] at h; subst h; cases hv
  | x :: xs, vs, h, ha, v, hv => by
    simp only [Rs] at h
    obtain ⟨u, us, rfl, h1, h2⟩ := h
    simp only [List.all_cons, Bool.and_eq_true] at ha
    cases hv with
    | head => exact h1.single ha.1
    | tail _ hv => exact Rs.singles h2 ha.2 v hv

theorem cellsOfV : ∀ {v : Value} {z : AV}, ofV v = some z → ∀ ι, Rs ι z.cells v.cells.toList := fun h ι => (R_ofV ι _ _ h).cells

/-! ### writing and reading rows -/
theorem setAll_length : ∀ (xs : List AV) (cs : List AV) (o : Nat), (setAll cs o xs).length = cs.length
  | [], _, _ => rfl
  | x :: xs, cs, o => by simp [setAll, setAll_length xs]

theorem setAll_eq : ∀ (xs : List AV) (cs : List AV) (o : Nat), o + xs.length ≤ cs.length → setAll cs o xs = cs.take o ++ xs ++ cs.drop (o + xs.length)
  | [], cs, o, _ => by simp [setAll]
  | x :: xs, cs, o, h => by
    simp only [List.length_cons] at h
    rw [setAll, setAll_eq xs _ _ (by simp; omega)]
    have h1 : (cs.set o x).take (o + 1) = cs.take o ++ [x] := by
      apply List.ext_getElem?
      intro j
      rcases Nat.lt_trichotomy j o with hj | hj | hj
      · rw [List.getElem?_take_of_lt (by omega), List.getElem?_set_ne (by omega), List.getElem?_append_left (by simp; omega), List.getElem?_take_of_lt hj]
      · subst hj
        rw [List.getElem?_take_of_lt (by omega), List.getElem?_append_right (by simp; omega), List.getElem?_set_self (by omega)]
        simp [Nat.min_eq_left (show j ≤ cs.length by omega)]
      · rw [List.getElem?_eq_none (by simp; omega), List.getElem?_eq_none (by simp; omega)]
    have h2 : (cs.set o x).drop (o + 1 + xs.length) = cs.drop (o + 1 + xs.length) := by
      apply List.ext_getElem?
      intro j
      rw [List.getElem?_drop, List.getElem?_drop, List.getElem?_set_ne (by omega)]
    rw [h1, h2, List.length_cons]
    simp [Nat.add_assoc, Nat.add_comm 1]

theorem Rs.set {ι : Emb} : ∀ {xs : List AV} {vs : List Value} (i : Nat) {x : AV} {v : Value}, Rs ι xs vs → R ι x v → Rs ι (xs.set i x) (vs.set i v)
  | [], vs, i, x, v, h, _ => by simp only [Rs] at h; subst h; simp [Rs]
  | y :: ys, vs, 0, x, v, h, hx => by
    simp only [Rs] at h
    obtain ⟨u, us, rfl, h1, h2⟩ := h
    simp only [List.set_cons_zero, Rs]
    exact ⟨v, us, rfl, hx, h2⟩
  | y :: ys, vs, i + 1, x, v, h, hx => by
    simp only [Rs] at h
    obtain ⟨u, us, rfl, h1, h2⟩ := h
    simp only [List.set_cons_succ, Rs]
    exact ⟨u, us.set i v, rfl, h1, Rs.set i h2 hx⟩

theorem Rs.setFold {ι : Emb} (o : Nat) : ∀ {ys : List AV} {us : List Value} (k : Nat) {xs : List AV} {vs : Array Value}, Rs ι ys us → Rs ι xs vs.toList →
    Rs ι (Am.setAll xs (o + k) ys) (((us.zipIdx k).foldl (fun cs (c, j) => cs.setIfInBounds (o + j) c) vs).toList)
  | [], us, k, xs, vs, h, h' => by simp only [Rs] at h; subst h; simpa [Am.setAll] using h'
  | y :: ys, us, k, xs, vs, h, h' => by
    simp only [Rs] at h
    obtain ⟨u, us, rfl, h1, h2⟩ := h
    simp only [Am.setAll, List.zipIdx_cons, List.foldl_cons]
    exact Rs.setFold o (k + 1) h2 (by rw [Array.toList_setIfInBounds]; exact Rs.set _ h' h1)

theorem fill_sound {ι : Emb} {place : Nat → Option (Nat × Nat)} : ∀ {parts : List (Nat × AV)} {cparts : List (Nat × Value)} {cells cs : List AV} {ccells : Array Value},
    fillA place cells parts = some cs → Rs ι cells ccells.toList → (List.map Prod.fst parts = List.map Prod.fst cparts ∧ Rs ι (parts.map Prod.snd) (cparts.map Prod.snd)) →
    ∃ ccs, Instr.fill place ccells cparts = some ccs ∧ Rs ι cs ccs.toList
  | [], cparts, cells, cs, ccells, h, hc, hp => by
    simp only [fillA] at h; cases h
    have : cparts = [] := by simpa using hp.1.symm
    subst this
    exact ⟨ccells, rfl, hc⟩
  | (i, v) :: parts, cparts, cells, cs, ccells, h, hc, hp => by
    obtain ⟨hp1, hp2⟩ := hp
    cases cparts with
    | nil => simp at hp1
    | cons c cparts =>
      obtain ⟨i', v'⟩ := c
      simp only [List.map_cons, List.cons.injEq] at hp1
      obtain ⟨rfl, hp1⟩ := hp1
      simp only [List.map_cons, Rs] at hp2
      obtain ⟨x, xs, e, hv, hr⟩ := hp2
      cases e
      simp only [fillA] at h
      split at h
      · cases h
      · rename_i off size hpl
        split at h
        · rename_i hsz
          have hl := hv.cells.length
          have hlc := hc.length
          simp only [Array.length_toList] at hl hlc
          have h1 : v'.cells.size = size := by omega
          have h2 : ¬ (off + v'.cells.size > ccells.size) := by omega
          have hset := Rs.setFold off 0 hv.cells hc
          simp only [Nat.add_zero] at hset
          have e : v'.cells.zipIdx.foldl (fun cs (c, j) => cs.setIfInBounds (off + j) c) ccells = (v'.cells.toList.zipIdx 0).foldl (fun cs (c, j) => cs.setIfInBounds (off + j) c) ccells := by
            rw [← Array.foldl_toList]; simp
          rw [← e] at hset
          obtain ⟨ccs, h3, h4⟩ := fill_sound h hset ⟨hp1, hr⟩
          refine ⟨ccs, ?_, h4⟩
          simp only [Instr.fill, hpl]
          rw [if_neg (by simpa [h1] using h2)]
          exact h3
        · cases h

/-- What an operation gives that neither asks nor makes anything of the world. -/
theorem evParts_sound {ι : Emb} {ρ : Operand → Option AV} {ρ' : Operand → Value} : ∀ {ps : List (Nat × Operand)} {vs : List (Nat × AV)}, evParts ρ ps = some vs →
    (∀ p ∈ ps, ∀ v, ρ p.2 = some v → R ι v (ρ' p.2)) →
    List.map Prod.fst vs = List.map Prod.fst (ps.map fun (i, x) => (i, ρ' x)) ∧ Rs ι (vs.map Prod.snd) ((ps.map fun (i, x) => (i, ρ' x)).map Prod.snd)
  | [], vs, h, _ => by simp only [evParts] at h; cases h; simp [Rs]
  | (i, x) :: ps, vs, h, hρ => by
    simp only [evParts] at h
    split at h
    · rename_i v ws h1 h2
      cases h
      obtain ⟨a, b⟩ := evParts_sound h2 (fun p hp => hρ p (by simp [hp]))
      refine ⟨by simp [a], ?_⟩
      simp only [List.map_cons, Rs]
      exact ⟨_, _, rfl, hρ (i, x) (by simp) v h1, b⟩
    · cases h

theorem evList_sound {ι : Emb} {ρ : Operand → Option AV} {ρ' : Operand → Value} : ∀ {ps : List Operand} {vs : List AV}, evList ρ ps = some vs →
    (∀ p ∈ ps, ∀ v, ρ p = some v → R ι v (ρ' p)) → Rs ι vs (ps.map ρ')
  | [], vs, h, _ => by simp only [evList] at h; cases h; simp [Rs]
  | x :: ps, vs, h, hρ => by
    simp only [evList] at h
    split at h
    · rename_i v ws h1 h2
      cases h
      simp only [List.map_cons, Rs]
      exact ⟨_, _, rfl, hρ x (by simp) v h1, evList_sound h2 (fun p hp => hρ p (by simp [hp]))⟩
    · cases h

end
end Go.Am
