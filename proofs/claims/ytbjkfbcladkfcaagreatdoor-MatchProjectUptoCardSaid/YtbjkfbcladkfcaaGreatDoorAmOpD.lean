/- The operations are sound: arithmetic, addresses, slices. -/
import Derived.Test.YtbjkfbcladkfcaaGreatDoorAmOpC
set_option linter.unusedSimpArgs false
set_option linter.unusedVariables false
namespace Go.Am
section
variable {HI : HeapI} {P : Program} {T : Tab}
variable {ρ : Operand → Option AV} {ρ' : Operand → Value} {ι : Emb} {s s' : St HI} {w : World} {v : AV} {dst : Option Tmp} {type : TypeId} {pos : String} {after : Array Edge} {guard : Option (Nat × Bool)}

theorem intOp_sound {op : BinOp} {k k' : IntKind} {a b : Int} (hk : k = k' ∨ isShift op = true) (h : intOp op k a b = some v) : ∃ v', (binOp op type (.int k a) (.int k' b)).run P w = .ok v' w ∧ R ι v v' := by
  have done : ∀ {x : AV} {y : Value}, some x = some v → R ι x y → R ι v y := fun e hr => by cases e; exact hr
  cases op <;> simp only [intOp] at h <;> simp only [isShift, Bool.false_eq_true, or_false] at hk
  case add => subst hk; exact ⟨_, by simp [binOp, Op.intArith], done h rfl⟩
  case sub => subst hk; exact ⟨_, by simp [binOp, Op.intArith], done h rfl⟩
  case mul => subst hk; exact ⟨_, by simp [binOp, Op.intArith], done h rfl⟩
  case quo =>
    subst hk; split at h
    · cases h
    · rename_i hb; exact ⟨_, by simp [binOp, Op.intDiv, hb], done h rfl⟩
  case rem =>
    subst hk; split at h
    · cases h
    · rename_i hb; exact ⟨_, by simp [binOp, Op.intDiv, hb], done h rfl⟩
  case and => subst hk; exact ⟨_, by simp [binOp, Op.intBits], done h rfl⟩
  case or => subst hk; exact ⟨_, by simp [binOp, Op.intBits], done h rfl⟩
  case xor => subst hk; exact ⟨_, by simp [binOp, Op.intBits], done h rfl⟩
  case andNot => subst hk; exact ⟨_, by simp [binOp, Op.intBits], done h rfl⟩
  case shl =>
    split at h
    · cases h
    · rename_i hb; exact ⟨_, by simp [binOp, Op.shift, hb], done h rfl⟩
  case shr =>
    split at h
    · cases h
    · rename_i hb; exact ⟨_, by simp [binOp, Op.shift, hb], done h rfl⟩
  case eql => subst hk; rw [eqI_eq] at h; exact ⟨_, by simp [binOp, Op.intCmp], done h rfl⟩
  case neq => subst hk; rw [eqI_eq] at h; exact ⟨.bool (a != b), by simp [binOp, Op.intCmp], done h rfl⟩
  case lss => subst hk; rw [ltI_eq] at h; exact ⟨_, by simp [binOp, Op.intCmp], done h rfl⟩
  case leq => subst hk; rw [ltI_eq] at h; exact ⟨.bool (a ≤ b), by simp [binOp, Op.intCmp], done h (by simp only [R, ← Int.not_lt, decide_not])⟩
  case gtr => subst hk; rw [ltI_eq] at h; exact ⟨_, by simp [binOp, Op.intCmp], done h rfl⟩
  case geq => subst hk; rw [ltI_eq] at h; exact ⟨.bool (a ≥ b), by simp [binOp, Op.intCmp], done h (by simp only [R, ge_iff_le, ← Int.not_lt, decide_not])⟩

theorem eqGuard_int {op : BinOp} {t : TypeId} {x y : Operand} {k k' : IntKind} {a b : Int} : (eqGuard op t x y (.int k a) (.int k' b)).run P w = .ok () w := by
  cases op <;> simp [eqGuard]

/-- '==' where one side is nil. -/
theorem nilEq_in (hT : TabOK P T) {t : TypeId} {d : TypeDesc} {x y : AV} {x' y' : Value} {e : Bool} (n : Nat) (hx : R ι x x') (hy : R ι y y') (hd : T.und t = some d) (hn : nilEq x y = some e) (h1 : nilKind d x = true) (h2 : nilKind d y = true) :
    (Op.equalIn (n + 1) t x' y').run P w = .ok e w ∧ (∀ op u v, (eqGuard op t u v x' y').run P w = .ok () w) ∧ binOp .eql t x' y' = (do pure (.bool (← Op.equal t x' y'))) ∧ binOp .neq t x' y' = (do pure (.bool (!(← Op.equal t x' y')))) := by
  have hu := run_underlying (hT.und _ _ hd) w
  cases x <;> cases y <;> simp only [nilEq, Option.some.injEq, reduceCtorEq] at hn <;> subst hn <;> cases d <;> simp only [nilKind, Bool.false_eq_true] at h1 h2 <;> simp only [R] at hx hy
  all_goals
    (try obtain ⟨_, _, _, _, _, _, rfl, _⟩ := hx)
    (try obtain ⟨_, _, _, _, _, _, rfl, _⟩ := hy)
    (try obtain ⟨_, _, _, _, _, _, _, rfl, _⟩ := hx)
    (try obtain ⟨_, _, _, _, _, _, _, rfl, _⟩ := hy)
    (try obtain ⟨_, _, _, _, _, rfl, _⟩ := hx)
    (try obtain ⟨_, _, _, _, _, rfl, _⟩ := hy)
    (try obtain ⟨_, _, _, rfl, _⟩ := hx)
    (try obtain ⟨_, _, _, rfl, _⟩ := hy)
    (try obtain ⟨_, _, _, rfl⟩ := hx)
    (try obtain ⟨_, _, _, rfl⟩ := hy)
    (try obtain ⟨_, _, rfl, _⟩ := hx)
    (try obtain ⟨_, _, rfl, _⟩ := hy)
    (try obtain ⟨_, _, rfl⟩ := hx)
    (try obtain ⟨_, _, rfl⟩ := hy)
    (try obtain ⟨_, rfl, _⟩ := hx)
    (try obtain ⟨_, rfl, _⟩ := hy)
    (try subst hx)
    (try subst hy)
    refine ⟨?_, fun op u v => ?_, rfl, rfl⟩
    · simp only [Op.equalIn, Sem.run_bind, hu, Result.andThen_ok]; rfl
    · cases op <;> simp [eqGuard]

theorem nilEq_sound (hT : TabOK P T) {t : TypeId} {d : TypeDesc} {x y : AV} {x' y' : Value} {e : Bool} (hx : R ι x x') (hy : R ι y y') (hd : T.und t = some d) (hn : nilEq x y = some e) (h1 : nilKind d x = true) (h2 : nilKind d y = true) :
    (Op.equal t x' y').run P w = .ok e w ∧ (∀ op u v, (eqGuard op t u v x' y').run P w = .ok () w) ∧ binOp .eql t x' y' = (do pure (.bool (← Op.equal t x' y'))) ∧ binOp .neq t x' y' = (do pure (.bool (!(← Op.equal t x' y')))) :=
  nilEq_in (ι := ι) hT 9999 hx hy hd hn h1 h2

theorem does_binOp (hT : TabOK P T) (hs : Sim ι s w) {callee : Callee HI} {op : BinOp} {t yt : TypeId} {x y : Operand} (hρ : ∀ z ∈ (Op.binOp op t x y yt).operands, ∀ v, ρ z = some v → R ι v (ρ' z))
    (h : evOp P T callee ⟨dst, .binOp op t x y yt, type, pos, after, guard⟩ ρ s = some (v, s')) : Does P ⟨dst, .binOp op t x y yt, type, pos, after, guard⟩ ρ' ι s w v s' := by
  have hx := hρ x (by simp [Op.operands])
  have hy := hρ y (by simp [Op.operands])
  have quiet : ∀ u, evQ P ⟨dst, .binOp op t x y yt, type, pos, after, guard⟩ ρ = some u → Does P ⟨dst, .binOp op t x y yt, type, pos, after, guard⟩ ρ' ι s w u s := fun u hu => does_evQ hs hρ (fun _ _ e => by cases e) hu
  simp only [evOp] at h
  split at h
  · rename_i k a k' b hx1 hy1
    split at h
    · rename_i hk
      obtain ⟨h1, rfl⟩ := pur_some h
      have rx := hx _ hx1
      have ry := hy _ hy1
      simp only [R] at rx ry
      obtain ⟨v', hv, hr⟩ := intOp_sound (P := P) (w := w) (ι := ι) (type := t) hk h1
      refine .pure hs (v' := v') ?_ hr
      simp only [execOp, Sem.run_bind, rx, ry, eqGuard_int, Result.andThen_ok, hv, Sem.run_pure]
    · cases h
  · rename_i u u' _ hx1 hy1
    split at h
    · rename_i e d he hd
      split at h
      · rename_i hk
        obtain ⟨h1, h2, h3, h4⟩ := nilEq_sound (P := P) (w := w) hT (hx _ hx1) (hy _ hy1) hd he hk.1 hk.2
        split at h
        · cases h
          refine .pure hs (v' := .bool e) ?_ rfl
          simp only [execOp, Sem.run_bind, h2, Result.andThen_ok, h3, h1, Sem.run_pure]
        · cases h
          refine .pure hs (v' := .bool !e) ?_ rfl
          simp only [execOp, Sem.run_bind, h2, Result.andThen_ok, h4, h1, Sem.run_pure]
        · cases h
      · cases h
    · obtain ⟨h1, rfl⟩ := pur_some h
      exact quiet _ h1
  · cases h

theorem part_sound (hT : TabOK P T) {t o : Nat} {cs : List AV} {vs : List Value} (hr : Rs ι cs vs) (h : partV T t cs o = some v) :
    ∃ v', (part t ⟨vs⟩ o).run P w = .ok v' w ∧ R ι v v' := by
  unfold partV readV at h
  split at h
  · rename_i ha
    split at h
    · rename_i n hn
      split at h
      · rename_i hl
        cases h
        refine ⟨.agg ((⟨vs⟩ : Array Value).extract o (o + n)), by simp [part, hT.isAgg_run ha, hT.size_run hn], ?_⟩
        refine ⟨((vs.drop o).take n), by simp, Rs.take n (Rs.drop o hr)⟩
      · cases h
    · cases h
  · rename_i ha
    obtain ⟨v', hv, h1⟩ := hr.get h
    exact ⟨v', by simp [part, hT.isAgg_run ha, hv], h1⟩
  · cases h

theorem fieldOf_spec {t i : Nat} {f : Field} (h : fieldOf T t i = some f) : ∃ fs, T.und t = some (.struct fs) ∧ fs[i]? = some f := by
  unfold fieldOf at h
  split at h
  · exact ⟨_, by assumption, h⟩
  · cases h

theorem does_fieldAddr (hT : TabOK P T) (hs : Sim ι s w) {callee : Callee HI} {t : TypeId} {x : Operand} {i : Nat} (hρ : ∀ z ∈ (Op.fieldAddr t x i).operands, ∀ v, ρ z = some v → R ι v (ρ' z))
    (h : evOp P T callee ⟨dst, .fieldAddr t x i, type, pos, after, guard⟩ ρ s = some (v, s')) : Does P ⟨dst, .fieldAddr t x i, type, pos, after, guard⟩ ρ' ι s w v s' := by
  have hx := hρ x (by simp [Op.operands])
  simp only [evOp] at h
  split at h
  · rename_i f hf
    obtain ⟨fs, hd, hfs⟩ := fieldOf_spec hf
    split at h
    · rename_i n hn
      split at h
      · cases h
      · rename_i hn0
        split at h
        · rename_i b j hx1
          cases h
          obtain ⟨cb, base, hm, e⟩ := hx _ hx1
          refine .pure hs (v' := .pointer (some ⟨cb, base + (j + f.offset), none⟩)) ?_ ⟨cb, base, hm, rfl⟩
          simp [execOp, Instr.fieldAt, run_underlying (hT.und _ _ hd), hfs, e, Instr.sureAddr, fieldPlace, hT.size_run hn, hn0, add_addr, Nat.add_assoc]
        · rename_i cs j hx1
          cases h
          obtain ⟨cb, base, vs, e, hf, hr⟩ := hx _ hx1
          refine .pure hs (v' := .pointer (some ⟨cb, base + (j + f.offset), none⟩)) ?_ ⟨cb, base, vs, rfl, hf, hr⟩
          simp [execOp, Instr.fieldAt, run_underlying (hT.und _ _ hd), hfs, e, Instr.sureAddr, fieldPlace, hT.size_run hn, hn0, add_addr, Nat.add_assoc]
        · cases h
    · cases h
  · cases h

theorem does_field (hT : TabOK P T) (hs : Sim ι s w) {callee : Callee HI} {t : TypeId} {x : Operand} {i : Nat} (hρ : ∀ z ∈ (Op.field t x i).operands, ∀ v, ρ z = some v → R ι v (ρ' z))
    (h : evOp P T callee ⟨dst, .field t x i, type, pos, after, guard⟩ ρ s = some (v, s')) : Does P ⟨dst, .field t x i, type, pos, after, guard⟩ ρ' ι s w v s' := by
  have hx := hρ x (by simp [Op.operands])
  simp only [evOp] at h
  split at h
  · rename_i f cs hf hx1
    obtain ⟨fs, hd, hfs⟩ := fieldOf_spec hf
    obtain ⟨h1, rfl⟩ := pur_some h
    obtain ⟨vs, e, hr⟩ := hx _ hx1
    obtain ⟨v', hv, hr'⟩ := part_sound (P := P) (w := w) hT hr h1
    refine .pure hs (v' := v') ?_ hr'
    simp [execOp, Instr.field, run_underlying (hT.und _ _ hd), hfs, e, asAgg, hv]
  · cases h

theorem does_indexAddr (hT : TabOK P T) (hs : Sim ι s w) {callee : Callee HI} {t : TypeId} {x ix : Operand} (hρ : ∀ z ∈ (Op.indexAddr t x ix).operands, ∀ v, ρ z = some v → R ι v (ρ' z))
    (h : evOp P T callee ⟨dst, .indexAddr t x ix, type, pos, after, guard⟩ ρ s = some (v, s')) : Does P ⟨dst, .indexAddr t x ix, type, pos, after, guard⟩ ρ' ι s w v s' := by
  have hx := hρ x (by simp [Op.operands])
  have hi := hρ ix (by simp [Op.operands])
  simp only [evOp] at h
  split at h
  · rename_i u k i hx1 hi1
    obtain ⟨h1, rfl⟩ := pur_some h
    have ri := hi _ hi1
    simp only [R] at ri
    have rx := hx _ hx1
    unfold indexAddrV at h1
    split at h1
    · rename_i n elem hd
      split at h1
      · rename_i es he
        split at h1
        · rename_i hin
          split at h1
          · rename_i b j
            cases h1
            obtain ⟨cb, base, hm, e⟩ := rx
            refine .pure hs (v' := .pointer (some ⟨cb, base + (j + i.toNat * es), none⟩)) ?_ ⟨cb, base, hm, rfl⟩
            have h3 : 0 ≤ i ∧ i < (n : Int) := hin
            simp [execOp, Instr.indexAt, asIntOf, run_underlying (hT.und _ _ hd), ri, e, Instr.sureAddr, hT.size_run he, add_addr, Nat.add_assoc, h3]
          · rename_i cs j
            cases h1
            obtain ⟨cb, base, vs, e, hf, hr⟩ := rx
            refine .pure hs (v' := .pointer (some ⟨cb, base + (j + i.toNat * es), none⟩)) ?_ ⟨cb, base, vs, rfl, hf, hr⟩
            have h3 : 0 ≤ i ∧ i < (n : Int) := hin
            simp [execOp, Instr.indexAt, asIntOf, run_underlying (hT.und _ _ hd), ri, e, Instr.sureAddr, hT.size_run he, add_addr, Nat.add_assoc, h3]
          · cases h1
        · cases h1
      · cases h1
    · rename_i elem hd
      split at h1
      · rename_i es he
        split at h1
        · rename_i b j es' len cap ex
          split at h1
          · rename_i hin
            cases h1
            obtain ⟨h3, h4, h5⟩ := hin
            obtain ⟨cb, base, a, cap', sz, hm, e, hc, ha, hl, hz, hsz⟩ := rx
            have ha' : a = base + j := ha.resolve_left (by have := hc.1; omega)
            refine .pure hs (v' := .pointer (some ⟨cb, base + (j + i.toNat * es), none⟩)) ?_ ⟨cb, base, hm, rfl⟩
            have h6 : 0 ≤ i ∧ i < (len : Int) := ⟨h3, h4⟩
            simp [execOp, Instr.indexAt, asIntOf, run_underlying (hT.und _ _ hd), ri, e, ha', hT.size_run he, add_addr, Nat.add_assoc, h6]
          · cases h1
        · rename_i cs j es' len cap ex
          split at h1
          · rename_i hin
            cases h1
            obtain ⟨h3, h4, h5⟩ := hin
            obtain ⟨cb, base, a, cap', vs, sp, e, hp, hc, ha, hl, hf, hr⟩ := rx
            have ha' : a = base + j := ha.resolve_left (by have := hc.1; omega)
            have hp' : sp = none := hp.resolve_right (by have := hc.1; omega)
            subst hp'
            refine .pure hs (v' := .pointer (some ⟨cb, base + (j + i.toNat * es), none⟩)) ?_ ⟨cb, base, vs, rfl, hf, hr⟩
            have h6 : 0 ≤ i ∧ i < (len : Int) := ⟨h3, h4⟩
            simp [execOp, Instr.indexAt, asIntOf, run_underlying (hT.und _ _ hd), ri, e, ha', hT.size_run he, add_addr, Nat.add_assoc, h6]
          · cases h1
        · cases h1
      · cases h1
    · cases h1
  · cases h

theorem does_index (hT : TabOK P T) (hs : Sim ι s w) {callee : Callee HI} {t : TypeId} {x ix : Operand} (hρ : ∀ z ∈ (Op.index t x ix).operands, ∀ v, ρ z = some v → R ι v (ρ' z))
    (h : evOp P T callee ⟨dst, .index t x ix, type, pos, after, guard⟩ ρ s = some (v, s')) : Does P ⟨dst, .index t x ix, type, pos, after, guard⟩ ρ' ι s w v s' := by
  have hx := hρ x (by simp [Op.operands])
  have hi := hρ ix (by simp [Op.operands])
  simp only [evOp] at h
  split at h
  · rename_i n elem cs k i hd hx1 hi1
    split at h
    · rename_i es he
      split at h
      · rename_i hin
        obtain ⟨h1, rfl⟩ := pur_some h
        obtain ⟨vs, e, hr⟩ := hx _ hx1
        have ri := hi _ hi1
        simp only [R] at ri
        obtain ⟨v', hv, hr'⟩ := part_sound (P := P) (w := w) hT hr h1
        refine .pure hs (v' := v') ?_ hr'
        have h3 : 0 ≤ i ∧ i < (n : Int) := hin
        simp [execOp, Instr.index, asIntOf, run_underlying (hT.und _ _ hd), ri, e, hT.size_run he, h3, hv]
      · cases h
    · cases h
  · rename_i b k i hd hx1 hi1
    split at h
    · rename_i h0
      split at h
      · rename_i c hc
        cases h
        have rx := hx _ hx1
        have ri := hi _ hi1
        simp only [R] at rx ri
        refine .pure hs (v' := .int .u8 c.toNat) ?_ rfl
        have hb : b[i.toNat]? = some c := by
          have : b.data[i.toNat]? = some c := by simpa using hc
          rw [← this]
          simp only [getElem?_def]
          rfl
        simp [execOp, Instr.index, asIntOf, run_underlying (hT.und _ _ hd), ri, rx, h0, hb]
      · cases h
    · cases h
  · cases h
end
end Go.Am
