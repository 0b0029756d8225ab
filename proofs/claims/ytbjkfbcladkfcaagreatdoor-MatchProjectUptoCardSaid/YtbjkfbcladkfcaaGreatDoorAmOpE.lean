/- The operations are sound: slices, maps, conversions, the rest. -/
import Derived.Test.YtbjkfbcladkfcaaGreatDoorAmOpD
set_option linter.unusedSimpArgs false
set_option linter.unusedVariables false
namespace Go.Am
section
variable {HI : HeapI} {P : Program} {T : Tab}
variable {ρ : Operand → Option AV} {ρ' : Operand → Value} {ι : Emb} {s s' : St HI} {w : World} {v : AV} {dst : Option Tmp} {type : TypeId} {pos : String} {after : Array Edge} {guard : Option (Nat × Bool)}

theorem does_load (hT : TabOK P T) (hs : Sim ι s w) {callee : Callee HI} {t : TypeId} {x : Operand} (hρ : ∀ z ∈ (Op.load t x).operands, ∀ v, ρ z = some v → R ι v (ρ' z))
    (h : evOp P T callee ⟨dst, .load t x, type, pos, after, guard⟩ ρ s = some (v, s')) : Does P ⟨dst, .load t x, type, pos, after, guard⟩ ρ' ι s w v s' := by
  have hx := hρ x (by simp [Op.operands])
  simp only [evOp] at h
  split at h
  · rename_i p hp
    obtain ⟨h1, rfl⟩ := pur_some h
    obtain ⟨v', hv, hr⟩ := loadV_sound (P := P) hT hs (hx _ hp) h1
    exact .pure hs (v' := v') (by simp [execOp, hv]) hr
  · cases h

theorem does_store (hT : TabOK P T) (hs : Sim ι s w) {callee : Callee HI} {t : TypeId} {x y : Operand} (hρ : ∀ z ∈ (Op.store t x y).operands, ∀ v, ρ z = some v → R ι v (ρ' z))
    (h : evOp P T callee ⟨dst, .store t x y, type, pos, after, guard⟩ ρ s = some (v, s')) : Does P ⟨dst, .store t x y, type, pos, after, guard⟩ ρ' ι s w v s' := by
  have hx := hρ x (by simp [Op.operands])
  have hy := hρ y (by simp [Op.operands])
  simp only [evOp] at h
  split at h
  · rename_i p u hp hu
    split at h
    · rename_i s1 hs1
      cases h
      obtain ⟨w', h1, h2, h3⟩ := storeV_sound (P := P) hT hs (hx _ hp) (hy _ hu) hs1
      exact .unit (by simp [execOp, h1]) h2 h3
    · cases h
  · cases h

theorem run_asBool (b : Bool) : (asBool (.bool b)).run P w = .ok b w := rfl

theorem does_small (hT : TabOK P T) (hs : Sim ι s w) {callee : Callee HI} {op : Op} (hop : match op with | .move _ | .assign _ | .pick .. | .nilCheck _ | .unOp .. | .makeInterface .. | .makeFunc .. | .extract .. => True | _ => False)
    (hρ : ∀ z ∈ op.operands, ∀ v, ρ z = some v → R ι v (ρ' z))
    (h : evOp P T callee ⟨dst, op, type, pos, after, guard⟩ ρ s = some (v, s')) : Does P ⟨dst, op, type, pos, after, guard⟩ ρ' ι s w v s' := by
  cases op <;> simp only at hop <;> simp only [evOp] at h
  case move x => obtain ⟨h1, rfl⟩ := pur_some h; exact .pure hs (by simp [execOp]) (hρ x (by simp [Op.operands]) _ h1)
  case assign x => obtain ⟨h1, rfl⟩ := pur_some h; exact .pure hs (by simp [execOp]) (hρ x (by simp [Op.operands]) _ h1)
  case pick c a b =>
    have hc := hρ c (by simp [Op.operands])
    split at h
    · rename_i e
      have rc := hc _ e
      simp only [R] at rc
      obtain ⟨h1, rfl⟩ := pur_some h
      exact .pure hs (by simp [execOp, rc, asBool]) (hρ a (by simp [Op.operands]) _ h1)
    · rename_i e
      have rc := hc _ e
      simp only [R] at rc
      obtain ⟨h1, rfl⟩ := pur_some h
      exact .pure hs (by simp [execOp, rc, asBool]) (hρ b (by simp [Op.operands]) _ h1)
    · cases h
  case nilCheck x =>
    have hx := hρ x (by simp [Op.operands])
    split at h
    · rename_i b i e
      cases h
      have rx := hx _ e
      have rx0 := rx
      obtain ⟨cb, base, hm, e'⟩ := rx
      exact .pure hs (v' := ρ' x) (by simp [execOp, e']) rx0
    · rename_i cs i e
      cases h
      have rx := hx _ e
      have rx0 := rx
      obtain ⟨cb, base, vs, e', _⟩ := rx
      exact .pure hs (v' := ρ' x) (by simp [execOp, e']) rx0
    · rename_i f a b e
      cases h
      have rx := hx _ e
      have rx0 := rx
      obtain ⟨xs, ys, e', _⟩ := rx
      exact .pure hs (v' := ρ' x) (by simp [execOp, e']) rx0
    · rename_i t u e
      cases h
      have rx := hx _ e
      have rx0 := rx
      obtain ⟨y, e', _⟩ := rx
      exact .pure hs (v' := ρ' x) (by simp [execOp, e']) rx0
    · cases h
  case unOp op t x =>
    have hx := hρ x (by simp [Op.operands])
    cases op <;> simp only at h
    case not =>
      split at h
      · rename_i b e
        cases h
        have rx := hx _ e
        simp only [R] at rx
        exact .pure hs (v' := .bool !b) (by simp [execOp, rx, Op.unary]) rfl
      · cases h
    all_goals cases h
  case makeInterface t x =>
    have hx := hρ x (by simp [Op.operands])
    split at h
    · cases h
    · rename_i d hni hd
      split at h
      · rename_i u e
        cases h
        refine .pure hs (v' := .iface t (ρ' x)) ?_ ⟨_, rfl, hx _ e⟩
        simp only [execOp, Instr.makeInterface, Sem.run_bind, run_underlying (hT.und _ _ hd), Result.andThen_ok]
        cases d <;> first | rfl | exact absurd rfl (fun e => hni _ hd)
      · cases h
    · cases h
  case makeFunc fn first cap =>
    cases fn <;> simp only at h
    case func f =>
      split at h
      · rename_i xs ys h1 h2
        cases h
        have r1 := evList_sound h1 (fun p hp => hρ p (by simp only [Op.operands, Array.mem_append]; exact .inl (Array.mem_toList_iff.1 hp)))
        have r2 := evList_sound h2 (fun p hp => hρ p (by simp only [Op.operands, Array.mem_append]; exact .inr (Array.mem_toList_iff.1 hp)))
        refine .pure hs (v' := .func (.func f) (first.map ρ') (cap.map ρ')) (by simp [execOp, Instr.makeFunc]) ⟨(first.map ρ').toList, (cap.map ρ').toList, rfl, by simpa using r1, by simpa using r2⟩
      · cases h
    all_goals cases h
  case extract x i =>
    have hx := hρ x (by simp [Op.operands])
    split at h
    · rename_i vs e
      obtain ⟨h1, rfl⟩ := pur_some h
      obtain ⟨us, e', hr⟩ := hx _ e
      obtain ⟨u, hu, hru⟩ := hr.get h1
      exact .pure hs (v' := u) (by simp [execOp, e', Instr.extract, hu]) hru
    · cases h

theorem does_typeAssert (hT : TabOK P T) (hs : Sim ι s w) {callee : Callee HI} {x : Operand} {xt asserted : TypeId} {ok : Bool} (hρ : ∀ z ∈ (Op.typeAssert x xt asserted ok).operands, ∀ v, ρ z = some v → R ι v (ρ' z))
    (h : evOp P T callee ⟨dst, .typeAssert x xt asserted ok, type, pos, after, guard⟩ ρ s = some (v, s')) : Does P ⟨dst, .typeAssert x xt asserted ok, type, pos, after, guard⟩ ρ' ι s w v s' := by
  have hx := hρ x (by simp [Op.operands])
  simp only [evOp] at h
  split at h
  · cases h
  · rename_i d t u hni hd e
    obtain ⟨y, e', hr⟩ := hx _ e
    have hu := run_underlying (hT.und _ _ hd) w
    split at h
    · rename_i ht
      cases h
      cases ok
      · refine .pure hs (v' := y) ?_ hr
        simp only [execOp, Instr.typeAssert, Sem.run_bind, hu, Result.andThen_ok, e']
        cases d <;> first | exact absurd rfl (fun e => hni _ hd) | simp [ht]
      · refine .pure hs (v' := .tuple #[y, .bool true]) ?_ ⟨[y, .bool true], rfl, by simp [Rs, R, hr]⟩
        simp only [execOp, Instr.typeAssert, Sem.run_bind, hu, Result.andThen_ok, e']
        cases d <;> first | exact absurd rfl (fun e => hni _ hd) | simp [ht]
    · rename_i ht
      cases ok <;> simp only [Bool.false_eq_true, if_false, if_true] at h
      · cases h
      · split at h
        · rename_i z hz
          cases h
          obtain ⟨zv, hz1, hz2⟩ := hT.zero_run hz w
          refine .pure hs (v' := .tuple #[zv, .bool false]) ?_ ⟨[zv, .bool false], rfl, by simp [Rs, R, R_ofV ι _ _ hz2]⟩
          simp only [execOp, Instr.typeAssert, Sem.run_bind, hu, Result.andThen_ok, e']
          cases d <;> first | exact absurd rfl (fun e => hni _ hd) | simp [ht, hz1]
        · cases h
  · rename_i d hni hd e
    have rx := hx _ e
    simp only [R] at rx
    have hu := run_underlying (hT.und _ _ hd) w
    cases ok <;> simp only [Bool.false_eq_true, if_false, if_true] at h
    · cases h
    · split at h
      · rename_i z hz
        cases h
        obtain ⟨zv, hz1, hz2⟩ := hT.zero_run hz w
        refine .pure hs (v' := .tuple #[zv, .bool false]) ?_ ⟨[zv, .bool false], rfl, by simp [Rs, R, R_ofV ι _ _ hz2]⟩
        simp only [execOp, Instr.typeAssert, Sem.run_bind, hu, Result.andThen_ok, rx]
        cases d <;> first | exact absurd rfl (fun e => hni _ hd) | simp [hz1]
      · cases h
  · cases h

/-- The first n elements of a slice, read. -/
theorem sliceCells_sound {es n : Nat} {x : AV} {x' : Value} {cs : List AV} (hs : Sim ι s w) (hx : R ι x x') (h : sliceCells s es n x = some cs) :
    ∃ vs, (Builtin.firstCells es n x').run P w = .ok ⟨vs⟩ w ∧ Rs ι cs vs ∧ vs.length = n * es := by
  unfold sliceCells at h
  split at h
  · split at h
    · rename_i hn
      cases h
      simp only [R] at hx
      subst hx
      exact ⟨[], by simp [Builtin.firstCells], by simp [Rs], by simp [hn]⟩
    · cases h
  · rename_i b o es' len cap ex
    obtain ⟨cb, base, a, cap', sz, hm, rfl, hc, ha, hl, hz, hsz⟩ := hx
    split at h
    · rename_i hn
      cases h
      exact ⟨[], by simp [Builtin.firstCells, hn, loadCells, loadCellsFrom], by simp [Rs], by simp [hn]⟩
    · rename_i hn
      split at h
      · rename_i bs hbs
        split at h
        · rename_i hcond
          obtain ⟨h1, h2, h3⟩ := hcond
          cases h
          obtain ⟨cb', base', hm', hb, _⟩ := hs.live b _ (St.cells_get hbs)
          rw [hm] at hm'; cases hm'
          obtain ⟨vs, r1, r2, r3⟩ := hb.cellsAt.row o (n * es) h3
          have ha' : a = base + o := ha.resolve_left (by have := hc.1; omega)
          refine ⟨vs, ?_, r1, r2⟩
          have := run_loadCells_list (P := P) w ⟨cb, base + o, none⟩ vs r3
          rw [r2] at this
          simp only [Builtin.firstCells, ha', this]
        · cases h
      · cases h
  · rename_i bs o es' len cap ex
    obtain ⟨cb, base, a, cap', us, sp, rfl, hp, hc, ha, hl, hf, hr⟩ := hx
    split at h
    · rename_i hn
      cases h
      exact ⟨[], by simp [Builtin.firstCells, hn, loadCells, loadCellsFrom], by simp [Rs], by simp [hn]⟩
    · rename_i hn
      split at h
      · rename_i hcond
        obtain ⟨h1, h2, h3⟩ := hcond
        cases h
        obtain ⟨vs, r1, r2, r3⟩ := (hs.frzAt hf hr).row o (n * es) h3
        have ha' : a = base + o := ha.resolve_left (by have := hc.1; omega)
        have hp' : sp = none := hp.resolve_right (by have := hc.1; omega)
        subst hp'
        refine ⟨vs, ?_, r1, r2⟩
        have := run_loadCells_list (P := P) w ⟨cb, base + o, none⟩ vs r3
        rw [r2] at this
        simp only [Builtin.firstCells, ha', this]
      · cases h
  · cases h

theorem sliceLen_sound {x : AV} {x' : Value} {n : Nat} (hx : R ι x x') (h : sliceLen x = some n) : ∃ a cap, x' = .slice a n cap := by
  unfold sliceLen at h
  split at h
  · cases h; simp only [R] at hx; exact ⟨_, _, hx⟩
  · cases h; obtain ⟨cb, base, a, cap', sz, hm, rfl, _⟩ := hx; exact ⟨_, _, rfl⟩
  · cases h; obtain ⟨cb, base, a, cap', us, sp, rfl, _⟩ := hx; exact ⟨_, _, rfl⟩
  · cases h

theorem bytes_loop (w : World) (f : Value → ByteArray → Sem (ForInStep ByteArray)) (hf : ∀ n r, f (.int .u8 n) r = Pure.pure (ForInStep.yield (r.push (UInt8.ofNat n.toNat)))) : ∀ {cs : List AV} {vs : List Value} {bs : List UInt8} (acc : ByteArray), Rs ι cs vs → bytesOf cs = some bs →
    (forIn vs acc f : Sem ByteArray).run P w = .ok ⟨acc.data ++ ⟨bs⟩⟩ w
  | [], vs, bs, acc, h, hb => by
    simp only [Rs] at h
    subst h
    simp only [bytesOf] at hb
    cases hb
    simp
  | c :: cs, vs, bs, acc, h, hb => by
    simp only [Rs] at h
    obtain ⟨x, xs, rfl, h1, h2⟩ := h
    unfold bytesOf at hb
    split at hb
    · rename_i e; cases e
    · rename_i n rest e
      cases e
      split at hb
      · rename_i bs' hbs
        cases hb
        simp only [R] at h1
        subst h1
        have ih := bytes_loop w f hf (acc.push (UInt8.ofNat n.toNat)) h2 hbs
        rw [List.forIn_cons, hf]
        simp only [Sem.run_bind, Sem.run_pure, Result.andThen_ok]
        refine ih.trans ?_
        congr 2
        simp [ByteArray.push]
      · cases hb
    · cases hb

theorem does_convert (hT : TabOK P T) (hs : Sim ι s w) {callee : Callee HI} {src dst' : TypeId} {x : Operand} (hρ : ∀ z ∈ (Op.convert src dst' x).operands, ∀ v, ρ z = some v → R ι v (ρ' z))
    (h : evOp P T callee ⟨dst, .convert src dst' x, type, pos, after, guard⟩ ρ s = some (v, s')) : Does P ⟨dst, .convert src dst' x, type, pos, after, guard⟩ ρ' ι s w v s' := by
  have hx := hρ x (by simp [Op.operands])
  simp only [evOp] at h
  split at h
  · rename_i k0 k k1 n hd1 hd2 e
    cases h
    have rx := hx _ e
    simp only [R] at rx
    refine .pure hs (v' := .int k (k.wrap n)) ?_ rfl
    simp [execOp, convert, run_underlying (hT.und _ _ hd1), run_underlying (hT.und _ _ hd2), rx, Conv.intToInt]
  · rename_i e u hd1 hd2 hx1
    split at h
    · rename_i n hd3 hlen
      split at h
      · rename_i cs hcs
        split at h
        · rename_i bs hbs
          cases h
          have rx := hx _ hx1
          obtain ⟨a, cap, hsl⟩ := sliceLen_sound rx hlen
          obtain ⟨vs, h1, h2, h3⟩ := sliceCells_sound (P := P) hs rx hcs
          refine .pure hs (v' := .string ⟨⟨bs⟩⟩) ?_ rfl
          have hnone : a = none → vs = [] := fun e => by
            rw [hsl, e] at h1
            simp only [Builtin.firstCells, Sem.run_pure, Result.ok.injEq, and_true] at h1
            exact (by simpa using congrArg Array.toList h1.symm)
          simp only [execOp, convert, Sem.run_bind, run_underlying (hT.und _ _ hd1), run_underlying (hT.und _ _ hd2), run_underlying (hT.und _ _ hd3), Result.andThen_ok]
          rw [hsl] at h1 ⊢
          cases a with
          | none =>
            have hv := hnone rfl
            subst hv
            have : cs = [] := List.eq_nil_of_length_eq_zero (by simpa using h2.length)
            subst this
            simp only [bytesOf] at hbs
            cases hbs
            simp only [Sem.run_bind, run_underlying (hT.und _ _ hd3), Result.andThen_ok]
            rfl
          | some a =>
            simp only [Builtin.firstCells, Nat.mul_one] at h1
            have e2 : (⟨ByteArray.empty.data ++ ⟨bs⟩⟩ : ByteArray) = ⟨⟨bs⟩⟩ := congrArg ByteArray.mk (by show (#[] : Array UInt8) ++ ⟨bs⟩ = ⟨bs⟩; simp)
            simp only [Sem.run_bind, run_underlying (hT.und _ _ hd3), Conv.bytesToString, h1, Result.andThen_ok]
            simp only [← Array.forIn_toList]
            rw [bytes_loop (P := P) w _ (fun _ _ => rfl) ByteArray.empty h2 hbs, e2]
            rfl
        · cases h
      · cases h
    · cases h
  · rename_i b hd1 hd2 e
    cases h
    have rx := hx _ e
    simp only [R] at rx
    refine .pure hs (v' := .string b) ?_ rfl
    simp [execOp, convert, run_underlying (hT.und _ _ hd1), run_underlying (hT.und _ _ hd2), rx]
  · cases h
end
end Go.Am
