/- The operations are sound: calls; all together. -/
import Derived.Test.YtbjkfbcladkfcaaGreatDoorAmOpJ
set_option linter.unusedSimpArgs false
set_option linter.unusedVariables false
namespace Go.Am
section
variable {HI : HeapI} {P : Program} {T : Tab}
variable {ι : Emb} {s s' : St HI} {w : World} {v : AV}

theorem evBuiltin_sound (hT : TabOK P T) (hs : Sim ι s w) {b : Builtin} {ats : Array TypeId} {args : List AV} {vs : List Value} {type : TypeId} {consts : Array Bool} (hr : Rs ι args vs) (h : evBuiltin P T b ats args s = some (v, s')) :
    ∃ κ w' v', (builtin b ats type consts ⟨vs⟩).run P w = .ok (.value v') w' ∧ Stp ι s w κ s' w' ∧ Sim κ s' w' ∧ R κ v v' := by
  unfold evBuiltin at h
  have one : ∀ {x : AV}, args = [x] → ∃ y, vs = [y] ∧ R ι x y := fun e => by
    subst e
    simp only [Rs] at hr
    obtain ⟨y, ys, rfl, h1, rfl⟩ := hr
    exact ⟨y, rfl, h1⟩
  have two : ∀ {x1 x2 : AV}, args = [x1, x2] → ∃ y1 y2, vs = [y1, y2] ∧ R ι x1 y1 ∧ R ι x2 y2 := fun e => by
    subst e
    simp only [Rs] at hr
    obtain ⟨y, ys, rfl, h1, y2, ys2, rfl, h2, rfl⟩ := hr
    exact ⟨y, y2, rfl, h1, h2⟩
  have wrap : ∀ {m : Sem Value} {w' : World} {v' : Value}, m.run P w = .ok v' w' → (do pure (.value (← m)) : Sem Next).run P w = .ok (.value v') w' := fun e => by
    simp [e]
  split at h
  · rename_i t ts x xs hats
    obtain ⟨y, ys, rfl, hx, _⟩ : ∃ y ys, vs = y :: ys ∧ R ι x y ∧ True := by
      simp only [Rs] at hr
      obtain ⟨y, ys, e, h1, _⟩ := hr
      exact ⟨y, ys, e, h1, trivial⟩
    have ht : ats[0]? = some t := by
      have : ats.toList[0]? = some t := by rw [hats]; rfl
      simpa using this
    have hy : (⟨y :: ys⟩ : Array Value)[0]? = some y := rfl
    split at h
    · rename_i e hd
      split at h
      · rename_i n hl
        cases h
        obtain ⟨a, cap, rfl⟩ := sliceLen_sound hx hl
        exact ⟨ι, w, .int .i64 n, wrap (by simp [Builtin.len_, ht, hy, run_underlying (hT.und _ _ hd), goInt]), .refl _ _ _, hs, rfl⟩
      · cases h
    · rename_i kt et hd
      split at h
      · cases h
        simp only [R] at hx
        subst hx
        exact ⟨ι, w, .int .i64 0, wrap (by simp [Builtin.len_, ht, hy, run_underlying (hT.und _ _ hd), goInt]), .refl _ _ _, hs, rfl⟩
      · rename_i m
        split at h
        · rename_i es hes
          cases h
          obtain ⟨cb, ces, clock, h1, rfl, h3, h4, h5⟩ := map_at (P := P) hs hes hx
          have hl : es.length = ces.size := by simpa using h4.length
          exact ⟨ι, w, .int .i64 es.length, wrap (by simp [Builtin.len_, ht, hy, run_underlying (hT.und _ _ hd), goInt, h5, hl]), .refl _ _ _, hs, rfl⟩
        · cases h
      · cases h
    · rename_i hd
      split at h
      · rename_i bb
        cases h
        simp only [R] at hx
        subst hx
        exact ⟨ι, w, .int .i64 bb.size, wrap (by simp [Builtin.len_, ht, hy, run_underlying (hT.und _ _ hd), goInt]), .refl _ _ _, hs, rfl⟩
      · cases h
    · rename_i n e hd
      cases h
      exact ⟨ι, w, .int .i64 n, wrap (by simp [Builtin.len_, ht, hy, run_underlying (hT.und _ _ hd), goInt]), .refl _ _ _, hs, rfl⟩
    · cases h
  · rename_i t ts x xs hats
    obtain ⟨y, ys, rfl, hx, _⟩ : ∃ y ys, vs = y :: ys ∧ R ι x y ∧ True := by
      simp only [Rs] at hr
      obtain ⟨y, ys, e, h1, _⟩ := hr
      exact ⟨y, ys, e, h1, trivial⟩
    have ht : ats[0]? = some t := by
      have : ats.toList[0]? = some t := by rw [hats]; rfl
      simpa using this
    have hy : (⟨y :: ys⟩ : Array Value)[0]? = some y := rfl
    split at h
    · rename_i e hd
      split at h
      · cases h
        simp only [R] at hx
        subst hx
        exact ⟨ι, w, .int .i64 0, wrap (by simp [Builtin.cap_, ht, hy, run_underlying (hT.und _ _ hd), goInt]), .refl _ _ _, hs, rfl⟩
      · rename_i b o es len cap
        cases h
        obtain ⟨cb, base, a, cap', sz, hm, rfl, hc, _⟩ := hx
        have := hc.2 rfl
        subst this
        exact ⟨ι, w, .int .i64 cap', wrap (by simp [Builtin.cap_, ht, hy, run_underlying (hT.und _ _ hd), goInt]), .refl _ _ _, hs, rfl⟩
      · rename_i b o es len cap
        cases h
        obtain ⟨cb, base, a, cap', us, sp, rfl, _, hc, _⟩ := hx
        have := hc.2 rfl
        subst this
        exact ⟨ι, w, .int .i64 cap', wrap (by simp [Builtin.cap_, ht, hy, run_underlying (hT.und _ _ hd), goInt]), .refl _ _ _, hs, rfl⟩
      · cases h
    · cases h
  · rename_i sT xT x y hats
    obtain ⟨x', y', rfl, hx, hy⟩ := two rfl
    obtain ⟨κ, w', v', h1, h2, h3, h4⟩ := appendV_sound (P := P) (ty := type) hT hs hx hy h
    have hat : ats = #[sT, xT] := by
      apply Array.ext'
      simpa using hats
    exact ⟨κ, w', v', wrap (by rw [hat]; exact h1), h2, h3, h4⟩
  · rename_i t ts x y hats
    obtain ⟨x', y', rfl, hx, hy⟩ := two rfl
    have hat : ∃ r, ats = ⟨t :: r⟩ := ⟨ts, by apply Array.ext'; simpa using hats⟩
    obtain ⟨r, rfl⟩ := hat
    obtain ⟨w', v', h1, h2, h3, h4⟩ := copyV_sound (P := P) (t2 := 0) (ty := type) hT hs hx hy h
    refine ⟨ι, w', v', wrap ?_, h2, h3, h4⟩
    refine (show _ = _ from ?_).trans h1
    rfl
  · rename_i t ts x hats
    obtain ⟨x', rfl, hx⟩ := one rfl
    have hat : ∃ r, ats = ⟨t :: r⟩ := ⟨ts, by apply Array.ext'; simpa using hats⟩
    obtain ⟨r, rfl⟩ := hat
    split at h
    · rename_i s1 hc
      cases h
      obtain ⟨w', h1, h2, h3⟩ := clearV_sound (P := P) (ty := type) hT hs hx hc
      exact ⟨ι, w', .tuple #[], wrap h1, h2, h3, ⟨[], rfl, by simp [Rs]⟩⟩
    · cases h
  · rename_i t ts x y hats
    obtain ⟨x', y', rfl, hx, hy⟩ := two rfl
    have hat : ∃ r, ats = ⟨t :: r⟩ := ⟨ts, by apply Array.ext'; simpa using hats⟩
    obtain ⟨r, rfl⟩ := hat
    split at h
    · rename_i s1 hc
      cases h
      obtain ⟨w', h1, h2, h3⟩ := deleteV_sound (P := P) (ty := 0) hT hs hx hy hc
      exact ⟨ι, w', .tuple #[], wrap h1, h2, h3, ⟨[], rfl, by simp [Rs]⟩⟩
    · cases h
  · rename_i k a k2 c
    obtain ⟨x', y', rfl, hx, hy⟩ := two rfl
    cases h
    simp only [R] at hx hy
    subst hx; subst hy
    refine ⟨ι, w, .int k (if c < a then c else a), wrap ?_, .refl _ _ _, hs, rfl⟩
    simp [Builtin.min_, Builtin.min2]
  · rename_i k a k2 c
    obtain ⟨x', y', rfl, hx, hy⟩ := two rfl
    cases h
    simp only [R] at hx hy
    subst hx; subst hy
    refine ⟨ι, w, .int k (if c > a then c else a), wrap ?_, .refl _ _ _, hs, rfl⟩
    simp [Builtin.max_, Builtin.max2]
  · cases h

/-- What is asked of the functions that are called. -/
def CalleeOK (P : Program) (callee : Callee HI) : Prop :=
  ∀ f args (s : St HI) v s', callee f args s = some (v, s') → ∀ ι w vs, Rs ι args vs → Sim ι s w →
    Calls P f ⟨vs⟩ w fun e w' => ∃ v' κ, e = .returned v' ∧ Stp ι s w κ s' w' ∧ Sim κ s' w' ∧ R κ v v'

/-- An operation in an act. -/
theorem evOp_sound (hT : TabOK P T) {callee : Callee HI} (hc : CalleeOK P callee) {o : Oper} {ρ : Operand → Option AV} (h : evOp P T callee o ρ s = some (v, s')) {a : Act}
    (hρ : ∀ x ∈ o.op.operands, ∀ v, ρ x = some v → R ι v (a.eval x)) (hs : Sim ι s w) {K : Act → World → Prop} {Q : Exit → Act → World → Prop}
    (hK : ∀ κ w' v', Stp ι s w κ s' w' → Sim κ s' w' → R κ v v' → K (a.put o.dst v') w') : o.wp P a w K Q := by
  have ofDoes : Does P o a.eval ι s w v s' → o.wp P a w K Q := by
    rintro ⟨κ, w', v', nx, h1, h2, h3, h4, h5⟩
    unfold Oper.wp
    rw [h1]
    rcases h2 with rfl | ⟨rfl, rfl⟩
    · exact hK κ w' v' h3 h4 h5
    · exact hK κ w' undef h3 h4 h5
  have ofCall : ∀ {f : FuncId} {args : List AV} {vs : List Value}, callee f args s = some (v, s') → Rs ι args vs → (execOp a.eval o).run P w = .ok (.enter f ⟨vs⟩) w → o.wp P a w K Q := by
    intro f args vs hcall hr hrun
    unfold Oper.wp
    rw [hrun]
    refine (hc f args s v s' hcall ι w vs hr hs).mono fun e w' he => ?_
    obtain ⟨v', κ, rfl, h1, h2, h3⟩ := he
    exact hK κ w' v' h1 h2 h3
  obtain ⟨dst, op, type, pos, after, guard⟩ := o
  cases op with
  | move x => exact ofDoes (does_small hT hs trivial hρ h)
  | assign x => exact ofDoes (does_small hT hs trivial hρ h)
  | pick c x y => exact ofDoes (does_small hT hs trivial hρ h)
  | nilCheck x => exact ofDoes (does_small hT hs trivial hρ h)
  | unOp op t x => exact ofDoes (does_small hT hs trivial hρ h)
  | makeInterface t x => exact ofDoes (does_small hT hs trivial hρ h)
  | makeFunc fn x y => exact ofDoes (does_small hT hs trivial hρ h)
  | extract x i => exact ofDoes (does_small hT hs trivial hρ h)
  | alloc t =>
    simp only [evOp] at h
    split at h
    · rename_i z hz; cases h; exact ofDoes (does_alloc hT hs hz)
    · cases h
  | box t x =>
    simp only [evOp] at h
    split at h
    · rename_i u hu; cases h; exact ofDoes (does_box hs (hρ x (by simp [Op.operands]) _ hu))
    · cases h
  | build t ps => exact ofDoes (does_build hT hs hρ h)
  | buildSlice t n ps => exact ofDoes (does_buildSlice hT hs hρ h)
  | load t x => exact ofDoes (does_load hT hs hρ h)
  | store t x y => exact ofDoes (does_store hT hs hρ h)
  | binOp op t x y yt => exact ofDoes (does_binOp hT hs hρ h)
  | convert src d x => exact ofDoes (does_convert hT hs hρ h)
  | makeMap t r => exact ofDoes (does_makeMap hT hs hρ h)
  | makeSlice t l c => exact ofDoes (does_makeSlice hT hs hρ h)
  | slice t x lo hi mx => exact ofDoes (does_slice hT hs hρ h)
  | fieldAddr t x i => exact ofDoes (does_fieldAddr hT hs hρ h)
  | field t x i => exact ofDoes (does_field hT hs hρ h)
  | indexAddr t x i => exact ofDoes (does_indexAddr hT hs hρ h)
  | index t x i => exact ofDoes (does_index hT hs hρ h)
  | typeAssert x xt t ok => exact ofDoes (does_typeAssert hT hs hρ h)
  | range t x => exact ofDoes (does_iter hT hs trivial hρ h)
  | next it b =>
    cases b
    · simp [evOp] at h
    · exact ofDoes (does_iter hT hs trivial hρ h)
  | lookup t m k ok =>
    simp only [evOp] at h
    split at h
    · rename_i x y hx hy
      obtain ⟨h1, rfl⟩ := pur_some h
      obtain ⟨v', h2, h3⟩ := lookupV_sound (P := P) hT hs (hρ m (by simp [Op.operands]) _ hx) (hρ k (by simp [Op.operands]) _ hy) h1
      exact ofDoes (.pure hs (v' := v') (by simp [execOp, h2]) h3)
    · cases h
  | mapUpdate t m k x =>
    simp only [evOp] at h
    split at h
    · rename_i x' y' z' hx hy hz
      split at h
      · rename_i s1 hu
        cases h
        obtain ⟨w', h1, h2, h3⟩ := updateV_sound (P := P) hT hs (hρ m (by simp [Op.operands]) _ hx) (hρ k (by simp [Op.operands]) _ hy) (hρ x (by simp [Op.operands]) _ hz) hu
        exact ofDoes (.unit (by simp [execOp, h1]) h2 h3)
      · cases h
    · cases h
  | insert t m k x =>
    simp only [evOp] at h
    split at h
    · rename_i x' y' z' hx hy hz
      split at h
      · rename_i s1 hu
        cases h
        obtain ⟨w', h1, h2, h3⟩ := updateV_sound (P := P) hT hs (hρ m (by simp [Op.operands]) _ hx) (hρ k (by simp [Op.operands]) _ hy) (hρ x (by simp [Op.operands]) _ hz) hu
        exact ofDoes (.unit (by simp [execOp, h1]) h2 h3)
      · cases h
    · cases h
  | call c =>
    obtain ⟨cal, args, ats⟩ := c
    have hargs : ∀ x ∈ args.toList, ∀ v, ρ x = some v → R ι v (a.eval x) := fun x hx => hρ x (by
      simp only [Op.operands, Call.operands, Array.mem_append]
      exact .inr (Array.mem_toList_iff.1 hx))
    simp only [evOp, evCall] at h
    split at h
    · cases h
    · rename_i avs havs
      have hr := evList_sound havs hargs
      cases cal with
      | builtin b =>
        simp only at h
        obtain ⟨κ, w', v', h1, h2, h3, h4⟩ := evBuiltin_sound (P := P) (type := type) (consts := args.map fun | .const _ => true | _ => false) hT hs hr h
        refine ofDoes ⟨κ, w', v', _, ?_, .inl rfl, h2, h3, h4⟩
        simp only [execOp, resolve, Sem.run_bind, Sem.run_pure, Result.andThen_ok, invoke]
        refine (show _ = _ from ?_).trans h1
        congr 2
        apply Array.ext'
        simp
      | value f =>
        simp only at h
        have hf := hρ f (by simp [Op.operands, Call.operands])
        split at h
        · rename_i g first cap e
          unfold callF at h
          split at h
          · rename_i fn hfn
            obtain ⟨xs, ys, e2, r1, r2⟩ := hf _ e
            obtain ⟨p1, p2, p3⟩ := hT.func _ _ hfn
            refine ofCall (vs := xs ++ args.toList.map a.eval ++ ys) h ((r1.append hr).append r2) ?_
            have hb : fn.body.isNone = false := by
              cases hbb : fn.body with
              | none => rw [hbb] at p2; cases p2
              | some _ => rfl
            simp only [execOp, resolve, Deferred.ofValue, e2, Sem.run_bind, Sem.run_pure, Result.andThen_ok, invoke, callFunc, run_program, p1, p3, Bool.false_eq_true, if_false, hb]
            congr 2
            apply Array.ext'
            simp
          · cases h
        · cases h
      | invoke r name =>
        simp only at h
        have hrv := hρ r (by simp [Op.operands, Call.operands])
        split at h
        · rename_i t x e
          obtain ⟨y, e2, ry⟩ := hrv _ e
          split at h
          · rename_i inf d hinf hd
            split at h
            · rename_i m hm
              have hfuel : P.types.size + Made.depth = (P.types.size + Made.depth - 1) + 1 := by
                have : 0 < Made.depth := by decide
                omega
              -- the receiver is the value itself
              have key : ∀ {f : FuncId} {pr : Bool}, m.path.isEmpty = true → m.func = some (f, pr) → ((∃ e, d = .pointer e) ∧ pr = true ∨ (∀ e, d ≠ .pointer e) ∧ pr = false) → callF T callee f (x :: avs) s = some (v, s') →
                  (Oper.mk dst (.call ⟨.invoke r name, args, ats⟩) type pos after guard).wp P a w K Q := by
                intro f pr hpath hfunc hkind hcall
                unfold callF at hcall
                split at hcall
                · rename_i fn hfn
                  obtain ⟨p1, p2, p3⟩ := hT.func _ _ hfn
                  have hb : fn.body.isNone = false := by
                    cases hbb : fn.body with
                    | none => rw [hbb] at p2; cases p2
                    | some _ => rfl
                  have hpl : m.path.toList = [] := by simpa using hpath
                  have hmethod : (method (P.types.size + Made.depth) t y name).run P w = .ok (f, y) w := by
                    rw [hfuel]
                    simp only [method, Sem.run_bind, typeInfo, run_program, Result.andThen_ok, hT.info _ _ hinf, Sem.run_pure, hm, hpl, follow, hfunc, receiverAt, run_underlying (hT.und _ _ hd)]
                    rcases hkind with ⟨⟨e, rfl⟩, rfl⟩ | ⟨hne, rfl⟩
                    · simp [Place.get]
                    · cases d <;> first | exact absurd rfl (hne _) | simp [Place.get]
                  refine ofCall (vs := y :: args.toList.map a.eval) hcall (by simp only [Rs]; exact ⟨y, _, rfl, ry, hr⟩) ?_
                  have ex : (#[Value.iface t y] ++ args.map a.eval).extract 1 (#[Value.iface t y] ++ args.map a.eval).size = args.map a.eval := by
                    apply Array.ext'
                    simp only [Array.toList_extract, Array.toList_append, Array.toList_map]
                    simp only [List.extract_eq_take_drop, Array.size_append, Array.size_map]
                    simp
                    rw [List.take_of_length_le (by simp)]
                  have e0 : (#[Value.iface t y] ++ args.map a.eval)[0]? = some (.iface t y) := by rw [Array.getElem?_append_left (by simp)]; rfl
                  simp only [execOp, resolve, Sem.run_bind, Sem.run_pure, Result.andThen_ok, invoke, e2, e0, callMethod, run_program, hmethod, callFunc, p1, p3, Bool.false_eq_true, if_false, hb, ex]
                  congr 2
                  apply Array.ext'
                  simp
                · cases hcall
              split at h
              · exact key (by assumption) (by assumption) (.inl ⟨⟨_, rfl⟩, rfl⟩) h
              · cases h
              · rename_i f hp hfu hnp
                exact key hp hfu (.inr ⟨fun e he => hnp e he, rfl⟩) h
              · cases h
            · cases h
          · cases h
        · cases h
  | _ => simp [evOp] at h
end
end Go.Am
