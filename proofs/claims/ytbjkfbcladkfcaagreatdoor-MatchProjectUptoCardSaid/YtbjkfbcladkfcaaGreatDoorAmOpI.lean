/- The operations are sound: maps, the other builtins. -/
import Derived.Test.YtbjkfbcladkfcaaGreatDoorAmOpH
set_option linter.unusedSimpArgs false
set_option linter.unusedVariables false
namespace Go.Am
section
variable {HI : HeapI} {P : Program} {T : Tab}
variable {ι : Emb} {s s' : St HI} {w : World} {v : AV}

/-! ### keys -/
def bareEntry (e : AV × AV) : MapEntry := { key := (e.1.toV).getD undef, val := undef, born := 0 }

theorem findNow_alike {kind : TypeDesc} {k : Value} : ∀ {es : List (AV × AV)} {cs : List MapEntry} (i : Nat), EntR ι es cs →
    (Instr.findNow kind k (es.map bareEntry) i = none ↔ Instr.findNow kind k cs i = none) ∧
    (Instr.findNow kind k (es.map bareEntry) i = some none ↔ Instr.findNow kind k cs i = some none) ∧
    (∀ j u, Instr.findNow kind k (es.map bareEntry) i = some (some (j, u)) → ∃ c, i ≤ j ∧ cs[j - i]? = some c ∧ Instr.findNow kind k cs i = some (some (j, c.val))) := by
  intro es cs i h
  induction h generalizing i with
  | nil => simp [Instr.findNow]
  | @cons a b kv e es cs hk hk' hv h ih =>
    simp only [List.map_cons, Instr.findNow, bareEntry, hk, Option.getD_some, hk']
    cases Instr.sameNow kind k kv with
    | none => simp
    | some b =>
      cases b
      · refine ⟨(ih (i + 1)).1, (ih (i + 1)).2.1, fun j u hj => ?_⟩
        obtain ⟨c, h1, h2, h3⟩ := (ih (i + 1)).2.2 j u hj
        refine ⟨c, by omega, ?_, h3⟩
        rw [show j - i = (j - (i + 1)) + 1 by omega]
        simpa using h2
      · simp

theorem findAsking_alike {kt : TypeId} {k : Value} : ∀ {es : List (AV × AV)} {cs : List MapEntry} (i : Nat) {r : Option (Nat × Value)}, EntR ι es cs → (Instr.findAsking kt k (es.map bareEntry) i).quiet P = some r →
    ∀ w, ∃ r', (Instr.findAsking kt k cs i).run P w = .ok r' w ∧ (r = none → r' = none) ∧ ∀ j u, r = some (j, u) → ∃ c, i ≤ j ∧ cs[j - i]? = some c ∧ r' = some (j, c.val) := by
  intro es cs i r h
  induction h generalizing i r with
  | nil =>
    intro hr w
    have := run_quiet hr w
    simp only [List.map_nil, Instr.findAsking, Sem.run_pure, Result.ok.injEq, and_true] at this
    subst this
    exact ⟨none, rfl, fun _ => rfl, fun j u e => by cases e⟩
  | @cons a b kv e es cs hk hk' hv h ih =>
    intro hr w
    have hq := hr
    simp only [List.map_cons, Instr.findAsking, bareEntry, hk, Option.getD_some] at hq
    -- the test of the first key is quiet
    have key : ∀ {α β : Type} (m : Sem α) (f : α → Sem β) (y : β), (m.bind f).quiet P = some y → ∃ x, m.quiet P = some x ∧ (f x).quiet P = some y := by
      intro α β m f y
      induction m with
      | pure a => intro h; exact ⟨a, rfl, h⟩
      | program k ih => intro h; simp only [Sem.bind, Sem.quiet] at h ⊢; exact ih _ h
      | load => intro h; simp [Sem.bind, Sem.quiet] at h
      | store => intro h; simp [Sem.bind, Sem.quiet] at h
      | new => intro h; simp [Sem.bind, Sem.quiet] at h
      | shape => intro h; simp [Sem.bind, Sem.quiet] at h
      | freeze => intro h; simp [Sem.bind, Sem.quiet] at h
      | frozen => intro h; simp [Sem.bind, Sem.quiet] at h
      | getObj => intro h; simp [Sem.bind, Sem.quiet] at h
      | setObj => intro h; simp [Sem.bind, Sem.quiet] at h
      | choose => intro h; simp [Sem.bind, Sem.quiet] at h
      | sys => intro h; simp [Sem.bind, Sem.quiet] at h
      | mark => intro h; simp [Sem.bind, Sem.quiet] at h
      | halt => intro h; simp [Sem.bind, Sem.quiet] at h
    obtain ⟨x, hx, hrest⟩ := key _ _ _ hq
    have hrun := run_quiet hx w
    simp only [Instr.findAsking, hk', Sem.run_bind, hrun, Result.andThen_ok]
    cases x with
    | true =>
      simp only [if_true] at hrest ⊢
      have := run_quiet hrest w
      simp only [Sem.run_pure, Result.ok.injEq, and_true] at this
      subst this
      exact ⟨some (i, e.val), rfl, fun e => (by cases e), fun j u e' => ⟨e, by cases e'; exact ⟨Nat.le_refl _, by simp, rfl⟩⟩⟩
    | false =>
      simp only [Bool.false_eq_true, if_false] at hrest ⊢
      obtain ⟨r', q1, q2, q3⟩ := ih (i + 1) hrest w
      refine ⟨r', q1, q2, fun j u hj => ?_⟩
      obtain ⟨c, h1, h2, h3⟩ := q3 j u hj
      refine ⟨c, by omega, ?_, h3⟩
      rw [show j - i = (j - (i + 1)) + 1 by omega]
      simpa using h2

theorem findA_sound {kt : TypeId} {k : AV} {kv : Value} {es : List (AV × AV)} {cs : List MapEntry} {r : Option Nat} (he : EntR ι es cs) (hk : k.toV = some kv) (h : findA P kt k es = some r) (w : World) :
    (Instr.checkKey false 10000 kt kv).run P w = .ok () w ∧ (Instr.checkKey true 10000 kt kv).run P w = .ok () w ∧ ∃ r', (Instr.findKey kt kv cs).run P w = .ok r' w ∧ (r = none → r' = none) ∧ ∀ i, r = some i → ∃ c, cs[i]? = some c ∧ r' = some (i, c.val) := by
  unfold findA at h
  rw [hk] at h
  simp only at h
  have main : ∀ {q : Option (Nat × Value)}, (Instr.findKey kt kv (es.map fun e => { key := (e.1.toV).getD undef, val := undef, born := 0 })).quiet P = some q →
      ∃ r', (Instr.findKey kt kv cs).run P w = .ok r' w ∧ (q = none → r' = none) ∧ ∀ j u, q = some (j, u) → ∃ c, cs[j]? = some c ∧ r' = some (j, c.val) := by
    intro q hq
    have hq' : (Instr.findKey kt kv (es.map bareEntry)).quiet P = some q := hq
    -- the key's type
    cases hu : P.underlying kt with
    | none => simp [Instr.findKey, underlying, hu, program, stuck, Bind.bind, Sem.bind, Sem.quiet] at hq'
    | some d =>
      have hal := findNow_alike (ι := ι) (kind := d) (k := kv) 0 he
      simp only [Instr.findKey, underlying, program, Bind.bind, Sem.bind, Sem.quiet, hu, Pure.pure] at hq'
      simp only [Instr.findKey, Sem.run_bind, run_underlying hu, Result.andThen_ok]
      cases hf : Instr.findNow d kv (es.map bareEntry) 0 with
      | none =>
        rw [hf] at hq'
        rw [hal.1.1 hf]
        obtain ⟨r', q1, q2, q3⟩ := findAsking_alike (P := P) 0 he hq' w
        exact ⟨r', q1, q2, fun j u hj => let ⟨c, _, h2, h3⟩ := q3 j u hj; ⟨c, h2, h3⟩⟩
      | some x =>
        rw [hf] at hq'
        simp only [Sem.quiet, Option.some.injEq] at hq'
        subst hq'
        cases x with
        | none => rw [hal.2.1.1 hf]; exact ⟨none, rfl, fun _ => rfl, fun j u e => by cases e⟩
        | some y =>
          obtain ⟨j, u⟩ := y
          obtain ⟨c, _, hc, hu'⟩ := hal.2.2 j u hf
          rw [hu']
          exact ⟨some (j, c.val), rfl, fun e => (by cases e), fun j2 u2 e => ⟨c, by cases e; exact ⟨hc, rfl⟩⟩⟩
  split at h
  · rename_i a b i u h1 h2 h3
    cases h
    obtain ⟨r', m1, m2, m3⟩ := main h3
    obtain ⟨c, hc, hu'⟩ := m3 i u rfl
    exact ⟨run_quiet h1 w, run_quiet h2 w, r', m1, fun e => (by cases e), fun j e => ⟨c, by cases e; exact ⟨hc, hu'⟩⟩⟩
  · rename_i a b h1 h2 h3
    cases h
    obtain ⟨r', m1, m2, m3⟩ := main h3
    exact ⟨run_quiet h1 w, run_quiet h2 w, r', m1, fun _ => m2 rfl, fun j e => by cases e⟩
  · cases h

theorem findA_key {kt : TypeId} {k : AV} {es : List (AV × AV)} {r : Option Nat} (h : findA P kt k es = some r) : ∃ kv, k.toV = some kv := by
  unfold findA at h
  split at h
  · exact ⟨_, by assumption⟩
  · cases h

theorem EntR.get {es : List (AV × AV)} {cs : List MapEntry} (h : EntR ι es cs) : ∀ {i : Nat} {e : AV × AV}, es[i]? = some e → ∃ c kv, cs[i]? = some c ∧ e.1.toV = some kv ∧ c.key = kv ∧ R ι e.2 c.val := by
  induction h with
  | nil => intro i e hi; simp at hi
  | cons hk hk' hv _ ih =>
    intro i e hi
    cases i with
    | zero => simp at hi; subst hi; exact ⟨_, _, rfl, hk, hk', hv⟩
    | succ i => simp at hi; simpa using ih hi

theorem EntR.length {es : List (AV × AV)} {cs : List MapEntry} (h : EntR ι es cs) : es.length = cs.length := by
  induction h with
  | nil => rfl
  | cons _ _ _ _ ih => simp [ih]

theorem EntR.snoc {es : List (AV × AV)} {cs : List MapEntry} (h : EntR ι es cs) {k x : AV} {kv : Value} {c : MapEntry} (hk : k.toV = some kv) (hc : c.key = kv) (hx : R ι x c.val) : EntR ι (es ++ [(k, x)]) (cs ++ [c]) := by
  induction h with
  | nil => exact .cons hk hc hx .nil
  | cons a b d _ ih => exact .cons a b d ih

theorem EntR.set {es : List (AV × AV)} {cs : List MapEntry} (h : EntR ι es cs) {k x : AV} {kv : Value} {c : MapEntry} (hk : k.toV = some kv) (hc : c.key = kv) (hx : R ι x c.val) : ∀ i, EntR ι (es.set i (k, x)) (cs.set i c) := by
  induction h with
  | nil => intro i; exact .nil
  | cons a b d h ih =>
    intro i
    cases i with
    | zero => exact .cons hk hc hx h
    | succ i => exact .cons a b d (ih i)

theorem EntR.erase {es : List (AV × AV)} {cs : List MapEntry} (h : EntR ι es cs) : ∀ i, EntR ι (es.eraseIdx i) (cs.eraseIdx i) := by
  induction h with
  | nil => intro i; exact .nil
  | cons a b d h ih =>
    intro i
    cases i with
    | zero => exact h
    | succ i => exact .cons a b d (ih i)

/-- Where a live map lies. -/
theorem map_at (hs : Sim ι s w) {b : Nat} {es : List (AV × AV)} {m' : Value} (hb : s.mapOf b = some es) (hm : R ι (.map b) m') :
    ∃ cb ces clock, ι.map b = some (cb, 0) ∧ m' = .map (some cb) ∧ w.heap[cb]? = some (.map ces clock) ∧ EntR ι es ces.toList ∧ (getObj cb).run P w = .ok (.map ces clock) w := by
  obtain ⟨cb, h1, rfl⟩ := hm
  obtain ⟨cb', base, h2, ⟨h0, ces, clock, h3, h4⟩, _⟩ := hs.live b _ (St.mapOf_get hb)
  rw [h1] at h2; cases h2
  exact ⟨cb, ces, clock, h1, rfl, h3, h4, by simp [getObj, Sem.run, h3]⟩

/-- A look-up among entries that are known. -/
theorem lookup_done (hT : TabOK P T) {t kt et : TypeId} {k : AV} {k' m' : Value} {ok : Bool} {es : List (AV × AV)} {ces : Array MapEntry} (hd : T.und t = some (.map kt et)) (hk : R ι k k') (he : EntR ι es ces.toList)
    (hrun : (m' = .map none ∧ ces = #[]) ∨ ∃ cb clock, m' = .map (some cb) ∧ (getObj cb).run P w = .ok (.map ces clock) w)
    (h : (match findA P kt k es with
      | some (some i) => match es[i]? with
        | some e => some (if ok then .tuple [e.2, .bool true] else e.2)
        | none => none
      | some none => match T.zero et with
        | some z => some (if ok then .tuple [z, .bool false] else z)
        | none => none
      | none => none) = some v) :
    ∃ v', (Instr.lookup t m' k' ok).run P w = .ok v' w ∧ R ι v v' := by
  have hck : ∀ {kv : Value}, (Instr.checkKey false 10000 kt kv).run P w = .ok () w → (Instr.checkKey true 10000 kt kv).run P w = .ok () w → (Instr.checkKey ces.isEmpty 10000 kt kv).run P w = .ok () w := fun c1 c2 => by
    rcases Bool.eq_false_or_eq_true ces.isEmpty with e | e
    · rw [e]; exact c2
    · rw [e]; exact c1
  have shape : ∀ {q : Option (Nat × Value)} {x : Value × Bool}, (Instr.checkKey ces.isEmpty 10000 kt k').run P w = .ok () w → (Instr.findKey kt k' ces.toList).run P w = .ok q w →
      (match q with | some (_, v) => Pure.pure (v, true) | none => do Pure.pure (← zeroValue et, false) : Sem (Value × Bool)).run P w = .ok x w →
      (Instr.lookup t m' k' ok).run P w = .ok (if ok then .tuple #[x.1, .bool x.2] else x.1) w := by
    intro q x h1 h2 h3
    rcases hrun with ⟨rfl, rfl⟩ | ⟨cb, clock, rfl, hg⟩
    · simp only [Instr.lookup, Sem.run_bind, run_underlying (hT.und _ _ hd), Result.andThen_ok, Sem.run_pure, h1, h2]
      cases q with
      | none =>
        simp only [Sem.run_bind] at h3 ⊢
        cases hzv : (zeroValue et).run P w with
        | ok z w1 => rw [hzv] at h3; simp only [Result.andThen_ok, Sem.run_pure, Result.ok.injEq] at h3 ⊢; rw [← h3.1, ← h3.2]; exact ⟨rfl, rfl⟩
        | halt x w1 => rw [hzv] at h3; cases h3
      | some p =>
        obtain ⟨i, u⟩ := p
        simp only [Sem.run_pure, Result.ok.injEq, and_true] at h3 ⊢
        rw [← h3]
        rfl
    · simp only [Instr.lookup, Sem.run_bind, run_underlying (hT.und _ _ hd), Result.andThen_ok, hg, Sem.run_pure, h1, h2]
      cases q with
      | none =>
        simp only [Sem.run_bind] at h3 ⊢
        cases hzv : (zeroValue et).run P w with
        | ok z w1 => rw [hzv] at h3; simp only [Result.andThen_ok, Sem.run_pure, Result.ok.injEq] at h3 ⊢; rw [← h3.1, ← h3.2]; exact ⟨rfl, rfl⟩
        | halt x w1 => rw [hzv] at h3; cases h3
      | some p =>
        obtain ⟨i, u⟩ := p
        simp only [Sem.run_pure, Result.ok.injEq, and_true] at h3 ⊢
        rw [← h3]
        rfl
  split at h
  · rename_i i hfa
    obtain ⟨kv, hkv⟩ := findA_key hfa
    have ek := R_toV ι k kv k' hkv hk
    subst ek
    obtain ⟨c1, c2, r', f1, f2, f3⟩ := findA_sound (P := P) he hkv hfa w
    obtain ⟨c, hc, rfl⟩ := f3 i rfl
    split at h
    · rename_i e hei
      cases h
      obtain ⟨c', kv2, g1, g2, g3, g4⟩ := he.get hei
      rw [hc] at g1; cases g1
      refine ⟨_, shape (x := (c.val, true)) (hck c1 c2) f1 rfl, ?_⟩
      cases ok
      · exact g4
      · exact ⟨_, rfl, by simp [Rs, R, g4]⟩
    · cases h
  · rename_i hfa
    obtain ⟨kv, hkv⟩ := findA_key hfa
    have ek := R_toV ι k kv k' hkv hk
    subst ek
    obtain ⟨c1, c2, r', f1, f2, f3⟩ := findA_sound (P := P) he hkv hfa w
    have := f2 rfl
    subst this
    split at h
    · rename_i z hz
      cases h
      obtain ⟨zv, hz1, hz2⟩ := hT.zero_run hz w
      refine ⟨_, shape (x := (zv, false)) (hck c1 c2) f1 (by simp [hz1]), ?_⟩
      cases ok
      · exact R_ofV ι _ _ hz2
      · exact ⟨_, rfl, by simp [Rs, R, R_ofV ι _ _ hz2]⟩
    · cases h
  · cases h

theorem lookupV_sound (hT : TabOK P T) (hs : Sim ι s w) {t : TypeId} {m k : AV} {m' k' : Value} {ok : Bool} (hm : R ι m m') (hk : R ι k k') (h : lookupV P T s t m k ok = some v) :
    ∃ v', (Instr.lookup t m' k' ok).run P w = .ok v' w ∧ R ι v v' := by
  unfold lookupV at h
  split at h
  · rename_i kt et hd
    simp only at h
    split at h
    · rename_i es hes
      split at hes
      · cases hes
        simp only [R] at hm
        subst hm
        exact lookup_done hT hd hk (ces := #[]) .nil (.inl ⟨rfl, rfl⟩) h
      · obtain ⟨cb, ces, clock, h1, rfl, h3, h4, h5⟩ := map_at (P := P) hs hes hm
        exact lookup_done hT hd hk h4 (.inr ⟨cb, clock, rfl, h5⟩) h
      · cases hes
    · cases h
  · cases h

theorem run_setObj_map {cb : Nat} {ces : Array MapEntry} {clock : Nat} (h : w.heap[cb]? = some (.map ces clock)) (o : Obj) : (Go.setObj cb o).run P w = .ok () (World.setObj w cb o) := by
  simp [Go.setObj, Sem.run, h, World.setObj]

theorem updateV_sound (hT : TabOK P T) (hs : Sim ι s w) {t : TypeId} {m k x : AV} {m' k' x' : Value} (hm : R ι m m') (hk : R ι k k') (hx : R ι x x') (h : updateV P T s t m k x = some s') :
    ∃ w', (Instr.mapUpdate t m' k' x').run P w = .ok () w' ∧ Stp ι s w ι s' w' ∧ Sim ι s' w' := by
  unfold updateV at h
  split at h
  · rename_i kt et b hd
    split at h
    · rename_i es hes
      obtain ⟨cb, ces, clock, h1, rfl, h3, h4, h5⟩ := map_at (P := P) hs hes hm
      have hlt : cb < w.heap.size := hs.bmap _ _ _ h1
      split at h
      · rename_i i hfa
        obtain ⟨kv, hkv⟩ := findA_key hfa
        have ek := R_toV ι k kv k' hkv hk
        subst ek
        obtain ⟨c1, c2, r', f1, f2, f3⟩ := findA_sound (P := P) h4 hkv hfa w
        obtain ⟨c, hc, rfl⟩ := f3 i rfl
        split at h
        · rename_i e hei
          split at h
          · rename_i a cc ha hcc
            split at h
            · rename_i hsame
              cases h
              rw [hkv] at hcc; cases hcc
              obtain ⟨c', kv2, g1, g2, g3, g4⟩ := h4.get hei
              rw [hc] at g1; cases g1
              rw [ha] at g2; cases g2
              have key := sim_set hs (x := .map (es.set i (k, x))) (o := .map (ces.modify i fun e => { e with key := k', val := x' }) clock) (St.mapOf_get hes) h1 ⟨rfl, _, clock, setObj_same hlt, by
                have e1 : (ces.modify i fun e => { e with key := k', val := x' }).toList = ces.toList.set i { c with key := k', val := x' } := by
                  rw [Array.toList_modify]
                  apply List.ext_getElem?
                  intro j
                  by_cases hj : i = j
                  · subst hj
                    have hjl : i < ces.toList.length := (List.getElem?_eq_some_iff.1 hc).1
                    rw [List.getElem?_set_self hjl, List.getElem?_modify]
                    rw [hc]; simp
                  · rw [List.getElem?_set_ne hj, List.getElem?_modify]
                    simp [hj]
                rw [e1]
                exact h4.set hkv rfl hx i⟩
              refine ⟨_, ?_, key.2, key.1⟩
              have hce : ces[i]? = some c := by simpa using hc
              simp only [Instr.mapUpdate, Sem.run_bind, run_underlying (hT.und _ _ hd), Result.andThen_ok, h5, c1, f1]
              simp only [Instr.keyThatStays, hce, Option.map_some, Option.getD_some, g3, hsame, if_true, Sem.run_pure, Result.andThen_ok]
              exact run_setObj_map h3 _
            · cases h
          · cases h
        · cases h
      · rename_i hfa
        cases h
        obtain ⟨kv, hkv⟩ := findA_key hfa
        have ek := R_toV ι k kv k' hkv hk
        subst ek
        obtain ⟨c1, c2, r', f1, f2, f3⟩ := findA_sound (P := P) h4 hkv hfa w
        have := f2 rfl
        subst this
        have key := sim_set hs (x := .map (es ++ [(k, x)])) (o := .map (ces.push { key := k', val := x', born := clock }) (clock + 1)) (St.mapOf_get hes) h1 ⟨rfl, _, clock + 1, setObj_same hlt, by
          rw [Array.toList_push]
          exact h4.snoc hkv rfl hx⟩
        refine ⟨_, ?_, key.2, key.1⟩
        simp only [Instr.mapUpdate, Sem.run_bind, run_underlying (hT.und _ _ hd), Result.andThen_ok, h5, c1, f1]
        exact run_setObj_map h3 _
      · cases h
    · cases h
  · cases h

theorem deleteV_sound (hT : TabOK P T) (hs : Sim ι s w) {t ty : TypeId} {m k : AV} {m' k' : Value} (hm : R ι m m') (hk : R ι k k') (h : deleteV P T s t m k = some s') :
    ∃ w', (Builtin.delete_ #[t, ty] 0 #[m', k']).run P w = .ok (.tuple #[]) w' ∧ Stp ι s w ι s' w' ∧ Sim ι s' w' := by
  unfold deleteV at h
  split at h
  · rename_i kt et b hd
    split at h
    · rename_i es hes
      obtain ⟨cb, ces, clock, h1, rfl, h3, h4, h5⟩ := map_at (P := P) hs hes hm
      have hlt : cb < w.heap.size := hs.bmap _ _ _ h1
      have hck : ∀ {kv : Value}, (Instr.checkKey false 10000 kt kv).run P w = .ok () w → (Instr.checkKey true 10000 kt kv).run P w = .ok () w → (Instr.checkKey ces.isEmpty 10000 kt kv).run P w = .ok () w := fun c1 c2 => by
        rcases Bool.eq_false_or_eq_true ces.isEmpty with e | e
        · rw [e]; exact c2
        · rw [e]; exact c1
      split at h
      · rename_i i hfa
        cases h
        obtain ⟨kv, hkv⟩ := findA_key hfa
        have ek := R_toV ι k kv k' hkv hk
        subst ek
        obtain ⟨c1, c2, r', f1, f2, f3⟩ := findA_sound (P := P) h4 hkv hfa w
        obtain ⟨c, hc, rfl⟩ := f3 i rfl
        have key := sim_set hs (x := .map (es.eraseIdx i)) (o := .map (ces.eraseIdxIfInBounds i) clock) (St.mapOf_get hes) h1 ⟨rfl, _, clock, setObj_same hlt, by
          have : (ces.eraseIdxIfInBounds i).toList = ces.toList.eraseIdx i := by
            unfold Array.eraseIdxIfInBounds
            split
            · simp
            · rw [List.eraseIdx_of_length_le (by simp; omega)]
          rw [this]
          exact h4.erase i⟩
        refine ⟨_, ?_, key.2, key.1⟩
        have e0 : (#[t, ty] : Array TypeId)[0]? = some t := rfl
        have e1 : (#[Value.map (some cb), k'] : Array Value)[0]? = some (.map (some cb)) := rfl
        have e2 : (#[Value.map (some cb), k'] : Array Value)[1]? = some k' := rfl
        simp only [Builtin.delete_, e0, e1, e2, Sem.run_bind, run_underlying (hT.und _ _ hd), Result.andThen_ok, h5, hck c1 c2, f1, run_setObj_map h3, Sem.run_pure]
      · rename_i hfa
        cases h
        obtain ⟨kv, hkv⟩ := findA_key hfa
        have ek := R_toV ι k kv k' hkv hk
        subst ek
        obtain ⟨c1, c2, r', f1, f2, f3⟩ := findA_sound (P := P) h4 hkv hfa w
        have := f2 rfl
        subst this
        have hsame : World.setObj w cb (.map ces clock) = w := by
          have hv : w.heap[cb] = .map ces clock := by
            have := (Array.getElem?_eq_some_iff.1 h3).2
            exact this
          unfold World.setObj
          have : w.heap.setIfInBounds cb (.map ces clock) = w.heap := by
            apply Array.ext
            · simp
            · intro j h1 h2
              by_cases hj : cb = j
              · subst hj; simp [hv]
              · rw [Array.getElem_setIfInBounds_ne _ hj]
          rw [this]
        refine ⟨w, ?_, .refl _ _ _, hs⟩
        have e0 : (#[t, ty] : Array TypeId)[0]? = some t := rfl
        have e1 : (#[Value.map (some cb), k'] : Array Value)[0]? = some (.map (some cb)) := rfl
        have e2 : (#[Value.map (some cb), k'] : Array Value)[1]? = some k' := rfl
        simp only [Builtin.delete_, e0, e1, e2, Sem.run_bind, run_underlying (hT.und _ _ hd), Result.andThen_ok, h5, hck c1 c2, f1, run_setObj_map h3, Sem.run_pure, hsame]
      · cases h
    · cases h
  · cases h
end
end Go.Am
