/- The abstract machine's code and calls are sound. -/
import Derived.Test.YtbjkfbcladkfcaaGreatDoorAmCodeDef
set_option linter.unusedSimpArgs false
set_option linter.unusedVariables false
namespace Go.Am
section
variable {HI : HeapI} {P : Program} {T : Tab} {callee : Callee HI} {N : Nat} {cert : Nat → Option (List Nat)} {fuel : Nat}

def Ex.toExit : Ex → Exit
  | .normal => .normal
  | .exit i => .exit i
  | .ret => .ret

theorem R_tuple_nil {ι : Emb} : R ι (.tuple []) undef := ⟨[], rfl, by simp [Rs]⟩

theorem getD_get {a : Act} {t : Nat} {v : AV} {ι : Emb} {b : Bool} (h : R ι v (a.tmps.getD t undef)) (hb : v = .bool b) : a.tmps[t]? = some (.bool b) := by
  subst hb
  simp only [R] at h
  rw [Array.getD_eq_getD_getElem?] at h
  cases e : a.tmps[t]? with
  | none => rw [e] at h; simp [undef] at h
  | some y => rw [e] at h; simpa using h

theorem RelAct.opd {ι : Emb} {env : Env} {a : Act} (h : RelAct ι env N a) {x : Operand} {v : AV} (hv : opd env x = some v) : R ι v (a.eval x) := by
  cases x with
  | tmp u => exact h.env u v hv
  | const c => simp only [Am.opd] at hv; exact R_ofV ι c v hv
  | global g => simp [Am.opd] at hv
  | func f => simp only [Am.opd] at hv; cases hv; exact ⟨[], [], rfl, by simp [Rs], by simp [Rs]⟩

theorem RelAct.wants {ι : Emb} {env : Env} {a : Act} (h : RelAct ι env N a) {ops : Array Oper} {o : Oper} {b : Bool} (hw : wantedA ops env o = some b) : Region.wanted o (yielded ops a.tmps) = b := by
  unfold wantedA at hw
  unfold Region.wanted
  cases hgd : o.guard with
  | none => rw [hgd] at hw; simpa using hw
  | some p =>
    obtain ⟨g, want⟩ := p
    rw [hgd] at hw
    simp only at hw ⊢
    split at hw
    · rename_i og hog
      split at hw
      · rename_i d hd
        split at hw
        · rename_i c hb
          have hget := getD_get (h.env d _ hb) rfl
          simp only [Option.some.injEq] at hw
          rw [← hw]
          simp [yielded, hog, hd, hget]
        · rename_i hb
          obtain ⟨vs, e, h0⟩ := h.env d _ hb
          simp only [Rs] at h0
          subst h0
          simp only [Option.some.injEq] at hw
          rw [← hw]
          have : yielded ops a.tmps g = none := by
            unfold yielded
            simp only [hog, Option.bind_some, hd]
            rw [Array.getD_eq_getD_getElem?] at e
            cases e2 : a.tmps[d]? with
            | none => rfl
            | some y => rw [e2] at e; simp only [Option.getD_some] at e; subst e; rfl
          rw [this]; rfl
        · cases hw
      · cases hw
    · cases hw

theorem RelAct.putO {ι : Emb} {env : Env} {a : Act} (h : RelAct ι env N a) {o : Oper} (hd : dstOk N o = true) {v : AV} {v' : Value} (hv : R ι v v') : RelAct ι (env.putO o.dst v) N (a.put o.dst v') := by
  cases hdd : o.dst with
  | none => exact h
  | some d =>
    refine ⟨by simp [Act.put, h.size], by simp [Act.put, h.defers], fun t u hu => ?_⟩
    have hlt : d < a.tmps.size := by rw [h.size]; exact dstOk_lt hd hdd
    rw [getD_put hlt]
    simp only [Env.putO, Env.get_put] at hu
    split at hu
    · rename_i e; cases hu; rw [if_pos e]; exact hv
    · rename_i e; rw [if_neg e]; exact h.env t u hu

theorem evOps_sound (hT : TabOK P T) (hc : CalleeOK P callee) {ops : Array Oper} : ∀ (l : List Oper) (n : Nat) {env env' : Env} {s s' : St HI} {a : Act} {w : World} {ι : Emb} {Q : Exit → Act → World → Prop}, (∀ i, l[i]? = ops[n + i]?) → evOps P T callee N ops l env s = some (env', s') → Sim ι s w → RelAct ι env N a →
    (∀ κ a' w', Stp ι s w κ s' w' → Sim κ s' w' → RelAct κ env' N a' → Q .normal a' w') → wpOps P ops Q (List.range' n l.length) a w
  | [], n, env, env', s, s', a, w, ι, Q, _, h, hs, ha, hK => by
    simp only [evOps, Option.some.injEq, Prod.mk.injEq] at h
    obtain ⟨rfl, rfl⟩ := h
    simp only [List.length_nil, List.range'_zero, wpOps]
    exact hK ι a w (.refl _ _ _) hs ha
  | o :: l, n, env, env', s, s', a, w, ι, Q, hl, h, hs, ha, hK => by
    have ho : ops[n]? = some o := by have := hl 0; simpa using this.symm
    have hl' : ∀ i, l[i]? = ops[n + 1 + i]? := fun i => by have := hl (i + 1); simp only [List.getElem?_cons_succ] at this; rw [this]; congr 1; omega
    simp only [List.length_cons, List.range'_succ]
    rw [wpOps_cons]
    unfold wpOp
    simp only [ho]
    simp only [evOps] at h
    split at h
    · rename_i hd
      split at h
      · rename_i hw
        simp only [ha.wants hw, if_true]
        split at h
        · rename_i v s1 h1
          refine .inl (evOp_sound hT hc h1 (fun x _ v hv => ha.opd hv) hs (fun κ w' v' p1 p2 p3 => ?_))
          exact evOps_sound hT hc l (n + 1) hl' h p2 ((ha.mono p1.le).putO hd p3) (fun κ2 a2 w2 q1 q2 q3 => hK κ2 a2 w2 (p1.trans q1) q2 q3)
        · cases h
      · rename_i hw
        simp only [ha.wants hw, Bool.false_eq_true, if_false]
        exact evOps_sound hT hc l (n + 1) hl' h hs (ha.putO hd R_tuple_nil) hK
      · cases h
    · cases h

theorem region_sound (hT : TabOK P T) (hc : CalleeOK P callee) (hmix : P.follows .mixedOrders = true) {id : Nat} {ops : Array Oper} {draw : Bool} (hreg : regsOk cert (.region id ops draw) = true) {env env' : Env} {s s' : St HI} {a : Act} {w : World} {ι : Emb} {Q : Exit → Act → World → Prop} (h : evRegion P T callee N cert id ops draw env s = some (env', s')) (hs : Sim ι s w) (ha : RelAct ι env N a)
    (hK : ∀ κ a' w', Stp ι s w κ s' w' → Sim κ s' w' → RelAct κ env' N a' → Q .normal a' w') : (Code.region id ops draw).wp P Q a w := by
  cases draw with
  | true =>
    simp only [evRegion] at h
    split at h
    · rename_i ms hms
      simp only [regsOk, hms, Bool.and_eq_true, decide_eq_true_eq] at hreg
      exact draw_sound hT hc hmix hreg.2 hreg.1 h hs ha hK
    · cases h
  | false =>
    simp only [evRegion] at h
    refine wp_region ?_
    have := evOps_sound (n := 0) hT hc ops.toList (by simp) h hs ha hK
    rw [List.range_eq_range']
    simpa using this

theorem inter_get {env env0 : Env} {t : Nat} {v : AV} (h : Env.get (PT.inter env env0) t = some v) : env.get t = some v := by
  unfold Env.get at *
  rw [PT.get_inter] at h
  split at h
  · exact h
  · cases h

theorem wp_loop_n {c : Code} {Q : Exit → Act → World → Prop} (I : Nat → Act → World → Prop)
    (round : ∀ n a w, I n a w → c.wp P (Exit.then (fun a' w' => ∃ m, m < n ∧ I m a' w') Q) a w) {n : Nat} {a : Act} {w : World} (h0 : I n a w) : (Code.loop c).wp P Q a w := by
  intro b k cs
  have key : ∀ n a w, I n a w → ∃ e a' w', Q e a' w' ∧ Arrives P (lone (b.at a (.code c :: .inLoop c :: k)) cs w) b k cs e a' w' := by
    intro n
    induction n using Nat.strongRecOn with
    | ind n ih =>
      intro a w hI
      obtain ⟨e, a1, w1, hq, harr⟩ := round n a w hI b (.inLoop c :: k) cs
      have pass : ∀ e, e ≠ Exit.normal → Q e a1 w1 → Arrives P (lone (b.at a (.code c :: .inLoop c :: k)) cs w) b (.inLoop c :: k) cs e a1 w1 →
          ∃ e a' w', Q e a' w' ∧ Arrives P (lone (b.at a (.code c :: .inLoop c :: k)) cs w) b k cs e a' w' := fun e hne hq harr =>
        ⟨e, a1, w1, hq, .pass (x := .inLoop c) rfl (fun _ _ => .inl hne) harr⟩
      cases e with
      | normal =>
        obtain ⟨m, hm, hI1⟩ := hq
        obtain ⟨e2, a2, w2, hq2, harr2⟩ := ih m hm a1 w1 hI1
        exact ⟨e2, a2, w2, hq2, .of_steps (Steps.trans harr (.one step_inLoop)) harr2⟩
      | exit id => exact pass _ (by simp) hq harr
      | goto l => exact pass _ (by simp) hq harr
      | ret => exact pass _ (by simp) hq harr
      | panic ch => exact pass _ (by simp) hq harr
      | outgrown => exact pass _ (by simp) hq harr
  obtain ⟨e, a', w', hq, harr⟩ := key n a w h0
  exact ⟨e, a', w', hq, .of_steps (.one step_loop) harr⟩


theorem code_sound (hT : TabOK P T) (hc : CalleeOK P callee) (hmix : P.follows .mixedOrders = true) : ∀ (c : Code) {env env' : Env} {s s' : St HI} {a : Act} {w : World} {ι : Emb} {x : Ex} {Q : Exit → Act → World → Prop}, regsOk cert c = true → evCode P T callee N cert fuel c env s = some (x, env', s') → Sim ι s w → RelAct ι env N a →
    (∀ κ a' w', Stp ι s w κ s' w' → Sim κ s' w' → RelAct κ env' N a' → Q x.toExit a' w') → c.wp P Q a w
  | .skip, env, env', s, s', a, w, ι, x, Q, _, h, hs, ha, hK => by
    simp only [evCode, Option.some.injEq, Prod.mk.injEq] at h
    obtain ⟨rfl, rfl, rfl⟩ := h
    exact wp_skip (hK ι a w (.refl _ _ _) hs ha)
  | .label l, env, env', s, s', a, w, ι, x, Q, _, h, hs, ha, hK => by
    simp only [evCode, Option.some.injEq, Prod.mk.injEq] at h
    obtain ⟨rfl, rfl, rfl⟩ := h
    exact wp_label (hK ι a w (.refl _ _ _) hs ha)
  | .exit i, env, env', s, s', a, w, ι, x, Q, _, h, hs, ha, hK => by
    simp only [evCode, Option.some.injEq, Prod.mk.injEq] at h
    obtain ⟨rfl, rfl, rfl⟩ := h
    exact wp_exit (hK ι a w (.refl _ _ _) hs ha)
  | .ret, env, env', s, s', a, w, ι, x, Q, _, h, hs, ha, hK => by
    simp only [evCode, Option.some.injEq, Prod.mk.injEq] at h
    obtain ⟨rfl, rfl, rfl⟩ := h
    exact wp_ret (hK ι a w (.refl _ _ _) hs ha)
  | .region id ops draw, env, env', s, s', a, w, ι, x, Q, hr, h, hs, ha, hK => by
    simp only [evCode] at h
    split at h
    · rename_i e s1 h1
      simp only [Option.some.injEq, Prod.mk.injEq] at h
      obtain ⟨rfl, rfl, rfl⟩ := h
      exact region_sound hT hc hmix hr h1 hs ha hK
    · cases h
  | .seq c1 c2, env, env', s, s', a, w, ι, x, Q, hr, h, hs, ha, hK => by
    simp only [regsOk, Bool.and_eq_true] at hr
    simp only [evCode] at h
    refine wp_seq ?_
    split at h
    · rename_i e s1 h1
      refine code_sound hT hc hmix c1 hr.1 h1 hs ha (fun κ a1 w1 p1 p2 p3 => ?_)
      exact code_sound hT hc hmix c2 hr.2 h p2 p3 (fun κ2 a2 w2 q1 q2 q3 => hK κ2 a2 w2 (p1.trans q1) q2 q3)
    · rename_i r hne h1
      obtain ⟨x1, e1, s1⟩ := r
      simp only [Option.some.injEq, Prod.mk.injEq] at h
      obtain ⟨rfl, rfl, rfl⟩ := h
      refine code_sound hT hc hmix c1 hr.1 h1 hs ha (fun κ a1 w1 p1 p2 p3 => ?_)
      have hk := hK κ a1 w1 p1 p2 p3
      cases x1 with
      | normal => exact absurd rfl (hne e1 s1)
      | exit i => exact hk
      | ret => exact hk
    · cases h
  | .cond c c1 c2, env, env', s, s', a, w, ι, x, Q, hr, h, hs, ha, hK => by
    simp only [regsOk, Bool.and_eq_true] at hr
    simp only [evCode] at h
    split at h
    · rename_i hb
      have := ha.opd hb
      simp only [R] at this
      exact wp_cond_true this (code_sound hT hc hmix c1 hr.1 h hs ha hK)
    · rename_i hb
      have := ha.opd hb
      simp only [R] at this
      exact wp_cond_false this (code_sound hT hc hmix c2 hr.2 h hs ha hK)
    · cases h
  | .block id c, env, env', s, s', a, w, ι, x, Q, hr, h, hs, ha, hK => by
    simp only [regsOk] at hr
    simp only [evCode] at h
    refine wp_block ?_
    split at h
    · rename_i i e s1 h1
      split at h
      · rename_i hi
        simp only [Option.some.injEq, Prod.mk.injEq] at h
        obtain ⟨rfl, rfl, rfl⟩ := h
        refine code_sound hT hc hmix c hr h1 hs ha (fun κ a1 w1 p1 p2 p3 => ?_)
        simp only [Ex.toExit, Exit.inBlock]
        rw [if_pos (Nat.eq_of_beq_eq_true hi)]
        exact hK κ a1 w1 p1 p2 p3
      · rename_i hi
        simp only [Option.some.injEq, Prod.mk.injEq] at h
        obtain ⟨rfl, rfl, rfl⟩ := h
        refine code_sound hT hc hmix c hr h1 hs ha (fun κ a1 w1 p1 p2 p3 => ?_)
        simp only [Ex.toExit, Exit.inBlock]
        rw [if_neg (fun e => hi (by rw [e]; exact Nat.beq_refl _))]
        exact hK κ a1 w1 p1 p2 p3
    · rename_i r hne h1
      obtain ⟨x1, e1, s1⟩ := r
      simp only [Option.some.injEq, Prod.mk.injEq] at h
      obtain ⟨rfl, rfl, rfl⟩ := h
      refine code_sound hT hc hmix c hr h1 hs ha (fun κ a1 w1 p1 p2 p3 => ?_)
      have hk := hK κ a1 w1 p1 p2 p3
      cases x1 with
      | normal => exact hk
      | exit i => exact absurd rfl (hne i e1 s1)
      | ret => exact hk
    · cases h
  | .loop c, env, env', s, s', a, w, ι, x, Q, hr, h, hs, ha, hK => by
    simp only [regsOk] at hr
    simp only [evCode] at h
    refine wp_loop_n (fun n a1 w1 => ∃ e1 s1 κ, loopF (evCode P T callee N cert fuel c) env n e1 s1 = some (x, env', s') ∧ Stp ι s w κ s1 w1 ∧ Sim κ s1 w1 ∧ RelAct κ e1 N a1) ?_ (n := fuel) ⟨env, s, ι, h, .refl _ _ _, hs, ha⟩
    rintro n a1 w1 ⟨e1, s1, κ, h1, p1, p2, p3⟩
    cases n with
    | zero => simp [loopF] at h1
    | succ n =>
      simp only [loopF] at h1
      split at h1
      · rename_i e2 s2 h2
        refine code_sound hT hc hmix c hr h2 p2 p3 (fun κ2 a2 w2 q1 q2 q3 => ?_)
        exact ⟨n, Nat.lt_succ_self n, _, _, κ2, h1, p1.trans q1, q2, q3.size, q3.defers, fun t v hv => q3.env t v (inter_get hv)⟩
      · rename_i r hne h2
        obtain ⟨x2, e2, s2⟩ := r
        simp only [Option.some.injEq, Prod.mk.injEq] at h1
        obtain ⟨rfl, rfl, rfl⟩ := h1
        refine code_sound hT hc hmix c hr h2 p2 p3 (fun κ2 a2 w2 q1 q2 q3 => ?_)
        have hk := hK κ2 a2 w2 (p1.trans q1) q2 q3
        cases x2 with
        | normal => exact absurd rfl (hne e2 s2)
        | exit i => exact hk
        | ret => exact hk
      · cases h1
  | .rangeFunc .., _, _, _, _, _, _, _, _, _, _, h, _, _, _ => by simp [evCode] at h
  | .scope _, _, _, _, _, _, _, _, _, _, _, h, _, _, _ => by simp [evCode] at h
  | .goto _, _, _, _, _, _, _, _, _, _, _, h, _, _, _ => by simp [evCode] at h

theorem results_sound (hT : TabOK P T) {ι : Emb} {env : Env} {s : St HI} {w : World} {a : Act} (hs : Sim ι s w) (ha : RelAct ι env N a) {g : ResultVar → Sem Value}
    (hg1 : ∀ t, g (.tmp t) = pure (a.tmps.getD t undef)) (hg2 : ∀ b t, g (.cell b t) = do loadVar t (← asAddr (a.tmps.getD b undef))) : ∀ (rs : List ResultVar) {vs : List AV}, resA T env s rs = some vs →
    ∃ us, (rs.mapM g).run P w = .ok us w ∧ Rs ι vs us
  | [], vs, h => by
    simp only [resA, Option.some.injEq] at h
    subst h
    exact ⟨[], by simp, by simp [Rs]⟩
  | .tmp t :: rs, vs, h => by
    simp only [resA] at h
    split at h
    · rename_i v vs' hv hvs
      cases h
      obtain ⟨us, h1, h2⟩ := results_sound hT hs ha hg1 hg2 rs hvs
      refine ⟨a.tmps.getD t undef :: us, ?_, ⟨_, _, rfl, ha.env t v hv, h2⟩⟩
      simp only [List.mapM_cons, hg1, Sem.run_bind, Sem.run_pure, Result.andThen_ok, h1]
    · cases h
  | .cell b t :: rs, vs, h => by
    simp only [resA] at h
    split at h
    · rename_i p hp
      split at h
      · rename_i v vs' hv hvs
        cases h
        obtain ⟨us, h1, h2⟩ := results_sound hT hs ha hg1 hg2 rs hvs
        obtain ⟨v', q1, q2⟩ := loadV_sound (P := P) hT hs (ha.env b p hp) hv
        refine ⟨v' :: us, ?_, ⟨_, _, rfl, q2, h2⟩⟩
        obtain ⟨ad, had⟩ : ∃ ad, a.tmps.getD b undef = .pointer (some ad) := by
          have hr := ha.env b p hp
          unfold loadV at hv
          split at hv
          · obtain ⟨cb, base, _, e⟩ := hr; exact ⟨_, e⟩
          · obtain ⟨cb, base, _, e, _⟩ := hr; exact ⟨_, e⟩
          · cases hv
        rw [had] at q1
        simp only [Instr.loadAt, Instr.sureAddr, Sem.run_bind, Sem.run_pure, Result.andThen_ok] at q1
        simp only [List.mapM_cons, hg2, Sem.run_bind, had, asAddr, Sem.run_pure, Result.andThen_ok, q1, h1]
      · cases h
    · cases h

theorem single_size : ∀ {vs : List AV} {us : List Value} {ι : Emb}, Rs ι vs us → R ι (single vs) (if h : (⟨us⟩ : Array Value).size = 1 then (⟨us⟩ : Array Value)[0] else .tuple ⟨us⟩)
  | [], _, ι, h => by simp only [Rs] at h; subst h; exact ⟨[], rfl, by simp [Rs]⟩
  | [v], _, ι, ⟨u, us, e, h1, h2⟩ => by simp only [Rs] at h2; subst h2; subst e; simpa [single] using h1
  | v :: v2 :: vs, _, ι, ⟨u, us, e, h1, u2, us2, e2, h2, h3⟩ => by
    subst e2; subst e
    rw [dif_neg (by simp)]
    exact ⟨_, rfl, ⟨_, _, rfl, h1, _, _, rfl, h2, h3⟩⟩

theorem callA_sound (hT : TabOK P T) (hmix : P.follows .mixedOrders = true) {certs : Nat → Nat → Option (List Nat)} {prim : Callee HI} (hprim : CalleeOK P prim)
    (hreg : ∀ f fn c, T.func f = some fn → fn.body = some c → regsOk (certs f) c = true) : ∀ d, CalleeOK P (callA P T fuel certs prim d)
  | 0 => hprim
  | d + 1 => by
    intro f args s v s' h ι w vs hr hs
    simp only [callA] at h
    split at h
    · rename_i r hp
      cases h
      exact hprim f args s v s' hp ι w vs hr hs
    · split at h
      · rename_i fn hfn
        split at h
        · rename_i c hb
          split at h
          · rename_i hle
            have hlen : args.length ≤ fn.ntmps := Nat.le_of_ble_eq_true hle
            have hvl := hr.length
            have ha : RelAct ι (argsEnv args) fn.ntmps { tmps := ⟨vs⟩ ++ Array.replicate (fn.ntmps - (⟨vs⟩ : Array Value).size) undef, defers := [] } := by
              refine ⟨by simp; omega, rfl, fun t u hu => ?_⟩
              unfold argsEnv Env.get at hu
              rw [PT.get_ofList] at hu
              split at hu
              · rename_i hc
                obtain ⟨y, hy, hyr⟩ := hr.get (i := t) (by simpa using hu)
                have hy' : (⟨vs⟩ : Array Value)[t]? = some y := by simpa using hy
                have hts : t < vs.length := (List.getElem?_eq_some_iff.1 hy).1
                rw [Array.getD_eq_getD_getElem?, Array.getElem?_append_left (by simpa using hts), hy']
                exact hyr
              · rw [PT.get_leaf] at hu; cases hu
            have fin : ∀ {e : Ex} {env : Env} {s1 : St HI} {rs : List AV}, (e = .normal ∨ e = .ret) → evCode P T (callA P T fuel certs prim d) fn.ntmps (certs f) fuel c (argsEnv args) s = some (e, env, s1) → resA T env s1 fn.results.toList = some rs →
                Calls P f ⟨vs⟩ w fun e w' => ∃ v' κ, e = .returned v' ∧ Stp ι s w κ s1 w' ∧ Sim κ s1 w' ∧ R κ (single rs) v' := by
              intro e env s1 rs he hev hrs
              refine calls_of_wp (hT.func _ _ hfn).1 hb ?_
              refine code_sound hT (callA_sound hT hmix hprim hreg d) hmix c (hreg f fn c hfn hb) hev hs ha (fun κ a' w' p1 p2 p3 => ?_)
              have hrun : ∃ v', (results fn a'.tmps).run P w' = .ok v' w' ∧ R κ (single rs) v' := by
                unfold results
                obtain ⟨us, h1, h2⟩ := results_sound (P := P) hT p2 p3 (g := fun
                  | .tmp t => pure (a'.tmps.getD t undef)
                  | .cell b t => do loadVar t (← asAddr (a'.tmps.getD b undef))) (fun _ => rfl) (fun _ _ => rfl) fn.results.toList hrs
                have e : fn.results = ⟨fn.results.toList⟩ := rfl
                rw [e]
                refine ⟨_, ?_, single_size h2⟩
                simp only [List.mapM_toArray, Sem.run_bind, Sem.run_map, Sem.run_pure]
                exact congrArg (fun r => Result.andThen (Result.andThen r fun a w' => Result.ok a.toArray w') fun a w' => Result.ok (if h : a.size = 1 then a[0] else Value.tuple a) w') h1
              obtain ⟨v', h3, h4⟩ := hrun
              rcases he with rfl | rfl
              · exact ⟨p3.defers, v', h3, ⟨v', κ, rfl, p1, p2, h4⟩⟩
              · exact ⟨p3.defers, v', h3, ⟨v', κ, rfl, p1, p2, h4⟩⟩
            split at h
            · rename_i env s1 hev
              split at h
              · rename_i rs hrs
                cases h
                exact fin (.inl rfl) hev hrs
              · cases h
            · rename_i env s1 hev
              split at h
              · rename_i rs hrs
                cases h
                exact fin (.inr rfl) hev hrs
              · cases h
            · cases h
          · cases h
        · cases h
      · cases h
end
end Go.Am
