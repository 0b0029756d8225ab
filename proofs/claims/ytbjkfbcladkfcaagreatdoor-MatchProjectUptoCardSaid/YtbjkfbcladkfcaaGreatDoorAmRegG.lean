/- A region that draws its order, as a whole: sound. -/
import Derived.Test.YtbjkfbcladkfcaaGreatDoorAmRegF
set_option linter.unusedSimpArgs false
set_option linter.unusedVariables false
namespace Go.Am
section
variable {HI : HeapI} {P : Program} {T : Tab} {callee : Callee HI} {N : Nat} {ops : Array Oper} {ms : List Nat} {env0 : Env}

structure RelAct (ι : Emb) (env : Env) (N : Nat) (a : Act) : Prop where
  size : a.tmps.size = N
  defers : a.defers = []
  env : ∀ t v, env.get t = some v → R ι v (a.tmps.getD t undef)

theorem RelAct.mono {ι κ : Emb} {env : Env} {N : Nat} {a : Act} (h : RelAct ι env N a) (hle : ι.le κ) : RelAct κ env N a :=
  ⟨h.size, h.defers, fun t v e => (h.env t v e).mono hle⟩

theorem ready_mem {listed : Array Bool} {i : Nat} (h : i ∈ Region.ready .any ops listed) : i < ops.size ∧ listed.getD i true = false ∧ ∃ o, ops[i]? = some o ∧ ∀ e ∈ o.after.toList, Region.binds .any e = true → listed.getD e.on false = true := by
  unfold Region.ready at h
  rw [List.mem_filter] at h
  obtain ⟨h1, h2⟩ := h
  rw [List.mem_range] at h1
  rw [Bool.and_eq_true] at h2
  refine ⟨h1, by simpa using h2.1, ops[i], by simp [h1], fun e he hb => ?_⟩
  have h3 := h2.2
  simp only [Array.getElem?_eq_getElem h1, Option.map_some, Option.getD_some, Array.all_eq_true'] at h3
  have h4 := h3 e (Array.mem_toList_iff.1 he)
  rw [hb] at h4
  simpa using h4

theorem ready_intro {listed : Array Bool} {i : Nat} (h1 : i < ops.size) (h2 : listed.getD i true = false) (h3 : ∀ o, ops[i]? = some o → ∀ e ∈ o.after.toList, Region.binds .any e = true → listed.getD e.on false = true) : i ∈ Region.ready .any ops listed := by
  unfold Region.ready
  rw [List.mem_filter, List.mem_range]
  refine ⟨h1, ?_⟩
  rw [Bool.and_eq_true]
  refine ⟨by simp [h2], ?_⟩
  simp only [Array.getElem?_eq_getElem h1, Option.map_some, Option.getD_some, Array.all_eq_true']
  intro e he
  cases hb : Region.binds .any e with
  | false => simp
  | true => simp [h3 _ (Array.getElem?_eq_getElem h1) e (Array.mem_toList_iff.2 he) hb]

theorem al_lo {t : Tr HI} {lo hi n : Nat} {d : DS HI} (htp : TP P T callee N ops ms env0 lo hi t n d) {p : Nat} (hp : p < n) {o : Oper} (ho : ops[p]? = some o) {b : Nat} {x : Blk} (h : t.al p = some (b, x)) : lo ≤ b := by
  have g := htp.gop p hp o ho
  cases hw : t.want p with
  | false => rw [(g.no hw).2] at h; cases h
  | true =>
    cases hc : clsOf o with
    | pure => rw [(g.pure hw hc).1] at h; cases h
    | read => rw [(g.read hw hc).1] at h; cases h
    | eff => rw [(g.eff hw hc).1] at h; cases h
    | alloc =>
      obtain ⟨b', f, x', h1, _, _, h2, _⟩ := g.alloc hw hc
      rw [h1] at h; cases h; exact h2

theorem Inv.next (hT : TabOK P T) (hcall : CalleeOK P callee) {t : Tr HI} {lo hi : Nat} {d : DS HI} {ι0 ι : Emb} {s0 : St HI} {w0 w : World} {l : List Nat} {a : Act} {k i : Nat} {o : Oper} {Q : Exit → Act → World → Prop} {K : Act → World → Prop} (hms : masks ops = ms) (hlex : lexOk ops ms = true) (htp : TP P T callee N ops ms env0 lo hi t ops.size d) (hhi : hi ≤ (t.H 0).next) (hlo : s0.next ≤ lo)
    (h : Inv t ops ms env0 N ι0 s0 w0 l a w ι k) (ho : ops[i]? = some o) (hil : i ∉ l)
    (hready : ∀ e ∈ o.after.toList, Region.binds .any e = true → e.on ∈ l)
    (hK : ∀ a' w' ι' k', Inv t ops ms env0 N ι0 s0 w0 (i :: l) a' w' ι' k' → K a' w') : wpOp P ops Q i K a w := by
  have hi' : i < ops.size := lt_of_getElem? ho
  have g := htp.gop i hi' o ho
  have hwt := h.wants hms hlex ho hil hready g
  have hopd := h.opnd hms hlex ho hil hready g
  have notEff : clsOf o ≠ .eff → ∀ j, j < t.K → t.ef j ≠ i := fun hne j hj e => by
    obtain ⟨o', h1, h2, _⟩ := htp.geff.op j hj
    rw [e, ho] at h1; cases h1; exact hne h2
  unfold wpOp
  simp only [ho, hwt]
  cases hw : t.want i with
  | false =>
    simp only [Bool.false_eq_true, if_false]
    obtain ⟨h1, h2⟩ := g.no hw
    refine hK _ _ ι k (h.same (κ := ι) hms hlex htp hhi rfl ho hil hready g.dst h2 (fun j hj e => ?_) (.refl _ _ _) h.sim (by rw [h1]; exact ⟨[], rfl, by simp [Rs]⟩))
    obtain ⟨_, _, _, h3⟩ := htp.geff.op j hj
    rw [e, hw] at h3; cases h3
  | true =>
    simp only [if_true]
    refine .inl ?_
    cases hc : clsOf o with
    | pure =>
      obtain ⟨h1, h2⟩ := g.pure hw hc
      exact evOp_sound hT hcall (h2 (t.H k)) hopd h.sim (fun κ w' v' p1 p2 p3 => hK _ _ κ k (h.same hms hlex htp hhi rfl ho hil hready g.dst h1 (notEff (by rw [hc]; intro e; cases e)) p1 p2 p3))
    | read =>
      obtain ⟨h1, h2⟩ := g.read hw hc
      refine evOp_sound hT hcall (h2 k h.kle ⟨fun j hj1 hj2 ha => ?_, fun j hj ha => ?_⟩) hopd h.sim (fun κ w' v' p1 p2 p3 => hK _ _ κ k (h.same hms hlex htp hhi rfl ho hil hready g.dst h1 (notEff (by rw [hc]; intro e; cases e)) p1 p2 p3))
      · exact h.todo j hj1 hj2 (anc_mem hms (D := fun x => x ∈ l) h.closed i _ ha (fun o' ho' => by rw [ho] at ho'; cases ho'; exact hready))
      · exact hil (anc_mem hms (D := fun x => x ∈ l) h.closed (t.ef j) i ha (fun o' ho' => h.closed _ (h.done j hj) o' ho'))
    | alloc =>
      obtain ⟨b, f, x, h1, h2, h3, h4, h5⟩ := g.alloc hw hc
      obtain ⟨obj, sz, v', hrun, hrel⟩ := evAlloc_run hT (w := w) hopd h2
      unfold Oper.wp
      rw [hrun]
      obtain ⟨κ, hI⟩ := h.alloc (obj := obj) (sz := sz) (v' := v') hlex htp hhi rfl ho hil hready g.dst h1 (by omega) (notEff (by rw [hc]; intro e; cases e)) (fun κ q1 q2 q3 => by rw [h3]; exact hrel κ b q1 q2 q3)
      exact hK _ _ κ k hI
    | eff =>
      obtain ⟨h1, j, hj, he, h2⟩ := g.eff hw hc
      have hjk : j = k := by
        rcases Nat.lt_trichotomy j k with hlt | heq | hgt
        · exact absurd (he ▸ h.done j hlt) hil
        · exact heq
        · have hch := (htp.geff.chain k j hgt hj).2
          have : t.ef k ∈ l := anc_mem hms (D := fun x => x ∈ l) h.closed (t.ef j) _ hch (fun o' ho' => by rw [he, ho] at ho'; cases ho'; exact hready)
          exact absurd this (h.todo k (Nat.le_refl _) (by omega))
      subst hjk
      subst he
      obtain ⟨c1, c2, c3, c4, c5⟩ := h.commit hms htp hj ho hready
      exact evOp_sound hT hcall h2 hopd c1 (fun κ w' v' p1 p2 p3 => hK _ _ κ _ (h.effect hms hlex htp hhi rfl hj ho hil hready g.dst h1 p1 p2 p3))

theorem Inv.all (hT : TabOK P T) (hcall : CalleeOK P callee) {t : Tr HI} {lo hi : Nat} {d : DS HI} {ι0 : Emb} {s0 : St HI} {w0 : World} {Q : Exit → Act → World → Prop} (hms : masks ops = ms) (hlex : lexOk ops ms = true) (htp : TP P T callee N ops ms env0 lo hi t ops.size d) (hhi : hi ≤ (t.H 0).next) (hlo : s0.next ≤ lo)
    (hend : ∀ l a w ι k, Inv t ops ms env0 N ι0 s0 w0 l a w ι k → (∀ i, i < ops.size → i ∈ l) → Q .normal a w) :
    ∀ (fuel : Nat) (l : List Nat) (listed : Array Bool) (a : Act) (w : World) (ι : Emb) (k : Nat), Inv t ops ms env0 N ι0 s0 w0 l a w ι k → listed.size = ops.size → (∀ i, i < ops.size → (listed.getD i true = true ↔ i ∈ l)) → ((List.range ops.size).filter fun i => !listed.getD i true).length ≤ fuel → wpAny P .any ops Q fuel listed a w := by
  have hall : ∀ (l : List Nat) (listed : Array Bool) (a : Act) (w : World) (ι : Emb) (k : Nat), Inv t ops ms env0 N ι0 s0 w0 l a w ι k → listed.size = ops.size → (∀ i, i < ops.size → (listed.getD i true = true ↔ i ∈ l)) → Region.ready .any ops listed = [] → ∀ i, i < ops.size → i ∈ l := by
    intro l listed a w ι k h hsz hls hr i
    induction i using Nat.strongRecOn with
    | ind i ih =>
      intro hi
      refine Decidable.byContradiction fun hn => ?_
      have : i ∈ Region.ready .any ops listed := ready_intro hi (by
        cases e : listed.getD i true with
        | false => rfl
        | true => exact absurd ((hls i hi).1 e) hn) (fun o ho e he hb => by
        have hlt := lexOk_edge hlex ho he hb
        have := (hls e.on (by omega)).2 (ih e.on hlt (by omega))
        rw [Array.getD_eq_getD_getElem?] at this ⊢
        rw [Array.getElem?_eq_getElem (by omega)] at this ⊢
        exact this)
      rw [hr] at this
      cases this
  intro fuel
  induction fuel with
  | zero =>
    intro l listed a w ι k h hsz hls hf
    have hno : ∀ i, i < ops.size → listed.getD i true = true := fun i hi => by
      have := List.eq_nil_of_length_eq_zero (Nat.le_zero.1 hf)
      rw [List.filter_eq_nil_iff] at this
      simpa using this i (List.mem_range.2 hi)
    refine ⟨?_, hend l a w ι k h (fun i hi => (hls i hi).1 (hno i hi))⟩
    refine List.eq_nil_iff_forall_not_mem.2 fun i hi => ?_
    obtain ⟨h1, h2, _⟩ := ready_mem hi
    rw [hno i h1] at h2
    cases h2
  | succ fuel ih =>
    intro l listed a w ι k h hsz hls hf
    refine ⟨fun hr => hend l a w ι k h (hall l listed a w ι k h hsz hls hr), fun i hi => ?_⟩
    obtain ⟨h1, h2, o, ho, h3⟩ := ready_mem hi
    have hil : i ∉ l := fun hm => by rw [(hls i h1).2 hm] at h2; cases h2
    refine h.next hT hcall hms hlex htp hhi hlo ho hil (fun e he hb => ?_) (fun a' w' ι' k' hI => ?_)
    · have hlt := lexOk_edge hlex ho he hb
      have h4 := h3 e he hb
      refine (hls e.on (by omega)).1 ?_
      rw [Array.getD_eq_getD_getElem?] at h4 ⊢
      rw [Array.getElem?_eq_getElem (by omega)] at h4 ⊢
      exact h4
    · have hget : ∀ j, j < ops.size → (listed.setIfInBounds i true).getD j true = (if j = i then true else listed.getD j true) := fun j hj => by
        simp only [Array.getD_eq_getD_getElem?]
        by_cases e : j = i
        · subst e; simp [hsz ▸ hj]
        · rw [if_neg e, Array.getElem?_setIfInBounds_ne (Ne.symm e)]
      refine ih (i :: l) _ a' w' ι' k' hI (by simp [hsz]) (fun j hj => ?_) ?_
      · rw [hget j hj]
        by_cases e : j = i
        · simp [e]
        · rw [if_neg e, hls j hj]; simp [e]
      · have e1 : ((List.range ops.size).filter fun j => !(listed.setIfInBounds i true).getD j true) = ((List.range ops.size).filter fun j => !listed.getD j true).filter fun j => !(Nat.beq j i) := by
          rw [List.filter_filter]
          refine List.filter_congr fun j hj => ?_
          rw [hget j (List.mem_range.1 hj)]
          by_cases e : j = i
          · subst e; simp
          · rw [if_neg e]
            have : Nat.beq j i = false := by cases hb : Nat.beq j i with
              | false => rfl
              | true => exact absurd (Nat.eq_of_beq_eq_true hb) e
            simp [this]
        rw [e1]
        have := List.length_filter_lt_length_iff_exists (l := (List.range ops.size).filter fun j => !listed.getD j true) (p := fun j => !(Nat.beq j i))
        have h5 := this.2 ⟨i, List.mem_filter.2 ⟨List.mem_range.2 h1, by simp [h2]⟩, by simp⟩
        omega

theorem Sim.reserve {ι : Emb} {s : St HI} {w : World} (h : Sim ι s w) (n : Nat) : Sim ι { s with next := s.next + n } { w with drawn := w.drawn + 1 } :=
  ⟨h.live, h.inj, h.frz, fun b hb => h.fresh b (Nat.le_trans (Nat.le_add_right _ _) hb), h.bmap, h.bsize⟩

theorem draw_sound (hT : TabOK P T) (hcall : CalleeOK P callee) (hmix : P.follows .mixedOrders = true) (hms : masks ops = ms) (hlex : lexOk ops ms = true) {s s' : St HI} {env' : Env} (h : evDraw P T callee N ops ms env0 s = some (env', s')) {id : Nat} {a : Act} {w : World} {ι : Emb} {Q : Exit → Act → World → Prop} (hs : Sim ι s w) (ha : RelAct ι env0 N a)
    (hK : ∀ κ a' w', Stp ι s w κ s' w' → Sim κ s' w' → RelAct κ env' N a' → Q .normal a' w') : (Code.region id ops true).wp P Q a w := by
  obtain ⟨t, d, htp, h0, rfl, rfl⟩ := draw_trace hms hlex h
  refine wp_region_any hmix ?_
  refine Inv.all (ι0 := ι) (s0 := s) (w0 := w) hT hcall hms hlex htp (by rw [h0]; exact Nat.le_refl _) (Nat.le_refl _) ?_ ops.size [] _ a _ ι 0 ?_ (by simp) (fun i hi => by simp [Array.getD_eq_getD_getElem?, hi]) (by refine Nat.le_trans (List.length_filter_le _ _) ?_; simp)
  · intro l a' w' κ k hI hl
    have hk : k = t.K := by
      rcases Nat.lt_or_ge k t.K with hlt | hge
      · exact absurd (hl _ (htp.geff.lt k hlt)) (hI.todo k (Nat.le_refl _) hlt)
      · have := hI.kle; omega
    subst hk
    obtain ⟨r1, r2, r3, r4⟩ := commit_sim d.pend hI.sim hI.stp (fun p hp => by
      obtain ⟨p1, p2, p3⟩ := htp.pend p hp
      exact hI.pend p.1 (hl _ p1) p.2.1 p.2.2 p2 p3) (by
      have hnd := htp.pendNodup
      have hpd := htp.pend
      generalize d.pend = L at hnd hpd
      induction L with
      | nil => exact .nil
      | cons p L ih =>
        simp only [List.map_cons, List.nodup_cons] at hnd
        refine List.pairwise_cons.2 ⟨fun q hq cb hm => ?_, ih hnd.2 (fun q hq => hpd q (by simp [hq]))⟩
        obtain ⟨p1, p2, p3⟩ := hpd p (by simp)
        obtain ⟨q1, q2, q3⟩ := hpd q (by simp [hq])
        exact hI.apart p.1 q.1 (hl _ p1) (hl _ q1) (fun e => hnd.1 (e ▸ List.mem_map.2 ⟨q, hq, rfl⟩)) p.2.1 p.2.2 q.2.1 q.2.2 cb p2 q2 p3 q3 hm)
    rw [← htp.s] at r1 r2
    refine hK κ a' w' r2 r1 ⟨hI.size, hI.defers, fun u v hu => ?_⟩
    rcases htp.env u v hu with ⟨q, h1, oq, h2, h3, rfl⟩ | ⟨h1, h2⟩
    · exact hI.new q (hl _ h1) oq u h2 h3
    · exact hI.old u v (fun q hq oq hoq => h1 q (hI.lt q hq) oq hoq) h2
  · refine ⟨ha.size, ha.defers, by simp, by simp, Nat.zero_le _, fun j hj => by omega, by simp, ?_, ?_, Nat.le_refl _, by simp, fun u v _ hu => ha.env u v hu, by simp, by simp, fun i hi _ b x hb => ?_⟩
    · rw [h0]; exact ⟨.refl _, Nat.le_refl _, fun _ _ _ => rfl, fun _ _ h => h, fun _ _ _ h _ _ => h, fun _ _ => rfl, Nat.le_add_right _ _, rfl, rfl, rfl⟩
    · rw [h0]; exact hs.reserve _
    · exact hs.fresh b (al_lo htp hi (Array.getElem?_eq_getElem hi) hb)
end
end Go.Am
