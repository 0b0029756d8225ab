/- A region that draws its order: sound. -/
import Derived.Test.YtbjkfbcladkfcaaGreatDoorAmRegE
set_option linter.unusedSimpArgs false
set_option linter.unusedVariables false
namespace Go.Am
section
variable {HI : HeapI} {P : Program} {T : Tab} {callee : Callee HI} {N : Nat} {ops : Array Oper} {ms : List Nat} {env0 : Env}

theorem dstOk_lt {o : Oper} {d : Tmp} (h : dstOk N o = true) (hd : o.dst = some d) : d < N := by
  unfold dstOk at h
  rw [hd] at h
  exact Nat.le_of_ble_eq_true h

theorem eff_mono {t : Tr HI} {n j j' : Nat} (h : Geff ops ms t n) (hj : j < t.K) (hj' : j' < t.K) (e : t.ef j = t.ef j') : j = j' := by
  rcases Nat.lt_trichotomy j j' with hlt | heq | hgt
  · have := (h.chain j j' hlt hj').1; omega
  · exact heq
  · have := (h.chain j' j hgt hj).1; omega

/-- An operation is carried out: what it leaves behind, in the frame. -/
theorem Inv.put {t : Tr HI} {ι0 ι κ : Emb} {s0 : St HI} {w0 w w' : World} {l : List Nat} {a : Act} {k k' i : Nat} {o : Oper} {v' : Value} (hlex : lexOk ops ms = true) (h : Inv t ops ms env0 N ι0 s0 w0 l a w ι k) (ho : ops[i]? = some o) (hil : i ∉ l)
    (hready : ∀ e ∈ o.after.toList, Region.binds .any e = true → e.on ∈ l) (hd : dstOk N o = true) (hle : ι.le κ) (hv : R κ (t.val i) v')
    (kle : k' ≤ t.K) (done : ∀ j, j < k' → t.ef j ∈ i :: l) (todo : ∀ j, k' ≤ j → j < t.K → t.ef j ∉ i :: l) (stp : Stp ι0 s0 w0 κ (t.H k') w') (sim : Sim κ (t.H k') w') (nx : (t.H 0).next ≤ (t.H k').next)
    (pend : ∀ q, q ∈ i :: l → ∀ b x, t.al q = some (b, x) → (∀ j, j < k' → ¬ anc ms (t.ef j) q) → Pend κ (t.H k') w' w0 b x)
    (apart : ∀ q q', q ∈ i :: l → q' ∈ i :: l → q ≠ q' → ∀ b x b' x' cb, t.al q = some (b, x) → t.al q' = some (b', x') → (∀ j, j < k' → ¬ anc ms (t.ef j) q) → (∀ j, j < k' → ¬ anc ms (t.ef j) q') → κ.map b = some (cb, 0) → κ.map b' ≠ some (cb, 0))
    (yet : ∀ q, q < ops.size → q ∉ i :: l → ∀ b x, t.al q = some (b, x) → κ.map b = none) : Inv t ops ms env0 N ι0 s0 w0 (i :: l) (a.put o.dst v') w' κ k' where
  size := by cases hdd : o.dst <;> simp [Act.put, h.size]
  defers := by cases hdd : o.dst <;> simp [Act.put, h.defers]
  lt q hq := by
    rcases List.mem_cons.1 hq with rfl | hq
    · exact lt_of_getElem? ho
    · exact h.lt q hq
  closed q hq oq hoq e he hb := by
    rcases List.mem_cons.1 hq with rfl | hq
    · rw [ho] at hoq; cases hoq; exact List.mem_cons_of_mem _ (hready e he hb)
    · exact List.mem_cons_of_mem _ (h.closed q hq oq hoq e he hb)
  kle := kle
  done := done
  todo := todo
  stp := stp
  sim := sim
  nx := nx
  new q hq oq d hoq hdq := by
    rcases List.mem_cons.1 hq with rfl | hq
    · rw [ho] at hoq; cases hoq
      rw [hdq]
      have hlt : d < a.tmps.size := by rw [h.size]; exact dstOk_lt hd hdq
      rw [getD_put hlt, if_pos rfl]
      exact hv
    · have hne : i ≠ q := fun e => hil (e ▸ hq)
      have hold := (h.new q hq oq d hoq hdq).mono hle
      have hdd := (lexOk_pair hlex ho hoq hdq).2.1 hne
      cases hod : o.dst with
      | none => exact hold
      | some d2 =>
        have hlt : d2 < a.tmps.size := by rw [h.size]; exact dstOk_lt hd hod
        rw [getD_put hlt, if_neg (fun e => hdd (by rw [hod, e]))]
        exact hold
  old u v hno hu := by
    have hold := (h.old u v (fun q hq => hno q (List.mem_cons_of_mem _ hq)) hu).mono hle
    have hne := hno i (by simp) o ho
    cases hod : o.dst with
    | none => exact hold
    | some d2 =>
      have hlt : d2 < a.tmps.size := by rw [h.size]; exact dstOk_lt hd hod
      rw [getD_put hlt, if_neg (fun e => hne (by rw [hod, e]))]
      exact hold
  pend := pend
  apart := apart
  yet := yet

/-- A step that leaves the effects where they were, and no new block that is known of. -/
theorem Inv.same {t : Tr HI} {n lo hi : Nat} {d : DS HI} {ι0 ι κ : Emb} {s0 : St HI} {w0 w w' : World} {l : List Nat} {a : Act} {k i : Nat} {o : Oper} {v' : Value} (hms : masks ops = ms) (hlex : lexOk ops ms = true) (htp : TP P T callee N ops ms env0 lo hi t n d) (hhi : hi ≤ (t.H 0).next) (hn : n = ops.size) (h : Inv t ops ms env0 N ι0 s0 w0 l a w ι k) (ho : ops[i]? = some o) (hil : i ∉ l)
    (hready : ∀ e ∈ o.after.toList, Region.binds .any e = true → e.on ∈ l) (hd : dstOk N o = true) (hal : t.al i = none) (hnoeff : ∀ j, j < t.K → t.ef j ≠ i) (hs : Stp ι (t.H k) w κ (t.H k) w') (hsim : Sim κ (t.H k) w') (hv : R κ (t.val i) v') :
    Inv t ops ms env0 N ι0 s0 w0 (i :: l) (a.put o.dst v') w' κ k := by
  have idlt : ∀ q, q < ops.size → ∀ b x, t.al q = some (b, x) → b < (t.H k).next := fun q hq b x e => by
    have h1 := htp.nid.2 q (by omega) (b, x) e
    have h2 := htp.cap
    have := h.nx
    simp at h1
    omega
  have mapeq : ∀ q, q < ops.size → ∀ b x, t.al q = some (b, x) → κ.map b = ι.map b := fun q hq b x e => hs.newid b (idlt q hq b x e)
  have inl : ∀ q, q ∈ l → q < ops.size := h.lt
  refine h.put hlex ho hil hready hd hs.le hv h.kle (fun j hj => List.mem_cons_of_mem _ (h.done j hj)) (fun j h1 h2 hm => ?_) (h.stp.trans hs) hsim h.nx ?_ ?_ ?_
  · rcases List.mem_cons.1 hm with e | hm
    · exact hnoeff j h2 e
    · exact h.todo j h1 h2 hm
  · intro q hq b x hb hno
    rcases List.mem_cons.1 hq with rfl | hq
    · rw [hal] at hb; cases hb
    · obtain ⟨cb, p1, p2, p3, p4, p5⟩ := (h.pend q hq b x hb hno).ex
      have hcb := p2.lt
      refine ⟨cb, hs.le.map _ _ p1, p2.mono hs.le (hs.kept cb hcb p4), fun oo => ?_, hs.own cb hcb p4, p5⟩
      cases e : κ.frz cb oo with
      | none => rfl
      | some v => have := hs.frzo cb oo v e hcb p4; rw [p3] at this; cases this
  · intro q q' hq hq' hne b x b' x' cb hb hb' hno hno' hm
    rcases List.mem_cons.1 hq with rfl | hq
    · rw [hal] at hb; cases hb
    · rcases List.mem_cons.1 hq' with rfl | hq'
      · rw [hal] at hb'; cases hb'
      · rw [mapeq q (inl q hq) b x hb] at hm
        rw [mapeq q' (inl q' hq') b' x' hb']
        exact h.apart q q' hq hq' hne b x b' x' cb hb hb' hno hno' hm
  · intro q hq hql b x hb
    rw [mapeq q hq b x hb]
    exact h.yet q hq (fun hm => hql (List.mem_cons_of_mem _ hm)) b x hb

/-- A new block is made, and waits. -/
theorem Inv.alloc {t : Tr HI} {n lo hi : Nat} {d : DS HI} {ι0 ι : Emb} {s0 : St HI} {w0 w : World} {l : List Nat} {a : Act} {k i b : Nat} {x : Blk} {o : Oper} {v' : Value} {obj : Obj} {sz : Nat} (hlex : lexOk ops ms = true) (htp : TP P T callee N ops ms env0 lo hi t n d) (hhi : hi ≤ (t.H 0).next) (hn : n = ops.size) (h : Inv t ops ms env0 N ι0 s0 w0 l a w ι k) (ho : ops[i]? = some o) (hil : i ∉ l)
    (hready : ∀ e ∈ o.after.toList, Region.binds .any e = true → e.on ∈ l) (hd : dstOk N o = true) (hal : t.al i = some (b, x)) (hlo : s0.next ≤ b) (hnoeff : ∀ j, j < t.K → t.ef j ≠ i)
    (hrun : ∀ κ, ι.le κ → κ.map b = some (w.heap.size, 0) → κ.size w.heap.size = some sz → R κ (t.val i) v' ∧ BlkR κ (World.push w obj) w.heap.size 0 x) :
    ∃ κ, Inv t ops ms env0 N ι0 s0 w0 (i :: l) (a.put o.dst v') (World.push w obj) κ k := by
  have hi' : i < ops.size := lt_of_getElem? ho
  have hnone : ι.map b = none := h.yet i hi' hil b x hal
  have hblt : b < (t.H k).next := by
    have h1 := htp.nid.2 i (by omega) (b, x) hal
    have h2 := htp.cap
    have := h.nx
    simp at h1
    omega
  have hsz : ι.size w.heap.size = none := by
    cases e : ι.size w.heap.size with
    | none => rfl
    | some m => exact absurd (h.sim.bsize _ _ e) (Nat.lt_irrefl _)
  have hfr : ∀ oo, ι.frz w.heap.size oo = none := fun oo => by
    cases e : ι.frz w.heap.size oo with
    | none => rfl
    | some v => exact absurd (h.sim.bfrz e) (Nat.lt_irrefl _)
  have hpush : (World.push w obj).heap.size = w.heap.size + 1 := by simp [World.push]
  have hle : ι.le (ι.new b w.heap.size 0 sz) := Emb.le_new hnone (.inl hsz)
  have hsim : Sim (ι.new b w.heap.size 0 sz) (t.H k) (World.push w obj) := sim_bind (sim_push h.sim _) hnone hblt (by omega) (.inl hsz)
  have hmb : (ι.new b w.heap.size 0 sz).map b = some (w.heap.size, 0) := by simp [Emb.new]
  have other : ∀ c, c ≠ b → (ι.new b w.heap.size 0 sz).map c = ι.map c := fun c hc => by simp [Emb.new, hc]
  have offk : ∀ c, Off ι (t.H k) c → Off (ι.new b w.heap.size 0 sz) (t.H k) c := fun c ho2 e y base hy => by
    by_cases he : e = b
    · subst he; obtain ⟨_, _, hm, _⟩ := h.sim.live e y hy; rw [hnone] at hm; cases hm
    · rw [other e he]; exact ho2 e y base hy
  obtain ⟨r1, r2⟩ := hrun _ hle hmb (by simp [Emb.new])
  have idne : ∀ q, q < ops.size → q ≠ i → ∀ b' x', t.al q = some (b', x') → b' ≠ b := fun q hq hne b' x' hb' e => hne (htp.geff.ids q i (by omega) (by omega) _ _ hb' hal e)
  refine ⟨_, h.put hlex ho hil hready hd hle r1 h.kle (fun j hj => List.mem_cons_of_mem _ (h.done j hj)) (fun j h1 h2 hm => ?_) ?_ hsim h.nx ?_ ?_ ?_⟩
  · rcases List.mem_cons.1 hm with e | hm
    · exact hnoeff j h2 e
    · exact h.todo j h1 h2 hm
  · exact ⟨h.stp.le.trans hle, by rw [hpush]; have := h.stp.grow; omega, fun c hc ho2 => (push_old (Nat.lt_of_lt_of_le hc h.stp.grow)).trans (h.stp.kept c hc ho2), fun c hc ho2 => offk c (h.stp.own c hc ho2), h.stp.frzo, fun c hc => by rw [other c (by omega)]; exact h.stp.newid c hc, h.stp.next, h.stp.os, h.stp.output, h.stp.tape⟩
  · intro q hq b' x' hb' hno
    rcases List.mem_cons.1 hq with rfl | hq
    · rw [hal] at hb'; cases hb'
      refine ⟨w.heap.size, hmb, r2, hfr, fun e y base hy => ?_, h.stp.grow⟩
      by_cases he : e = b
      · subst he; obtain ⟨_, _, hm, _⟩ := h.sim.live e y hy; rw [hnone] at hm; cases hm
      · rw [other e he]; intro hm; exact absurd (h.sim.bmap _ _ _ hm) (Nat.lt_irrefl _)
    · obtain ⟨cb, p1, p2, p3, p4, p5⟩ := (h.pend q hq b' x' hb' hno).ex
      exact ⟨cb, hle.map _ _ p1, p2.mono hle (push_old p2.lt), p3, offk cb p4, p5⟩
  · intro q q' hq1 hq2 hne b1 x1 b2 x2 cb hb1 hb2 hno1 hno2 hm
    by_cases e1 : q = i
    · rw [e1, hal] at hb1; cases hb1
      have hql : q' ∈ l := (List.mem_cons.1 hq2).resolve_left (fun e => hne (by rw [e1, e]))
      rw [other b2 (idne q' (h.lt q' hql) (fun e => hne (by rw [e1, e])) b2 x2 hb2)]
      rw [hmb] at hm; cases hm
      intro e
      exact absurd (h.sim.bmap _ _ _ e) (Nat.lt_irrefl _)
    · have hql : q ∈ l := (List.mem_cons.1 hq1).resolve_left e1
      rw [other b1 (idne q (h.lt q hql) e1 b1 x1 hb1)] at hm
      by_cases e2 : q' = i
      · rw [e2, hal] at hb2; cases hb2
        rw [hmb]
        intro e
        cases e
        exact absurd (h.sim.bmap _ _ _ hm) (Nat.lt_irrefl _)
      · have hql2 : q' ∈ l := (List.mem_cons.1 hq2).resolve_left e2
        rw [other b2 (idne q' (h.lt q' hql2) e2 b2 x2 hb2)]
        exact h.apart q q' hql hql2 hne b1 x1 b2 x2 cb hb1 hb2 hno1 hno2 hm
  · intro q hq hql b' x' hb'
    have hqi : q ≠ i := fun e => hql (by simp [e])
    rw [other b' (idne q hq hqi b' x' hb')]
    exact h.yet q hq (fun hm => hql (List.mem_cons_of_mem _ hm)) b' x' hb'

/-- Ahead of an effect, what it waits for comes to life. -/
theorem Inv.commit {t : Tr HI} {n lo hi : Nat} {d : DS HI} {ι0 ι : Emb} {s0 : St HI} {w0 w : World} {l : List Nat} {a : Act} {k : Nat} (hms : masks ops = ms) (htp : TP P T callee N ops ms env0 lo hi t n d) (h : Inv t ops ms env0 N ι0 s0 w0 l a w ι k) (hk : k < t.K)
    {o : Oper} (ho : ops[t.ef k]? = some o) (hready : ∀ e ∈ o.after.toList, Region.binds .any e = true → e.on ∈ l) :
    Sim ι (Am.commit (t.com k) (t.H k)) w ∧ Stp ι0 s0 w0 ι (Am.commit (t.com k) (t.H k)) w ∧ (Am.commit (t.com k) (t.H k)).next = (t.H k).next ∧
      (∀ cb, Off ι (t.H k) cb → (∀ p ∈ t.com k, ι.map p.2.1 ≠ some (cb, 0)) → Off ι (Am.commit (t.com k) (t.H k)) cb) ∧ ∀ p ∈ t.com k, p.1 ∈ l := by
  have inl : ∀ p ∈ t.com k, p.1 ∈ l := fun p hp => by
    obtain ⟨_, h2, _, _⟩ := htp.geff.com k hk p hp
    exact anc_mem hms (D := fun x => x ∈ l) h.closed (t.ef k) p.1 h2 (fun o' ho' => by rw [ho] at ho'; cases ho'; exact hready)
  obtain ⟨r1, r2, r3, r4⟩ := commit_sim (t.com k) h.sim h.stp (fun p hp => by
    obtain ⟨_, _, h3, h4⟩ := htp.geff.com k hk p hp
    exact h.pend p.1 (inl p hp) p.2.1 p.2.2 h3 h4) (by
    have hnd := htp.geff.comNodup k hk
    have hcom := htp.geff.com k hk
    generalize hL : t.com k = L at hnd hcom inl
    clear hL
    induction L with
    | nil => exact .nil
    | cons p L ih =>
      simp only [List.map_cons, List.nodup_cons] at hnd
      refine List.pairwise_cons.2 ⟨fun q hq cb hm => ?_, ih hnd.2 (fun (q : Nat × Nat × Blk) (hq : q ∈ L) => hcom q (by simp [hq])) (fun (q : Nat × Nat × Blk) (hq : q ∈ L) => inl q (by simp [hq]))⟩
      obtain ⟨_, _, p3, p4⟩ := hcom p (by simp)
      obtain ⟨_, _, q3, q4⟩ := hcom q (by simp [hq])
      exact h.apart p.1 q.1 (inl p (by simp)) (inl q (by simp [hq])) (fun e => hnd.1 (e ▸ List.mem_map.2 ⟨q, hq, rfl⟩)) p.2.1 p.2.2 q.2.1 q.2.2 cb p3 q3 p4 q4 hm)
  exact ⟨r1, r2, r3, r4, inl⟩

/-- An effect. -/
theorem Inv.effect {t : Tr HI} {n lo hi : Nat} {d : DS HI} {ι0 ι κ : Emb} {s0 : St HI} {w0 w w' : World} {l : List Nat} {a : Act} {k : Nat} {o : Oper} {v' : Value} (hms : masks ops = ms) (hlex : lexOk ops ms = true) (htp : TP P T callee N ops ms env0 lo hi t n d) (hhi : hi ≤ (t.H 0).next) (hn : n = ops.size) (h : Inv t ops ms env0 N ι0 s0 w0 l a w ι k) (hk : k < t.K) (ho : ops[t.ef k]? = some o) (hil : t.ef k ∉ l)
    (hready : ∀ e ∈ o.after.toList, Region.binds .any e = true → e.on ∈ l) (hd : dstOk N o = true) (hal : t.al (t.ef k) = none)
    (hs : Stp ι (Am.commit (t.com k) (t.H k)) w κ (t.H (k + 1)) w') (hsim : Sim κ (t.H (k + 1)) w') (hv : R κ (t.val (t.ef k)) v') :
    Inv t ops ms env0 N ι0 s0 w0 (t.ef k :: l) (a.put o.dst v') w' κ (k + 1) := by
  obtain ⟨c1, c2, c3, c4, c5⟩ := h.commit hms htp hk ho hready
  have idlt : ∀ q, q < ops.size → ∀ b x, t.al q = some (b, x) → b < (t.H k).next := fun q hq b x e => by
    have h1 := htp.nid.2 q (by omega) (b, x) e
    have h2 := htp.cap
    have := h.nx
    simp at h1
    omega
  have mapeq : ∀ q, q < ops.size → ∀ b x, t.al q = some (b, x) → κ.map b = ι.map b := fun q hq b x e => hs.newid b (by rw [c3]; exact idlt q hq b x e)
  have hnx := hs.next
  refine h.put hlex ho hil hready hd hs.le hv hk (fun j hj => ?_) (fun j h1 h2 hm => ?_) (c2.trans hs) hsim (by have := h.nx; omega) ?_ ?_ ?_
  · by_cases e : j = k
    · subst e; simp
    · exact List.mem_cons_of_mem _ (h.done j (by omega))
  · rcases List.mem_cons.1 hm with e | hm
    · have := eff_mono htp.geff h2 hk e; omega
    · exact h.todo j (by omega) h2 hm
  · intro q hq b x hb hno
    rcases List.mem_cons.1 hq with rfl | hq
    · rw [hal] at hb; cases hb
    · have hnok : ∀ j, j < k → ¬ anc ms (t.ef j) q := fun j hj => hno j (by omega)
      obtain ⟨cb, p1, p2, p3, p4, p5⟩ := (h.pend q hq b x hb hnok).ex
      have hcb := p2.lt
      have hoff : Off ι (Am.commit (t.com k) (t.H k)) cb := c4 cb p4 (fun p hp e => by
        obtain ⟨_, g2, g3, g4⟩ := htp.geff.com k hk p hp
        have hne : q ≠ p.1 := fun e2 => hno k (by omega) (e2 ▸ g2)
        exact h.apart q p.1 hq (c5 p hp) hne b x p.2.1 p.2.2 cb hb g3 hnok g4 p1 e)
      refine ⟨cb, hs.le.map _ _ p1, p2.mono hs.le (hs.kept cb hcb hoff), fun oo => ?_, hs.own cb hcb hoff, p5⟩
      cases e : κ.frz cb oo with
      | none => rfl
      | some v => have := hs.frzo cb oo v e hcb hoff; rw [p3] at this; cases this
  · intro q q' hq hq' hne b x b' x' cb hb hb' hno hno' hm
    rcases List.mem_cons.1 hq with rfl | hq
    · rw [hal] at hb; cases hb
    · rcases List.mem_cons.1 hq' with rfl | hq'
      · rw [hal] at hb'; cases hb'
      · rw [mapeq q (h.lt q hq) b x hb] at hm
        rw [mapeq q' (h.lt q' hq') b' x' hb']
        exact h.apart q q' hq hq' hne b x b' x' cb hb hb' (fun j hj => hno j (by omega)) (fun j hj => hno' j (by omega)) hm
  · intro q hq hql b x hb
    rw [mapeq q hq b x hb]
    exact h.yet q hq (fun hm => hql (List.mem_cons_of_mem _ hm)) b x hb
end
end Go.Am
