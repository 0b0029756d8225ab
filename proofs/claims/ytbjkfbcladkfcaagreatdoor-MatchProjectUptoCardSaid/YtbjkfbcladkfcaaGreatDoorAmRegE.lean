/- A region that draws its order: whatever order comes, the trace is met. -/
import Derived.Test.YtbjkfbcladkfcaaGreatDoorAmRegD
set_option linter.unusedSimpArgs false
set_option linter.unusedVariables false
namespace Go.Am
section
variable {HI : HeapI} {P : Program} {T : Tab} {callee : Callee HI} {N : Nat} {ops : Array Oper} {ms : List Nat} {env0 : Env}

/-- A new block, made: whatever number it is given later. -/
theorem evAlloc_run (hT : TabOK P T) {ι : Emb} {w : World} {o : Oper} {ρ : Operand → Option AV} {ρ' : Operand → Value} {f : Nat → AV} {x : Blk} (hρ : ∀ y ∈ o.op.operands, ∀ v, ρ y = some v → R ι v (ρ' y)) (h : evAlloc T o ρ = some (f, x)) :
    ∃ obj n v', (execOp ρ' o).run P w = .ok (.value v') (World.push w obj) ∧
      ∀ κ b, ι.le κ → κ.map b = some (w.heap.size, 0) → κ.size w.heap.size = some n → R κ (f b) v' ∧ BlkR κ (World.push w obj) w.heap.size 0 x := by
  have blk : ∀ {κ : Emb} {cs : List AV} {arr : Array Value} {elem : TypeId}, ι.le κ → κ.size w.heap.size = some arr.size → Rs ι cs arr.toList → BlkR κ (World.push w (.cells arr elem)) w.heap.size 0 (.cells cs) := fun hle hz hr =>
    ⟨_, _, push_new, hz, by have := hr.length; simp at this; omega, fun i y hy => by
      obtain ⟨v, hv, h1⟩ := hr.get hy
      exact ⟨v, by simpa using hv, h1.mono hle⟩⟩
  obtain ⟨dst, op, type, pos, after, guard⟩ := o
  cases op <;> simp only [evAlloc, reduceCtorEq] at h
  case alloc t =>
    split at h
    · rename_i z hz
      cases h
      obtain ⟨zv, h1, h2⟩ := hT.zero_run hz w
      refine ⟨.cells zv.cells t, zv.cells.size, .pointer (some ⟨w.heap.size, 0, none⟩), ?_, fun κ b hle hm hsz => ⟨⟨_, _, hm, rfl⟩, blk hle hsz (cellsOfV h2 ι)⟩⟩
      simp only [execOp, Instr.alloc, Sem.run_bind, h1, Result.andThen_ok, newVar, run_newRow, Sem.run_pure]
    · cases h
  case box t y =>
    split at h
    · rename_i u hu
      cases h
      have hr := hρ y (by simp [Op.operands]) _ hu
      refine ⟨.cells (ρ' y).cells t, (ρ' y).cells.size, .pointer (some ⟨w.heap.size, 0, none⟩), ?_, fun κ b hle hm hsz => ⟨⟨_, _, hm, rfl⟩, blk hle hsz hr.cells⟩⟩
      simp only [execOp, Instr.box, Sem.run_bind, Result.andThen_ok, newVar, run_newRow, Sem.run_pure]
    · cases h
  case buildSlice t n parts =>
    have hρ2 : ∀ p ∈ parts.toList, ∀ v, ρ p.2 = some v → R ι v (ρ' p.2) := fun p hp => hρ p.2 (by simp only [Op.operands, List.mem_toArray, List.mem_map]; exact ⟨p, hp, rfl⟩)
    split at h
    · rename_i vs elem hvs hd
      split at h
      · rename_i es z he hz
        split at h
        · rename_i hc
          obtain ⟨hzl, hes, hbig⟩ := hc
          split at h
          · rename_i cs hcs
            cases h
            obtain ⟨zv, hz1, hz2⟩ := hT.zero_run hz w
            have hps := evParts_sound hvs hρ2
            have hpl : (parts.map fun (x : Nat × Operand) => (x.1, ρ' x.2)).toList = parts.toList.map fun (i, x) => (i, ρ' x) := by simp
            have hzc := cellsOfV hz2 ι
            have hzs : zv.cells.size = es := by have := hzc.length; simp at this; omega
            have hrep := replicate_cells (zs := zv.cells) (n := n) hzs hes
            obtain ⟨ccs, h1, h2⟩ := fill_sound (ccells := ((Array.range (n * es)).map fun i => zv.cells[i % zv.cells.size]!)) hcs (by rw [hrep]; exact hzc.replicate n) hps
            have hsz := fill_size h1
            refine ⟨.cells ccs elem, ccs.size, .slice (some ⟨w.heap.size, 0, none⟩) n n, ?_, fun κ b hle hm hz => ⟨⟨_, _, 0, n, _, hm, rfl, ⟨Nat.le_refl _, fun _ => rfl⟩, .inr rfl, Nat.le_refl _, hz, .inr (by simp at hsz ⊢; omega)⟩, blk hle hz h2⟩⟩
            have hb : ¬ (n * es > 2 ^ 24) := by omega
            simp only [execOp, Instr.buildSlice, Sem.run_bind, Result.andThen_ok, run_underlying (hT.und _ _ hd), hT.size_run he, if_neg hb, Sem.run_pure]
            rw [hpl]
            by_cases e : n * es = 0
            · simp only [e, if_true] at h1 ⊢
              have e2 : (Array.range 0).map (fun i => (#[] : Array Value)[i % (#[] : Array Value).size]!) = (Array.range 0).map fun i => zv.cells[i % zv.cells.size]! := by simp
              simp only [Sem.run_bind, Sem.run_pure, Result.andThen_ok]
              rw [e2, h1]
              simp [run_newRow, World.push]
            · simp only [e, if_false, hz1, Result.andThen_ok, Sem.run_bind, Sem.run_pure, h1]
              simp [run_newRow, World.push]
          · cases h
        · cases h
      · cases h
    · cases h
  case makeMap t r =>
    cases r with
    | some y => simp only [reduceCtorEq] at h
    | none =>
      simp only at h
      split at h
      · cases h
        exact ⟨.map #[] 0, 0, .map (some w.heap.size), by simp [execOp, Instr.makeMap, World.push], fun κ b hle hm hsz => ⟨⟨_, hm, rfl⟩, rfl, _, _, push_new, .nil⟩⟩
      · cases h

/-- A block that has been made, and waits for its number to come to life. -/
structure Pend (ι : Emb) (s : St HI) (w w0 : World) (b : Nat) (x : Blk) : Prop where
  ex : ∃ cb, ι.map b = some (cb, 0) ∧ BlkR ι w cb 0 x ∧ (∀ o, ι.frz cb o = none) ∧ Off ι s cb ∧ w0.heap.size ≤ cb

structure Inv (t : Tr HI) (ops : Array Oper) (ms : List Nat) (env0 : Env) (N : Nat) (ι0 : Emb) (s0 : St HI) (w0 : World) (l : List Nat) (a : Act) (w : World) (ι : Emb) (k : Nat) : Prop where
  size : a.tmps.size = N
  defers : a.defers = []
  lt : ∀ i, i ∈ l → i < ops.size
  closed : ∀ i, i ∈ l → ∀ o, ops[i]? = some o → ∀ e ∈ o.after.toList, Region.binds .any e = true → e.on ∈ l
  kle : k ≤ t.K
  done : ∀ j, j < k → t.ef j ∈ l
  todo : ∀ j, k ≤ j → j < t.K → t.ef j ∉ l
  stp : Stp ι0 s0 w0 ι (t.H k) w
  sim : Sim ι (t.H k) w
  nx : (t.H 0).next ≤ (t.H k).next
  new : ∀ i, i ∈ l → ∀ o d, ops[i]? = some o → o.dst = some d → R ι (t.val i) (a.tmps.getD d undef)
  old : ∀ u v, (∀ i, i ∈ l → ∀ o, ops[i]? = some o → o.dst ≠ some u) → env0.get u = some v → R ι v (a.tmps.getD u undef)
  pend : ∀ i, i ∈ l → ∀ b x, t.al i = some (b, x) → (∀ j, j < k → ¬ anc ms (t.ef j) i) → Pend ι (t.H k) w w0 b x
  apart : ∀ i i', i ∈ l → i' ∈ l → i ≠ i' → ∀ b x b' x' cb, t.al i = some (b, x) → t.al i' = some (b', x') → (∀ j, j < k → ¬ anc ms (t.ef j) i) → (∀ j, j < k → ¬ anc ms (t.ef j) i') → ι.map b = some (cb, 0) → ι.map b' ≠ some (cb, 0)
  yet : ∀ i, i < ops.size → i ∉ l → ∀ b x, t.al i = some (b, x) → ι.map b = none

/-- The blocks that wait come to life, one by one. -/
theorem commit_sim {ι : Emb} {w w0 : World} {s0 : St HI} {ι0 : Emb} : ∀ (ps : List (Nat × Nat × Blk)) {s : St HI}, Sim ι s w → Stp ι0 s0 w0 ι s w → (∀ p ∈ ps, Pend ι s w w0 p.2.1 p.2.2) →
    (ps.Pairwise fun p q => ∀ cb, ι.map p.2.1 = some (cb, 0) → ι.map q.2.1 ≠ some (cb, 0)) →
    Sim ι (commit ps s) w ∧ Stp ι0 s0 w0 ι (commit ps s) w ∧ (commit ps s).next = s.next ∧
      (∀ cb, Off ι s cb → (∀ p ∈ ps, ι.map p.2.1 ≠ some (cb, 0)) → Off ι (commit ps s) cb)
  | [], s, h, hst, _, _ => ⟨h, hst, rfl, fun _ ho _ => ho⟩
  | (i, b, x) :: ps, s, h, hst, hp, hap => by
    obtain ⟨cb, h1, h2, h3, h4, h5⟩ := (hp (i, b, x) (by simp)).ex
    have hsim : Sim ι (s.put b (some x)) w := sim_live h h1 (.inl h4) h2 h3
    have offPut : ∀ c, Off ι s c → ι.map b ≠ some (c, 0) → Off ι (s.put b (some x)) c := fun c ho hne d y base hd => by
      rw [St.get_put] at hd
      split at hd
      · rename_i e; subst e
        intro hm
        rw [h1] at hm
        cases hm
        exact hne h1
      · exact ho d y base hd
    have hstp : Stp ι0 s0 w0 ι (s.put b (some x)) w := ⟨hst.le, hst.grow, hst.kept, fun c hl ho => offPut c (hst.own c hl ho) (fun e => by rw [h1] at e; cases e; omega), hst.frzo, hst.newid, hst.next, hst.os, hst.output, hst.tape⟩
    have hap' := List.pairwise_cons.1 hap
    have hp' : ∀ p ∈ ps, Pend ι (s.put b (some x)) w w0 p.2.1 p.2.2 := fun p hpm => by
      obtain ⟨c, q1, q2, q3, q4, q5⟩ := (hp p (by simp [hpm])).ex
      exact ⟨c, q1, q2, q3, offPut c q4 (fun e => by
        have := hap'.1 p hpm c e
        exact this q1), q5⟩
    obtain ⟨r1, r2, r3, r4⟩ := commit_sim ps hsim hstp hp' hap'.2
    refine ⟨r1, r2, r3, fun c ho hne => r4 c (offPut c ho (hne (i, b, x) (by simp))) (fun p hpm => hne p (by simp [hpm]))⟩

theorem getD_put {a : Act} {d : Nat} {v : Value} (hd : d < a.tmps.size) (u : Nat) : (a.put (some d) v).tmps.getD u undef = if u = d then v else a.tmps.getD u undef := by
  simp only [Act.put, Array.getD_eq_getD_getElem?]
  by_cases e : u = d
  · subst e; simp [hd]
  · rw [if_neg e, Array.getElem?_setIfInBounds_ne (Ne.symm e)]

/-- What an operation looks at, in whatever order. -/
theorem Inv.look (hms : masks ops = ms) (hlex : lexOk ops ms = true) {t : Tr HI} {ι0 ι : Emb} {s0 : St HI} {w0 w : World} {l : List Nat} {a : Act} {k lo hi i : Nat} {o : Oper} (h : Inv t ops ms env0 N ι0 s0 w0 l a w ι k) (ho : ops[i]? = some o) (hil : i ∉ l)
    (hready : ∀ e ∈ o.after.toList, Region.binds .any e = true → e.on ∈ l) (hg : Gop P T callee N ops ms env0 lo hi t i o) {u : Nat} (hu : u ∈ looks ops o) {v : AV} (hv : (t.env i).get u = some v) : R ι v (a.tmps.getD u undef) := by
  rcases hg.src u v hv with ⟨q, h1, oq, h2, h3, rfl⟩ | ⟨h1, h2⟩
  · have hanc := ((lexOk_pair hlex ho h2 h3).2.2 (by omega) hu).1 h1
    have hq : q ∈ l := anc_mem hms (D := fun x => x ∈ l) h.closed i q hanc (fun o' ho' => by rw [ho] at ho'; cases ho'; exact hready)
    exact h.new q hq oq u h2 h3
  · refine h.old u v (fun q hq oq hoq hd => ?_) h2
    have hne : q ≠ i := fun e => hil (e ▸ hq)
    rcases Nat.lt_or_ge q i with hlt | hge
    · exact h1 q hlt oq hoq hd
    · have hanc := ((lexOk_pair hlex ho hoq hd).2.2 (Ne.symm hne) hu).2 (by omega)
      exact hil (anc_mem hms (D := fun x => x ∈ l) h.closed q i hanc (fun o' ho' => h.closed q hq o' ho'))

theorem tmp_look {o : Oper} {u : Nat} (h : Operand.tmp u ∈ o.op.operands) : u ∈ looks ops o := by
  unfold looks
  refine List.mem_append_left _ (List.mem_filterMap.2 ⟨.tmp u, Array.mem_toList_iff.2 h, rfl⟩)

theorem Inv.opnd (hms : masks ops = ms) (hlex : lexOk ops ms = true) {t : Tr HI} {ι0 ι : Emb} {s0 : St HI} {w0 w : World} {l : List Nat} {a : Act} {k lo hi i : Nat} {o : Oper} (h : Inv t ops ms env0 N ι0 s0 w0 l a w ι k) (ho : ops[i]? = some o) (hil : i ∉ l)
    (hready : ∀ e ∈ o.after.toList, Region.binds .any e = true → e.on ∈ l) (hg : Gop P T callee N ops ms env0 lo hi t i o) : ∀ x ∈ o.op.operands, ∀ v, opd (t.env i) x = some v → R ι v (a.eval x) := by
  intro x hx v hv
  cases x with
  | tmp u => exact h.look hms hlex ho hil hready hg (tmp_look hx) hv
  | const c => simp only [opd] at hv; exact R_ofV ι c v hv
  | global g => simp [opd] at hv
  | func f => simp only [opd] at hv; cases hv; exact ⟨[], [], rfl, by simp [Rs], by simp [Rs]⟩

theorem Inv.wants (hms : masks ops = ms) (hlex : lexOk ops ms = true) {t : Tr HI} {ι0 ι : Emb} {s0 : St HI} {w0 w : World} {l : List Nat} {a : Act} {k lo hi i : Nat} {o : Oper} (h : Inv t ops ms env0 N ι0 s0 w0 l a w ι k) (ho : ops[i]? = some o) (hil : i ∉ l)
    (hready : ∀ e ∈ o.after.toList, Region.binds .any e = true → e.on ∈ l) (hg : Gop P T callee N ops ms env0 lo hi t i o) : Region.wanted o (yielded ops a.tmps) = t.want i := by
  have hw := hg.wanted
  unfold wantedA at hw
  unfold Region.wanted
  cases hgd : o.guard with
  | none => rw [hgd] at hw; simpa using hw
  | some p =>
    obtain ⟨g, want⟩ := p
    rw [hgd] at hw
    simp only at hw ⊢
    split at hw
    · rename_i og hog
      split at hw
      · rename_i d hd
        have hl : d ∈ looks ops o := by
          unfold looks
          refine List.mem_append_right _ ?_
          rw [hgd]
          simp [hog, hd]
        split at hw
        · rename_i b hb
          have hr := h.look hms hlex ho hil hready hg hl hb
          simp only [R] at hr
          have hget : a.tmps[d]? = some (.bool b) := by
            rw [Array.getD_eq_getD_getElem?] at hr
            cases e : a.tmps[d]? with
            | none => rw [e] at hr; simp [undef] at hr
            | some y => rw [e] at hr; simpa using hr
          simp only [Option.some.injEq] at hw
          rw [← hw]
          simp [yielded, hog, hd, hget]
        · rename_i hb
          have hr := h.look hms hlex ho hil hready hg hl hb
          obtain ⟨vs, e, h0⟩ := hr
          simp only [Rs] at h0
          subst h0
          simp only [Option.some.injEq] at hw
          rw [← hw]
          have : yielded ops a.tmps g = none := by
            unfold yielded
            simp only [hog, Option.bind_some, hd]
            rw [Array.getD_eq_getD_getElem?] at e
            cases e2 : a.tmps[d]? with
            | none => rfl
            | some y => rw [e2] at e; simp only [Option.getD_some] at e; subst e; rfl
          rw [this]; rfl
        · cases hw
      · cases hw
    · cases hw
end
end Go.Am
