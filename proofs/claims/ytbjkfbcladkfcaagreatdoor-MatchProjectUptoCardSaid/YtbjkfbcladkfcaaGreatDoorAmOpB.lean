/- The operations are sound, one by one. -/
import Derived.Test.YtbjkfbcladkfcaaGreatDoorAmOpA
set_option linter.unusedSimpArgs false
set_option linter.unusedVariables false
namespace Go.Am
section
variable {HI : HeapI} {P : Program} {T : Tab}

theorem add_addr (b o n : Nat) : (⟨b, o, none⟩ : Addr).add n = ⟨b, o + n, none⟩ := by
  unfold Addr.add; split <;> simp_all

/-- An operation does in the world what it does in the abstract state. -/
def Does (P : Program) (o : Oper) (ρ' : Operand → Value) (ι : Emb) (s : St HI) (w : World) (v : AV) (s' : St HI) : Prop :=
  ∃ κ w' v' nx, (execOp ρ' o).run P w = .ok nx w' ∧ (nx = .value v' ∨ (nx = .skip ∧ v' = undef)) ∧ Stp ι s w κ s' w' ∧ Sim κ s' w' ∧ R κ v v'

theorem Does.pure {o : Oper} {ρ' : Operand → Value} {ι : Emb} {s : St HI} {w : World} {v : AV} {v' : Value} (hs : Sim ι s w)
    (h : (execOp ρ' o).run P w = .ok (.value v') w) (hr : R ι v v') : Does P o ρ' ι s w v s := ⟨ι, w, v', _, h, .inl rfl, .refl _ _ _, hs, hr⟩

theorem does_evQ {o : Oper} {ρ : Operand → Option AV} {ρ' : Operand → Value} {ι : Emb} {s : St HI} {w : World} {v : AV} (hs : Sim ι s w)
    (hρ : ∀ x ∈ o.op.operands, ∀ v, ρ x = some v → R ι v (ρ' x)) (hsel : ∀ cs b, o.op ≠ .select cs b) (h : evQ P o ρ = some v) : Does P o ρ' ι s w v s := by
  unfold evQ at h
  split at h
  · rename_i hall
    split at h
    · rename_i x hq
      have he : execOp (fun x => (plainVals ρ x).getD undef) o = execOp ρ' o := execOp_congr o hsel fun x hx => by
        have h1 := Array.all_eq_true_iff_forall_mem.1 hall x hx
        obtain ⟨u, hu⟩ := Option.isSome_iff_exists.1 h1
        simp only [hu, Option.getD_some]
        unfold plainVals at hu
        split at hu
        · rename_i y hy
          exact (R_toV ι y u _ hu (hρ x hx y hy)).symm
        · cases hu
      rw [he] at hq
      exact .pure hs (run_quiet hq w) (R_ofV ι _ _ h)
    · cases h
  · cases h

/-! ### cells -/
def CellsAt (ι : Emb) (w : World) (cb base : Nat) (cs : List AV) : Prop := ∀ (i : Nat) (x : AV), cs[i]? = some x → ∃ v, w.cell? ⟨cb, base + i, none⟩ = some v ∧ R ι x v

theorem BlkR.cellsAt {ι : Emb} {w : World} {cb base : Nat} {cs : List AV} (h : BlkR ι w cb base (.cells cs)) : CellsAt ι w cb base cs := by
  obtain ⟨arr, e, h1, _, _, h4⟩ := h
  intro i x hx
  obtain ⟨v, hv, hr⟩ := h4 i x hx
  exact ⟨v, by simp [World.cell?, h1, hv], hr⟩

theorem Sim.frzAt {ι : Emb} {s : St HI} {w : World} (hs : Sim ι s w) {cb base : Nat} {cs : List AV} {vs : List Value} (hf : Frz ι cb base vs) (hr : Rs ι cs vs) : CellsAt ι w cb base cs := by
  intro i x hx
  obtain ⟨v, hv, h1⟩ := hr.get hx
  exact ⟨v, hs.frz _ _ _ (hf i v hv), h1⟩

theorem pick_row {ι : Emb} : ∀ {xs : List AV} {f : Nat → Option Value}, (∀ (i : Nat) (x : AV), xs[i]? = some x → ∃ v, f i = some v ∧ R ι x v) →
    ∃ vs, Rs ι xs vs ∧ ∀ (j : Nat) (v : Value), vs[j]? = some v → f j = some v
  | [], _, _ => ⟨[], by simp [Rs], by simp⟩
  | x :: xs, f, h => by
    obtain ⟨v, hv, hr⟩ := h 0 x rfl
    obtain ⟨vs, h1, h2⟩ := pick_row (xs := xs) (f := fun i => f (i + 1)) (fun i y hy => h (i + 1) y (by simpa using hy))
    refine ⟨v :: vs, by simp only [Rs]; exact ⟨v, vs, rfl, hr, h1⟩, fun j u hu => ?_⟩
    cases j with
    | zero => simp at hu; subst hu; exact hv
    | succ j => simp at hu; exact h2 j u hu

theorem CellsAt.row {ι : Emb} {w : World} {cb base : Nat} {cs : List AV} (h : CellsAt ι w cb base cs) (o n : Nat) (hl : o + n ≤ cs.length) :
    ∃ vs, Rs ι ((cs.drop o).take n) vs ∧ vs.length = n ∧ ∀ (j : Nat) (v : Value), vs[j]? = some v → w.cell? ((⟨cb, base + o, none⟩ : Addr).add j) = some v := by
  obtain ⟨vs, h1, h2⟩ := pick_row (ι := ι) (xs := (cs.drop o).take n) (f := fun j => w.cell? ⟨cb, base + o + j, none⟩) (fun i x hx => by
    have hi : i < n := by
      rcases Nat.lt_or_ge i n with h | h
      · exact h
      · rw [List.getElem?_eq_none (by simp; omega)] at hx; cases hx
    rw [List.getElem?_take_of_lt hi, List.getElem?_drop] at hx
    obtain ⟨v, hv, hr⟩ := h (o + i) x hx
    exact ⟨v, by simpa [Nat.add_assoc] using hv, hr⟩)
  refine ⟨vs, h1, ?_, fun j v hv => by rw [add_addr]; exact h2 j v hv⟩
  rw [← h1.length]
  simp; omega

theorem load_sound (hT : TabOK P T) {ι : Emb} {w : World} {cb base t o : Nat} {cs : List AV} {v : AV} (h : CellsAt ι w cb base cs) (hr : readV T t cs o = some v) :
    ∃ v', (loadVar t ⟨cb, base + o, none⟩).run P w = .ok v' w ∧ R ι v v' := by
  unfold readV at hr
  split at hr
  · rename_i ha
    split at hr
    · rename_i n hn
      split at hr
      · rename_i hl
        cases hr
        obtain ⟨vs, h1, h2, h3⟩ := h.row o n hl
        refine ⟨.agg ⟨vs⟩, ?_, ⟨vs, rfl, h1⟩⟩
        have := run_loadCells_list (P := P) w ⟨cb, base + o, none⟩ vs h3
        rw [h2] at this
        simp [loadVar, hT.isAgg_run ha, hT.size_run hn, this]
      · cases hr
    · cases hr
  · rename_i ha
    obtain ⟨v', hv, h1⟩ := h o v hr
    exact ⟨v', by simp [loadVar, hT.isAgg_run ha, hv], h1⟩
  · cases hr

theorem St.cells_get {s : St HI} {b : Nat} {cs : List AV} (h : s.cells b = some cs) : s.get b = some (.cells cs) := by
  unfold St.cells at h
  split at h
  · cases h; assumption
  · cases h

theorem St.mapOf_get {s : St HI} {b : Nat} {es : List (AV × AV)} (h : s.mapOf b = some es) : s.get b = some (.map es) := by
  unfold St.mapOf at h
  split at h
  · cases h; assumption
  · cases h

/-- Where a pointer's cells lie. -/
theorem loadV_sound (hT : TabOK P T) {ι : Emb} {s : St HI} {w : World} (hs : Sim ι s w) {t : Nat} {p v : AV} {p' : Value} (hp : R ι p p') (h : loadV T s t p = some v) :
    ∃ v', (Instr.loadAt t p').run P w = .ok v' w ∧ R ι v v' := by
  unfold loadV at h
  split at h
  · rename_i b o
    split at h
    · rename_i cs hcs
      obtain ⟨cb, base, hm, hb, _⟩ := hs.live b _ (St.cells_get hcs)
      obtain ⟨cb', base', hm', rfl⟩ := hp
      rw [hm] at hm'; cases hm'
      obtain ⟨v', h1, h2⟩ := load_sound hT hb.cellsAt h
      exact ⟨v', by simp [Instr.loadAt, Instr.sureAddr, h1], h2⟩
    · cases h
  · rename_i cs o
    obtain ⟨cb, base, vs, rfl, hf, hr⟩ := hp
    obtain ⟨v', h1, h2⟩ := load_sound hT (hs.frzAt hf hr) h
    exact ⟨v', by simp [Instr.loadAt, Instr.sureAddr, h1], h2⟩
  · cases h

theorem setRow_eq {w : World} {g : Nat} {arr cs : Array Value} {t : TypeId} {fr : Nat × Nat} (h : w.heap[g]? = some (.cells arr t fr)) : w.setRow g cs = World.setObj w g (.cells cs t fr) := by
  have hlt : g < w.heap.size := (Array.getElem?_eq_some_iff.1 h).1
  have hv : w.heap[g] = .cells arr t fr := (Array.getElem?_eq_some_iff.1 h).2
  unfold Go.World.setRow World.setObj
  congr 1
  apply Array.ext
  · simp
  · intro k h1 h2
    simp only [Array.getElem_modify]
    split
    · rename_i hk; subst hk; simp [hv]
    · rename_i hk; rw [Array.getElem_setIfInBounds_ne _ hk]

/-- Cells are written into a live block. -/
theorem write_sound {ι : Emb} {s : St HI} {w : World} (hs : Sim ι s w) {b o : Nat} {cs new : List AV} {cb base : Nat} {vs : List Value} (hb : s.get b = some (.cells cs)) (hm : ι.map b = some (cb, base))
    (hl : o + new.length ≤ cs.length) (hr : Rs ι new vs) (h1 : new.all AV.single = true) :
    ∃ w', (storeCells ⟨cb, base + o, none⟩ vs).run P w = .ok () w' ∧ Stp ι s w ι (s.put b (some (.cells (setAll cs o new)))) w' ∧ Sim ι (s.put b (some (.cells (setAll cs o new)))) w' := by
  obtain ⟨cb', base', hm', hbr, hf⟩ := hs.live b _ hb
  rw [hm] at hm'; cases hm'
  obtain ⟨arr, e, ha, hsz, hlen, hcell⟩ := hbr
  have hlv := hr.length
  have hrun := run_storeCells_at P cb (base + o) e vs 0 arr w ha (by omega) (hr.singles h1)
  simp only [Nat.add_zero] at hrun
  rw [setRow_eq ha] at hrun
  generalize hn : (List.take (base + o) arr.toList ++ vs ++ List.drop (base + o + vs.length) arr.toList).toArray = arr' at hrun
  have hs' : arr'.size = arr.size := by rw [← hn]; simp; omega
  have key := sim_set hs (x := .cells (setAll cs o new)) (o := .cells arr' e (0, 0)) hb hm ⟨arr', e, setObj_same (hs.bmap _ _ _ hm), by rw [hs']; exact hsz, by rw [hs', setAll_length]; exact hlen, fun i x hx => by
    rw [setAll_eq _ _ _ hl] at hx
    rw [← hn]
    simp only [List.getElem?_toArray]
    rcases Nat.lt_or_ge i o with hi | hi
    · rw [List.append_assoc, List.getElem?_append_left (by simp; omega), List.getElem?_take_of_lt hi] at hx
      rw [List.append_assoc, List.getElem?_append_left (by simp; omega), List.getElem?_take_of_lt (by omega)]
      simpa using hcell i x hx
    · rcases Nat.lt_or_ge i (o + new.length) with hj | hj
      · rw [List.append_assoc, List.getElem?_append_right (by simp; omega), List.getElem?_append_left (by simp; omega)] at hx
        rw [List.append_assoc, List.getElem?_append_right (by simp; omega), List.getElem?_append_left (by simp; omega)]
        obtain ⟨v, hv, hrv⟩ := hr.get hx
        refine ⟨v, ?_, hrv⟩
        rw [← hv]; congr 1; simp; omega
      · rw [List.getElem?_append_right (by simp; omega), List.getElem?_drop] at hx
        rw [List.getElem?_append_right (by simp; omega), List.getElem?_drop]
        obtain ⟨v, hv, hrv⟩ := hcell _ x hx
        refine ⟨v, ?_, hrv⟩
        rw [← hv]; simp only [Array.getElem?_toList]; congr 1; simp; omega⟩
  exact ⟨_, hrun, key.2, key.1⟩

theorem storeV_sound (hT : TabOK P T) {ι : Emb} {s s' : St HI} {w : World} (hs : Sim ι s w) {t : Nat} {p v : AV} {p' v' : Value} (hp : R ι p p') (hv : R ι v v') (h : storeV T s t p v = some s') :
    ∃ w', (Instr.storeAt t p' v').run P w = .ok () w' ∧ Stp ι s w ι s' w' ∧ Sim ι s' w' := by
  unfold storeV at h
  split at h
  · rename_i b o
    split at h
    · rename_i cs n hcs hn
      split at h
      · rename_i hc
        cases h
        obtain ⟨h1, h2, h3⟩ := hc
        obtain ⟨cb, base, hm, rfl⟩ := hp
        obtain ⟨w', ha, hb, hc⟩ := write_sound (P := P) hs (St.cells_get hcs) hm (by rw [h1]; exact h2) hv.cells h3
        refine ⟨w', ?_, hb, hc⟩
        have hsz : v'.cells.size = n := by have := hv.cells.length; simp at this; omega
        simp [Instr.storeAt, Instr.sureAddr, storeVar, hT.size_run hn, hsz, ha]
      · cases h
    · cases h
  · cases h

/-- A new block of cells. -/
theorem new_sound {ι : Emb} {s : St HI} {w : World} (hs : Sim ι s w) {cs : List AV} {vs rest : List Value} (elem : TypeId) (hr : Rs ι cs vs) :
    ∃ κ, Stp ι s w κ (s.new (.cells cs)) (World.push w (.cells (vs ++ rest).toArray elem)) ∧ Sim κ (s.new (.cells cs)) (World.push w (.cells (vs ++ rest).toArray elem)) ∧
      κ.map s.next = some (w.heap.size, 0) ∧ κ.size w.heap.size = some (vs ++ rest).length := by
  have key := sim_new hs (o := .cells (vs ++ rest).toArray elem) (x := .cells cs) (sz := (vs ++ rest).length) (by
    have hle : ι.le (ι.new s.next w.heap.size 0 (vs ++ rest).length) := Emb.le_new (hs.fresh _ (Nat.le_refl _)) (.inl (by
      cases e : ι.size w.heap.size with
      | none => rfl
      | some n => exact absurd (hs.bsize _ _ e) (Nat.lt_irrefl _)))
    refine ⟨_, elem, push_new, by simp [Emb.new], by have := hr.length; simp; omega, fun i x hx => ?_⟩
    obtain ⟨v, hv, h1⟩ := hr.get hx
    refine ⟨v, ?_, h1.mono hle⟩
    simp only [Nat.zero_add, List.getElem?_toArray]
    rw [List.getElem?_append_left]
    · exact hv
    · exact (List.getElem?_eq_some_iff.1 hv).1)
  exact ⟨_, key.2, key.1, by simp [Emb.new], by simp [Emb.new]⟩

theorem run_newRow (w : World) (elem : TypeId) (cells : Array Value) : (newRow elem cells).run P w = .ok ⟨w.heap.size, 0, none⟩ (World.push w (.cells cells elem)) := by
  simp [newRow, World.push]

end
end Go.Am
