/- The operations are sound: all but calls. -/
import Derived.Test.YtbjkfbcladkfcaaGreatDoorAmOpB
set_option linter.unusedSimpArgs false
set_option linter.unusedVariables false
namespace Go.Am
section
variable {HI : HeapI} {P : Program} {T : Tab}

theorem pur_some {s s' : St HI} {x : Option AV} {v : AV} (h : (match x with | some v => some (v, s) | none => none) = some (v, s')) : x = some v ∧ s' = s := by
  cases x with
  | none => cases h
  | some u => cases h; exact ⟨rfl, rfl⟩

theorem Does.unit {o : Oper} {ρ' : Operand → Value} {ι κ : Emb} {s s' : St HI} {w w' : World} (h : (execOp ρ' o).run P w = .ok .skip w') (h1 : Stp ι s w κ s' w') (h2 : Sim κ s' w') :
    Does P o ρ' ι s w (.tuple []) s' := ⟨κ, w', undef, _, h, .inr ⟨rfl, rfl⟩, h1, h2, ⟨[], rfl, by simp [Rs]⟩⟩

theorem Does.val {o : Oper} {ρ' : Operand → Value} {ι κ : Emb} {s s' : St HI} {w w' : World} {v : AV} {v' : Value} (h : (execOp ρ' o).run P w = .ok (.value v') w') (h1 : Stp ι s w κ s' w') (h2 : Sim κ s' w') (h3 : R κ v v') :
    Does P o ρ' ι s w v s' := ⟨κ, w', v', _, h, .inl rfl, h1, h2, h3⟩

section
variable {ρ : Operand → Option AV} {ρ' : Operand → Value} {ι : Emb} {s s' : St HI} {w : World} {v : AV} {dst : Option Tmp} {type : TypeId} {pos : String} {after : Array Edge} {guard : Option (Nat × Bool)}

theorem does_new (hs : Sim ι s w) {o : Oper} {cs : List AV} {vs rest : List Value} {elem : TypeId} (hr : Rs ι cs vs) {v' : Value} (hv : ∀ κ, ι.le κ → κ.map s.next = some (w.heap.size, 0) → κ.size w.heap.size = some (vs ++ rest).length → R κ v v')
    (hrun : (execOp ρ' o).run P w = .ok (.value v') (World.push w (.cells (vs ++ rest).toArray elem))) : Does P o ρ' ι s w v (s.new (.cells cs)) := by
  obtain ⟨κ, h1, h2, h3, h4⟩ := new_sound (rest := rest) hs elem hr
  exact .val hrun h1 h2 (hv κ h1.le h3 h4)

theorem does_alloc (hT : TabOK P T) (hs : Sim ι s w) {t : TypeId} {z : AV} (hz : T.zero t = some z) : Does P ⟨dst, .alloc t, type, pos, after, guard⟩ ρ' ι s w (.hptr s.next 0) (s.new (.cells z.cells)) := by
  obtain ⟨zv, h1, h2⟩ := hT.zero_run hz w
  refine does_new (rest := []) hs (cellsOfV h2 ι) (elem := t) (v' := .pointer (some ⟨w.heap.size, 0, none⟩)) (fun κ _ hm _ => ⟨_, _, hm, rfl⟩) ?_
  simp only [execOp, Instr.alloc, Sem.run_bind, h1, Result.andThen_ok, newVar, run_newRow, Sem.run_pure, List.append_nil, Array.toArray_toList]

theorem does_box (hs : Sim ι s w) {t : TypeId} {x : Operand} {u : AV} (hu : R ι u (ρ' x)) : Does P ⟨dst, .box t x, type, pos, after, guard⟩ ρ' ι s w (.hptr s.next 0) (s.new (.cells u.cells)) := by
  refine does_new (rest := []) hs hu.cells (elem := t) (v' := .pointer (some ⟨w.heap.size, 0, none⟩)) (fun κ _ hm _ => ⟨_, _, hm, rfl⟩) ?_
  simp only [execOp, Instr.box, Sem.run_bind, Result.andThen_ok, newVar, run_newRow, Sem.run_pure, List.append_nil, Array.toArray_toList]

theorem mapM_places (hT : TabOK P T) (w : World) : ∀ (fs : List Field), (fs.all (fun f => (T.info f.type).isSome) = true) →
    (fs.mapM fun f => do pure (f.offset, ← sizeOf f.type) : Sem (List (Nat × Nat))).run P w = .ok (fs.map fun f => (f.offset, ((T.info f.type).map (·.size)).getD 0)) w
  | [], _ => by simp only [List.mapM_nil, Sem.run_pure, List.map_nil]
  | f :: fs, h => by
    simp only [List.all_cons, Bool.and_eq_true] at h
    obtain ⟨i, hi⟩ := Option.isSome_iff_exists.1 h.1
    have hsz : T.size f.type = some i.size := by simp [Tab.size, hi]
    simp only [List.mapM_cons, Sem.run_bind, hT.size_run hsz, Result.andThen_ok, Sem.run_pure, mapM_places hT w fs h.2, hi, List.map_cons, Option.map_some, Option.getD_some]

theorem does_build (hT : TabOK P T) (hs : Sim ι s w) {t : TypeId} {parts : Array (Nat × Operand)} {callee : Callee HI} (hρ : ∀ x ∈ (Op.build t parts).operands, ∀ v, ρ x = some v → R ι v (ρ' x))
    (h : evOp P T callee ⟨dst, .build t parts, type, pos, after, guard⟩ ρ s = some (v, s')) : Does P ⟨dst, .build t parts, type, pos, after, guard⟩ ρ' ι s w v s' := by
  have hρ2 : ∀ p ∈ parts.toList, ∀ v, ρ p.2 = some v → R ι v (ρ' p.2) := fun p hp => hρ p.2 (by simp only [Op.operands, List.mem_toArray, List.mem_map]; exact ⟨p, hp, rfl⟩)
  simp only [evOp] at h
  split at h
  · rename_i vs z hvs hz
    obtain ⟨zv, hz1, hz2⟩ := hT.zero_run hz w
    have hps := evParts_sound hvs hρ2
    have hpl : (parts.map fun (x : Nat × Operand) => (x.1, ρ' x.2)).toList = parts.toList.map fun (i, x) => (i, ρ' x) := by simp
    split at h
    · rename_i fs hd
      split at h
      · rename_i cs hcs
        split at h
        · rename_i hall
          cases h
          have hplaces := mapM_places hT w fs.toList hall
          have hpe : structPlace T fs = fun (i : Nat) => (fs.toList.map fun (f : Field) => (f.offset, ((T.info f.type).map (·.size)).getD 0))[i]? := by
            funext i
            rw [List.getElem?_map]
            unfold structPlace
            cases hf : fs[i]? with
            | none => simp [hf]
            | some f =>
              have hm : f ∈ fs.toList := Array.mem_toList_iff.2 (Array.mem_of_getElem? hf)
              obtain ⟨inf, hi⟩ := Option.isSome_iff_exists.1 (List.all_eq_true.1 hall f hm)
              simp [hf, Tab.size, hi]
          rw [hpe] at hcs
          obtain ⟨ccs, h1, h2⟩ := fill_sound hcs (cellsOfV hz2 ι) hps
          refine .pure hs (v' := .agg ccs) ?_ ⟨ccs.toList, by simp, h2⟩
          simp only [execOp, Instr.build, Sem.run_bind, hz1, Result.andThen_ok, run_underlying (hT.und _ _ hd), Array.mapM_eq_mapM_toList, Sem.run_map, hplaces]
          have : Instr.fill (fun x => ((fs.toList.map fun (f : Field) => (f.offset, ((T.info f.type).map (·.size)).getD 0)).toArray)[x]?) zv.cells (parts.map fun (x : Nat × Operand) => (x.1, ρ' x.2)).toList = some ccs := by
            rw [hpl]; simpa using h1
          simp only [this, Sem.run_pure, Result.andThen_ok]
        · cases h
      · cases h
    · rename_i n elem hd
      split at h
      · rename_i es he
        split at h
        · rename_i cs hcs
          cases h
          obtain ⟨ccs, h1, h2⟩ := fill_sound hcs (cellsOfV hz2 ι) hps
          refine .pure hs (v' := .agg ccs) ?_ ⟨ccs.toList, by simp, h2⟩
          simp only [execOp, Instr.build, Sem.run_bind, hz1, Result.andThen_ok, run_underlying (hT.und _ _ hd), hT.size_run he]
          rw [hpl]
          simp only [h1, Sem.run_pure, Result.andThen_ok]
        · cases h
      · cases h
    · cases h
  · cases h

theorem replicate_cells {zs : Array Value} {n es : Nat} (hz : zs.size = es) (he : 0 < es) : ((Array.range (n * es)).map fun i => zs[i % zs.size]!).toList = (List.replicate n zs.toList).flatten := by
  subst hz
  have hm : ∀ k, (List.replicate k zs.toList).flatten.length = k * zs.size := fun k => by induction k with
    | zero => simp
    | succ k ih => simp [List.replicate_succ, ih, Nat.succ_mul, Nat.add_comm]
  have key : ∀ (k i : Nat), i < k * zs.size → (List.replicate k zs.toList).flatten[i]? = some (zs[i % zs.size]!) := fun k => by
    induction k with
    | zero => intro i hi; omega
    | succ k ih =>
      intro i hi
      rw [List.replicate_succ, List.flatten_cons]
      rcases Nat.lt_or_ge i zs.size with h | h
      · rw [List.getElem?_append_left (by simpa using h), Nat.mod_eq_of_lt h]
        simp [h]
      · rw [List.getElem?_append_right (by simpa using h)]
        simp only [Array.length_toList]
        rw [ih (i - zs.size) (by rw [Nat.succ_mul] at hi; omega), Nat.mod_eq_sub_mod h]
  apply List.ext_getElem?
  intro i
  rcases Nat.lt_or_ge i (n * zs.size) with h | h
  · rw [key n i h]
    simp [h]
  · rw [List.getElem?_eq_none (by simpa using h), List.getElem?_eq_none (by rw [hm]; exact h)]

theorem Rs.replicate {ι : Emb} {xs : List AV} {vs : List Value} (h : Rs ι xs vs) : ∀ n, Rs ι (List.replicate n xs).flatten (List.replicate n vs).flatten
  | 0 => by simp [Rs]
  | n + 1 => by
    rw [List.replicate_succ, List.replicate_succ, List.flatten_cons, List.flatten_cons]
    exact h.append (Rs.replicate h n)

theorem fill_size {place : Nat → Option (Nat × Nat)} : ∀ {parts : List (Nat × Value)} {cells cs : Array Value}, Instr.fill place cells parts = some cs → cs.size = cells.size
  | [], cells, cs, h => by simp only [Instr.fill] at h; cases h; rfl
  | (i, v) :: parts, cells, cs, h => by
    simp only [Instr.fill] at h
    split at h
    · cases h
    · split at h
      · cases h
      · have := fill_size h
        rw [this]
        rw [← Array.foldl_toList]
        generalize v.cells.zipIdx.toList = l
        rename_i hnot
        clear this h hnot
        induction l generalizing cells with
        | nil => rfl
        | cons x l ih => simp only [List.foldl_cons]; rw [ih]; simp

theorem does_buildSlice (hT : TabOK P T) (hs : Sim ι s w) {t : TypeId} {n : Nat} {parts : Array (Nat × Operand)} {callee : Callee HI} (hρ : ∀ x ∈ (Op.buildSlice t n parts).operands, ∀ v, ρ x = some v → R ι v (ρ' x))
    (h : evOp P T callee ⟨dst, .buildSlice t n parts, type, pos, after, guard⟩ ρ s = some (v, s')) : Does P ⟨dst, .buildSlice t n parts, type, pos, after, guard⟩ ρ' ι s w v s' := by
  have hρ2 : ∀ p ∈ parts.toList, ∀ v, ρ p.2 = some v → R ι v (ρ' p.2) := fun p hp => hρ p.2 (by simp only [Op.operands, List.mem_toArray, List.mem_map]; exact ⟨p, hp, rfl⟩)
  simp only [evOp] at h
  split at h
  · rename_i vs elem hvs hd
    split at h
    · rename_i es z he hz
      split at h
      · rename_i hc
        obtain ⟨hzl, hes, hbig⟩ := hc
        split at h
        · rename_i cs hcs
          cases h
          obtain ⟨zv, hz1, hz2⟩ := hT.zero_run hz w
          have hps := evParts_sound hvs hρ2
          have hpl : (parts.map fun (x : Nat × Operand) => (x.1, ρ' x.2)).toList = parts.toList.map fun (i, x) => (i, ρ' x) := by simp
          have hzc := cellsOfV hz2 ι
          have hzs : zv.cells.size = es := by have := hzc.length; simp at this; omega
          have hrep := replicate_cells (zs := zv.cells) (n := n) hzs hes
          obtain ⟨ccs, h1, h2⟩ := fill_sound (ccells := ((Array.range (n * es)).map fun i => zv.cells[i % zv.cells.size]!)) hcs (by rw [hrep]; exact hzc.replicate n) hps
          have hsz := fill_size h1
          refine does_new (rest := []) hs h2 (elem := elem) (v' := .slice (some ⟨w.heap.size, 0, none⟩) n n) (fun κ _ hm hz => ⟨_, _, 0, n, _, hm, rfl, ⟨Nat.le_refl _, fun _ => rfl⟩, .inr rfl, Nat.le_refl _, hz, .inr (by simp at hsz ⊢; omega)⟩) ?_
          have hif : (if n * es = 0 then Pure.pure #[] else do Pure.pure (← zeroValue elem).cells : Sem (Array Value)).run P w = .ok (if n * es = 0 then #[] else zv.cells) w := by
            split
            · rfl
            · simp [hz1]
          have hzz : (Array.range (n * es)).map (fun i => (if n * es = 0 then (#[] : Array Value) else zv.cells)[i % (if n * es = 0 then (#[] : Array Value) else zv.cells).size]!) = (Array.range (n * es)).map fun i => zv.cells[i % zv.cells.size]! := by
            by_cases e : n * es = 0
            · rw [e]; simp
            · simp only [e, if_false]
          have hb : ¬ (n * es > 2 ^ 24) := by omega
          simp only [execOp, Instr.buildSlice, Sem.run_bind, Result.andThen_ok, run_underlying (hT.und _ _ hd), hT.size_run he, if_neg hb, Sem.run_ite, Sem.run_pure]
          rw [hpl]
          by_cases e : n * es = 0
          · simp only [e, if_true, Result.andThen_ok] at h1 ⊢
            have e2 : (Array.range 0).map (fun i => (#[] : Array Value)[i % (#[] : Array Value).size]!) = (Array.range 0).map fun i => zv.cells[i % zv.cells.size]! := by simp
            rw [e2, h1]
            simp [run_newRow, World.push]
          · simp only [e, if_false, hz1, Result.andThen_ok, Sem.run_bind, Sem.run_pure, h1]
            simp [run_newRow, World.push]
        · cases h
      · cases h
    · cases h
  · cases h
end
end
end Go.Am
