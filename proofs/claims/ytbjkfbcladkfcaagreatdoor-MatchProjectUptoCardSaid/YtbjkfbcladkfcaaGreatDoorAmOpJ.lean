/- The operations are sound: the other builtins; calls; all together. -/
import Derived.Test.YtbjkfbcladkfcaaGreatDoorAmOpI
set_option linter.unusedSimpArgs false
set_option linter.unusedVariables false
namespace Go.Am
section
variable {HI : HeapI} {P : Program} {T : Tab}
variable {ι : Emb} {s s' : St HI} {w : World} {v : AV}

theorem writeV {b o es n : Nat} {cs new : List AV} {vs : List Value} {x' : Value} {len cap : Nat} {ex : Bool} (hs : Sim ι s w) (hx : R ι (.hsl b o es len cap ex) x') (hb : s.cells b = some cs) (hl : o + n * es ≤ cs.length) (hn : new.length = n * es) (h0 : 0 < len)
    (hr : Rs ι new vs) (h1 : new.all AV.single = true) :
    ∃ a cap' w', x' = .slice (some a) len cap' ∧ (storeCells a vs).run P w = .ok () w' ∧ Stp ι s w ι (s.put b (some (.cells (setAll cs o new)))) w' ∧ Sim ι (s.put b (some (.cells (setAll cs o new)))) w' := by
  obtain ⟨cb, base, a, cap', sz, hm, rfl, hc, ha, hle, hz, hsz⟩ := hx
  have ha' : a = base + o := ha.resolve_left (by have := hc.1; omega)
  subst ha'
  obtain ⟨w', r1, r2, r3⟩ := write_sound (P := P) (o := o) hs (St.cells_get hb) hm (by omega) hr h1
  exact ⟨_, _, w', rfl, r1, r2, r3⟩

theorem copyV_sound (hT : TabOK P T) (hs : Sim ι s w) {t t2 ty : TypeId} {x y : AV} {x' y' : Value} (hx : R ι x x') (hy : R ι y y') (h : copyV T s t x y = some (v, s')) :
    ∃ w' v', (Builtin.copy_ #[t, t2] ty #[x', y']).run P w = .ok v' w' ∧ Stp ι s w ι s' w' ∧ Sim ι s' w' ∧ R ι v v' := by
  unfold copyV at h
  split at h
  · rename_i elem hd
    split at h
    · rename_i es he
      have e0 : (#[t, t2] : Array TypeId)[0]? = some t := rfl
      have e1 : (#[x', y'] : Array Value)[0]? = some x' := rfl
      have e2 : (#[x', y'] : Array Value)[1]? = some y' := rfl
      simp only at h
      split at h
      · rename_i m d hm hdl
        obtain ⟨ax, capx, rfl⟩ := sliceLen_sound hx hdl
        have hlen : (Builtin.lenOf y').run P w = .ok m w := by
          split at hm
          · cases hm; simp only [R] at hy; subst hy; simp [Builtin.lenOf]
          · obtain ⟨a, cap, rfl⟩ := sliceLen_sound hy hm
            simp [Builtin.lenOf]
        split at h
        · rename_i hn
          cases h
          have hfc : ∀ es, (Builtin.firstCells es 0 y').run P w = .ok #[] w := fun es => by
            split at hm
            · simp only [R] at hy; subst hy
              rename_i b
              simp [Builtin.firstCells]
            · obtain ⟨a, cap, rfl⟩ := sliceLen_sound hy hm
              cases a <;> simp [Builtin.firstCells, loadCells, loadCellsFrom]
          refine ⟨w, .int .i64 0, ?_, .refl _ _ _, hs, rfl⟩
          simp only [Builtin.copy_, e0, e1, e2, Sem.run_bind, run_underlying (hT.und _ _ hd), Result.andThen_ok, hlen, hT.size_run he]
          have : Nat.min m d = 0 := hn
          rw [this, hfc]
          cases ax <;> simp [storeCells, goInt]
        · rename_i hn
          split at h
          · rename_i new b o es' lenx capx' exx hsrc
            split at h
            · rename_i cs hcs
              split at h
              · rename_i hc
                cases h
                obtain ⟨c1, c2, c3, c4⟩ := hc
                subst c1
                have hld : lenx = d := by simpa [sliceLen] using hdl
                subst hld
                have hsrc' : ∃ vs, (Builtin.firstCells es' (Nat.min m lenx) y').run P w = .ok ⟨vs⟩ w ∧ Rs ι new vs := by
                  split at hsrc
                  · split at hsrc
                    · cases hsrc
                      simp only [R] at hy; subst hy
                      rename_i bb _
                      refine ⟨(bb.data.toList.take (Nat.min m lenx)).map fun c => Value.int .u8 c.toNat, ?_, ?_⟩
                      · simp only [Builtin.firstCells, Sem.run_pure]
                        congr 1
                        apply Array.ext'
                        simp [ByteArray.data_extract]
                      · generalize bb.data.toList.take (Nat.min m lenx) = l
                        induction l with
                        | nil => simp [Rs]
                        | cons c l ih => simp only [List.map_cons, Rs]; exact ⟨_, _, rfl, rfl, ih⟩
                    · cases hsrc
                  · obtain ⟨vs, q1, q2, _⟩ := sliceCells_sound (P := P) hs hy hsrc
                    exact ⟨vs, q1, q2⟩
                obtain ⟨vs, q1, q2⟩ := hsrc'
                have hpos : 0 < lenx := by
                  have : Nat.min m lenx ≤ lenx := Nat.min_le_right _ _
                  omega
                obtain ⟨a, cap', w', r0, r1, r2, r3⟩ := writeV (P := P) (n := Nat.min m lenx) hs hx hcs c2 c4 hpos q2 c3
                cases r0
                refine ⟨w', .int .i64 (Nat.min m lenx), ?_, r2, r3, rfl⟩
                simp only [Builtin.copy_, e0, e1, e2, Sem.run_bind, run_underlying (hT.und _ _ hd), Result.andThen_ok, hlen, hT.size_run he, q1, r1, Sem.run_pure, goInt]
              · cases h
            · cases h
          · cases h
      · cases h
    · cases h
  · cases h

theorem clearV_sound (hT : TabOK P T) (hs : Sim ι s w) {t ty : TypeId} {x : AV} {x' : Value} (hx : R ι x x') (h : clearV T s t x = some s') :
    ∃ w', (Builtin.clear_ #[t] ty #[x']).run P w = .ok (.tuple #[]) w' ∧ Stp ι s w ι s' w' ∧ Sim ι s' w' := by
  have e0 : (#[t] : Array TypeId)[0]? = some t := rfl
  have e1 : (#[x'] : Array Value)[0]? = some x' := rfl
  unfold clearV at h
  split at h
  · rename_i elem hd
    split at h
    · rename_i es z he hz
      obtain ⟨zv, hz1, hz2⟩ := hT.zero_run hz w
      split at h
      · cases h
        simp only [R] at hx
        subst hx
        exact ⟨w, by simp [Builtin.clear_, run_underlying (hT.und _ _ hd)], .refl _ _ _, hs⟩
      · rename_i b o es' len cap ex
        split at h
        · rename_i h0
          cases h
          subst h0
          obtain ⟨cb, base, a, cap', sz, hm, rfl, _⟩ := hx
          exact ⟨w, by simp [Builtin.clear_, run_underlying (hT.und _ _ hd)], .refl _ _ _, hs⟩
        · rename_i h0
          split at h
          · rename_i cs hcs
            split at h
            · rename_i hc
              cases h
              obtain ⟨c1, c2, c3, c4⟩ := hc
              subst c1
              have hzc := cellsOfV hz2 ι
              have hzs : zv.cells.size = es' := by have := hzc.length; simp at this; omega
              have hlr : (List.replicate len z.cells).flatten.length = len * es' := by
                clear hzc
                induction len with
                | zero => simp
                | succ n ih => simp [List.replicate_succ, c2, Nat.succ_mul, Nat.add_comm]
              have hall : (List.replicate len z.cells).flatten.all AV.single = true := by
                rw [List.all_eq_true]
                intro y hy
                rw [List.mem_flatten] at hy
                obtain ⟨l, hl, hy⟩ := hy
                have := (List.mem_replicate.1 hl).2
                subst this
                exact List.all_eq_true.1 c4 y hy
              obtain ⟨a, cap', w', r0, r1, r2, r3⟩ := writeV (P := P) (n := len) hs hx hcs c3 hlr (by omega) (hzc.replicate len) hall
              subst r0
              by_cases hes : 0 < es'
              · refine ⟨w', ?_, r2, r3⟩
                obtain ⟨k, rfl⟩ : ∃ k, len = k + 1 := ⟨len - 1, by omega⟩
                have hl := zeroCells_list (zs := zv.cells) (n := k + 1) hzs hes
                simp only [Builtin.clear_, e0, e1, Sem.run_bind, run_underlying (hT.und _ _ hd), Result.andThen_ok, hz1, hl, r1, Sem.run_pure]
              · refine ⟨w', ?_, r2, r3⟩
                obtain ⟨k, rfl⟩ : ∃ k, len = k + 1 := ⟨len - 1, by omega⟩
                have hz0 : zv.cells = #[] := by
                  apply Array.eq_empty_of_size_eq_zero; omega
                have hl : (Builtin.zeroCells zv.cells (k + 1)).toList = (List.replicate (k + 1) zv.cells.toList).flatten := by
                  rw [hz0]; simp [Builtin.zeroCells]
                simp only [Builtin.clear_, e0, e1, Sem.run_bind, run_underlying (hT.und _ _ hd), Result.andThen_ok, hz1, hl, r1, Sem.run_pure]
            · cases h
          · cases h
      · cases h
    · cases h
  · cases h
end
end Go.Am
