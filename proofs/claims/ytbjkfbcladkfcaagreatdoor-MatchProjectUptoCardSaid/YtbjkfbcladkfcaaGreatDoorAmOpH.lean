/- The operations are sound: append, the other builtins. -/
import Derived.Test.YtbjkfbcladkfcaaGreatDoorAmOpG
set_option linter.unusedSimpArgs false
set_option linter.unusedVariables false
namespace Go.Am
section
variable {HI : HeapI} {P : Program} {T : Tab}
variable {ι : Emb} {s s' : St HI} {w : World} {v : AV}

theorem Tab.size_info {t es : Nat} (h : T.size t = some es) : ∃ i, T.info t = some i ∧ i.size = es := by
  unfold Tab.size at h
  split at h
  · cases h; exact ⟨_, by assumption, rfl⟩
  · cases h
theorem Tab.zero_info {t : Nat} {z : AV} (h : T.zero t = some z) : ∃ i zv, T.info t = some i ∧ i.zero = some zv ∧ ofV zv = some z := by
  unfold Tab.zero at h
  split at h
  · split at h
    · exact ⟨_, _, by assumption, by assumption, h⟩
    · cases h
  · cases h

theorem zeroCells_list {zs : Array Value} {n es : Nat} (hz : zs.size = es) (he : 0 < es) : (Builtin.zeroCells zs n).toList = (List.replicate n zs.toList).flatten := by
  have := replicate_cells (zs := zs) (n := n) hz he
  rw [← this]
  unfold Builtin.zeroCells
  rw [hz]

theorem appended_sound (hT : TabOK P T) (hs : Sim ι s w) {elem es xT n : Nat} {y : AV} {y' : Value} {cs : List AV} {i : TypeInfo} (hi : T.info elem = some i) (he : i.size = es) (hy : R ι y y') (h : appended T s elem es xT y = some (n, cs)) :
    ∃ zeros vs, Added P elem i.size xT y' n zeros w ∧ (newCells zeros elem i.size n y').run P w = .ok ⟨vs⟩ w ∧ Rs ι cs vs ∧ vs.length = n * es := by
  subst he
  unfold appended at h
  split at h
  · rename_i d k m hd
    split at h
    · rename_i hm
      split at h
      · rename_i z i' hz hi'
        rw [hi] at hi'; cases hi'
        split at h
        · rename_i hc
          cases h
          simp only [R] at hy
          subst hy
          obtain ⟨zv, hz1, hz2⟩ := hT.zero_run hz w
          have hzc := cellsOfV hz2 ι
          have hzs : zv.cells.size = i.size := by have := hzc.length; simp at this; omega
          refine ⟨true, (List.replicate m.toNat zv.cells.toList).flatten, ⟨(fun e => by cases e), fun _ => ⟨d, k, m, i, hT.und _ _ hd, rfl, hT.info _ _ hi, hm.1, hm.2, rfl, hc.2.2⟩⟩, ?_, hzc.replicate _, ?_⟩
          · unfold newCells
            have hl := zeroCells_list (n := m.toNat) hzs hc.2.1
            simp only [Bool.not_true, Bool.false_eq_true, if_false]
            by_cases e : m.toNat * i.size = 0
            · simp only [e, if_true, Sem.run_pure]
              have : m.toNat = 0 := by
                rcases Nat.mul_eq_zero.1 e with h | h
                · exact h
                · have := hc.2.1; omega
              simp [this]
            · simp only [e, if_false, Sem.run_bind, hz1, Result.andThen_ok, Sem.run_pure]
              rw [← hl]
          · have h1 := (hzc.replicate m.toNat).length
            have hl := zeroCells_list (n := m.toNat) hzs hc.2.1
            rw [← hl]
            simp [Builtin.zeroCells, hzs]
        · cases h
      · cases h
    · cases h
  · cases h
  · rename_i d b hni hd
    have hni : ∀ k, d ≠ .int k := fun k e => hni k e
    split at h
    · rename_i h1
      cases h
      simp only [R] at hy
      subst hy
      have hx : (b.extract 0 b.size).data = b.data := by
        have : b.extract 0 b.size = b := by simp
        rw [this]
      refine ⟨false, b.data.toList.map fun c => Value.int .u8 c.toNat, ⟨fun _ => ⟨d, hT.und _ _ hd, hni, by simp [Builtin.lenOf]⟩, fun e => by cases e⟩, ?_, ?_, ?_⟩
      · unfold newCells
        simp only [Bool.not_false, if_true, Builtin.firstCells, Sem.run_pure, hx]
        congr 1
        apply Array.ext'
        simp
      · generalize b.data.toList = l
        induction l with
        | nil => simp [Rs]
        | cons c l ih => simp only [List.map_cons, Rs]; exact ⟨_, _, rfl, rfl, ih⟩
      · simp [h1]
    · cases h
  · rename_i yv d hni hd h5 h6
    split at h
    · rename_i n' hlen
      split at h
      · rename_i cs' hcs
        cases h
        obtain ⟨a, cap, rfl⟩ := sliceLen_sound hy hlen
        obtain ⟨vs, h1, h2, h3⟩ := sliceCells_sound (P := P) hs hy hcs
        refine ⟨false, vs, ⟨fun _ => ⟨d, hT.und _ _ hd, hni, by simp [Builtin.lenOf]⟩, fun e => by cases e⟩, ?_, h2, h3⟩
        unfold newCells
        simpa using h1
      · cases h
    · cases h
  · cases h

theorem growOk_spec {elem need : Nat} {i : TypeInfo} (hi : T.info elem = some i) (h : growOk T elem need = true) : ∃ zv, i.zero = some zv ∧ (2 * need + 192) * i.bytes ≤ 2 ^ 48 ∧ 0 < i.bytes ∧ zv.cells.size = i.size := by
  unfold growOk at h
  rw [hi] at h
  simp only at h
  split at h
  · rename_i zv hz
    simp only [Bool.and_eq_true, decide_eq_true_eq] at h
    exact ⟨zv, hz, h.1.1, h.1.2, h.2⟩
  · cases h

/-- The post of a grown slice. -/
theorem grow_done {w1 : World} {elem : TypeId} {es need g : Nat} {all : List AV} {vs rest : List Value} (hs : Sim ι s w1) (hr : Rs ι all vs) (hg : need ≤ g) (hl : vs.length = need * es) (hrest : rest.length = (g - need) * es) :
    ∃ κ, Stp ι s w1 κ (s.new (.cells all)) (World.push w1 (.cells (vs ++ rest).toArray elem)) ∧ Sim κ (s.new (.cells all)) (World.push w1 (.cells (vs ++ rest).toArray elem)) ∧
      R κ (.hsl s.next 0 es need need false) (.slice (some ⟨w1.heap.size, 0, none⟩) need g) := by
  obtain ⟨κ, h1, h2, h3, h4⟩ := new_sound (rest := rest) hs elem hr
  refine ⟨κ, h1, h2, _, _, 0, g, _, h3, rfl, ⟨hg, fun e => by cases e⟩, .inr rfl, Nat.le_refl _, h4, .inr ?_⟩
  rw [List.length_append, hl, hrest, ← Nat.add_mul]
  rw [show need + (g - need) = g by omega]
  omega

/-- append in place beyond what is known of the block: it goes on under a new number. -/
theorem move_sound (hs : Sim ι s w) {b o len n es cb base sz cap' : Nat} {bs new : List AV} {vs : List Value} (hb : s.get b = some (.cells bs)) (hm : ι.map b = some (cb, base)) (hl : o + len * es ≤ bs.length) (hr : Rs ι new vs)
    (hnl : new.length = n * es) (h1 : new.all AV.single = true) (hz : ι.size cb = some sz) (hsz : base + o + cap' * es ≤ sz) (hroom : len + n ≤ cap') :
    ∃ w' κ, (storeCells ⟨cb, base + o + len * es, none⟩ vs).run P w = .ok () w' ∧ Stp ι s w κ ((s.put b none).new (.cells ((bs.drop o).take (len * es) ++ new))) w' ∧ Sim κ ((s.put b none).new (.cells ((bs.drop o).take (len * es) ++ new))) w' ∧
      κ.map s.next = some (cb, base + o) ∧ κ.size cb = some sz := by
  obtain ⟨cb', base', hm', hbr, hf⟩ := hs.live b _ hb
  rw [hm] at hm'; cases hm'
  obtain ⟨arr, e, ha, hasz, hlen, hcell⟩ := hbr
  rw [hz] at hasz; cases hasz
  have hlv := hr.length
  have hfit : (len + n) * es ≤ cap' * es := Nat.mul_le_mul_right _ hroom
  rw [Nat.add_mul] at hfit
  have hrun := run_storeCells_at P cb (base + o + len * es) e vs 0 arr w ha (by omega) (hr.singles h1)
  simp only [Nat.add_zero] at hrun
  rw [setRow_eq ha] at hrun
  generalize hn : (List.take (base + o + len * es) arr.toList ++ vs ++ List.drop (base + o + len * es + vs.length) arr.toList).toArray = arr' at hrun
  have hs' : arr'.size = arr.size := by rw [← hn]; simp; omega
  have hle : ι.le (ι.new s.next cb (base + o) arr.size) := Emb.le_new (hs.fresh _ (Nat.le_refl _)) (.inr hz)
  have key := sim_move hs (base' := base + o) (sz := arr.size) (x := .cells ((bs.drop o).take (len * es) ++ new)) (o := .cells arr' e (0, 0)) hb hm hz ⟨arr', e, setObj_same (hs.bmap _ _ _ hm), by rw [hs']; simp [Emb.new], by rw [hs']; simp; omega, fun i x hx => by
    rw [← hn]
    simp only [List.getElem?_toArray]
    have hol : ((bs.drop o).take (len * es)).length = len * es := by simp; omega
    rcases Nat.lt_or_ge i (len * es) with hi | hi
    · rw [List.getElem?_append_left (by omega), List.getElem?_take_of_lt hi, List.getElem?_drop] at hx
      rw [List.append_assoc, List.getElem?_append_left (by simp; omega), List.getElem?_take_of_lt (by omega)]
      obtain ⟨v, hv, hrv⟩ := hcell (o + i) x hx
      exact ⟨v, by rw [← hv, Array.getElem?_toList]; congr 1; omega, hrv.mono hle⟩
    · rw [List.getElem?_append_right (by omega), hol] at hx
      have hilt : i - len * es < new.length := (List.getElem?_eq_some_iff.1 hx).1
      rw [List.append_assoc, List.getElem?_append_right (by simp; omega), List.getElem?_append_left (by simp; omega)]
      obtain ⟨v, hv, hrv⟩ := hr.get hx
      refine ⟨v, ?_, hrv.mono hle⟩
      rw [← hv]; congr 1; simp; omega⟩
  exact ⟨_, _, hrun, key.2, key.1, by simp [Emb.new], by simp [Emb.new]⟩

theorem old_cells {b o es len cap : Nat} {ex : Bool} {bs : List AV} (hb : s.cells b = some bs) (h0 : len ≠ 0) (hl : o + len * es ≤ bs.length) : sliceCells s es len (.hsl b o es len cap ex) = some ((bs.drop o).take (len * es)) := by
  simp [sliceCells, h0, hb, hl]

/-- append where there is no room, whatever is known of the old capacity. -/
theorem grow_sound (hT : TabOK P T) {sT xT ty elem es n : Nat} {i : TypeInfo} {y' : Value} {new old : List AV} {vs ovs : List Value} {zeros : Bool} {base : Option Addr} {len cap' : Nat} {s1 : St HI}
    (hd : P.underlying sT = some (.slice elem)) (hi : T.info elem = some i) (hes : i.size = es) (hadd : Added P elem i.size xT y' n zeros w)
    (hnew : (newCells zeros elem i.size n y').run P { w with drawn := w.drawn + 1 } = .ok ⟨vs⟩ { w with drawn := w.drawn + 1 }) (hrn : Rs ι new vs) (hln : vs.length = n * es)
    (hold : (Builtin.firstCells i.size len (.slice base len cap')).run P { w with drawn := w.drawn + 1 } = .ok ⟨ovs⟩ { w with drawn := w.drawn + 1 }) (hro : Rs ι old ovs) (hlo : ovs.length = len * es)
    (hg : growOk T elem (len + n) = true) (hroom : ¬ len + n ≤ cap') (hs1 : Stp ι s { w with drawn := w.drawn + 1 } ι s1 { w with drawn := w.drawn + 1 }) (hsim1 : Sim ι s1 { w with drawn := w.drawn + 1 }) (hnx : s1.next = s.next) :
    ∃ κ w' v', (Builtin.append_ #[sT, xT] ty #[.slice base len cap', y']).run P w = .ok v' w' ∧ Stp ι s w κ (s1.new (.cells (old ++ new))) w' ∧ Sim κ (s1.new (.cells (old ++ new))) w' ∧ R κ (.hsl s.next 0 es (len + n) (len + n) false) v' := by
  obtain ⟨zv, hz, g1, g2, g3⟩ := growOk_spec hi hg
  have hrun := append_grow (ty := ty) hd (hT.info _ _ hi) hz hadd hroom g1 g2 hold hnew
  have hes0 : zv.cells.size = es := by omega
  generalize hgr : grown w (len + n) cap' elem = g at hrun
  have hge : len + n ≤ g := by rw [← hgr]; exact grown_ge _ _ _ _
  obtain ⟨κ, h1, h2, h3⟩ := grow_done (elem := elem) (g := g) (rest := (Builtin.zeroCells zv.cells (g - (len + n))).toList) hsim1 (hro.append hrn) hge (by rw [List.length_append, hlo, hln, ← Nat.add_mul]) (by simp [Builtin.zeroCells, hes0])
  have e : (ovs ++ vs ++ (Builtin.zeroCells zv.cells (g - (len + n))).toList).toArray = (⟨ovs⟩ : Array Value) ++ ⟨vs⟩ ++ Builtin.zeroCells zv.cells (g - (len + n)) := by
    apply Array.ext'
    simp
  rw [e] at h1 h2
  rw [hnx] at h3
  exact ⟨κ, _, _, hrun, ((stp_drawn ι s w _).trans hs1).trans h1, h2, h3⟩

theorem appendV_sound (hT : TabOK P T) (hs : Sim ι s w) {sT xT ty : Nat} {x y : AV} {x' y' : Value} (hx : R ι x x') (hy : R ι y y') (h : appendV T s sT xT x y = some (v, s')) :
    ∃ κ w' v', (Builtin.append_ #[sT, xT] ty #[x', y']).run P w = .ok v' w' ∧ Stp ι s w κ s' w' ∧ Sim κ s' w' ∧ R κ v v' := by
  unfold appendV at h
  split at h
  · rename_i elem hd
    have hd' := hT.und _ _ hd
    split at h
    · rename_i es he
      obtain ⟨i, hi, hes⟩ := Tab.size_info he
      have hi' := hT.info _ _ hi
      split at h
      · rename_i n new hap
        have hsd : Sim ι s { w with drawn := w.drawn + 1 } := sim_drawn hs _
        obtain ⟨zeros, vs, hadd, hnew, hrn, hln⟩ := appended_sound (P := P) hT hs hi hes hy hap
        obtain ⟨zeros2, vs2, hadd2, hnew2, hrn2, hln2⟩ := appended_sound (P := P) hT hsd hi hes hy hap
        -- the two readings add the same way
        have hz : zeros2 = zeros := by
          cases zeros <;> cases zeros2
          · rfl
          · obtain ⟨d, k, m, _, h1, _⟩ := hadd2.yes rfl
            obtain ⟨d', h2, h3, _⟩ := hadd.no rfl
            rw [h1] at h2; cases h2; exact absurd rfl (h3 _)
          · obtain ⟨d, k, m, _, h1, _⟩ := hadd.yes rfl
            obtain ⟨d', h2, h3, _⟩ := hadd2.no rfl
            rw [h1] at h2; cases h2; exact absurd rfl (h3 _)
          · rfl
        subst hz
        split at h
        · -- nil
          simp only [R] at hx
          subst hx
          split at h
          · rename_i hn
            cases h
            subst hn
            have := append_room (ty := ty) (base := none) (sLen := 0) (sCap := 0) (w' := w) hd' hi' hadd (Nat.le_refl _) hnew rfl
            exact ⟨ι, w, _, this, .refl _ _ _, hs, rfl⟩
          · rename_i hn
            split at h
            · rename_i hg
              cases h
              have := grow_sound (ty := ty) (old := []) (ovs := []) (base := none) (len := 0) (cap' := 0) hT hd' hi hes hadd hnew2 hrn2 hln2 (by simp [Builtin.firstCells]) (by simp [Rs]) (by simp) (by simpa using hg) (by omega) (.refl _ _ _) hsd rfl
              simpa using this
            · cases h
        · -- in the heap
          rename_i b o es' len cap ex
          split at h
          · cases h
          · rename_i hes'
            have hes' : es' = es := by simpa using hes'
            subst hes'
            have hx0 := hx
            obtain ⟨cb, base, a, cap', sz, hm, rfl, hc, ha, hl, hzz, hsz⟩ := hx
            have hcl := hc.1
            split at h
            · -- room that is known of
              rename_i hroom
              split at h
              · rename_i hn
                cases h
                subst hn
                have hvs : vs = [] := List.eq_nil_of_length_eq_zero (by simpa using hln)
                subst hvs
                have := append_room (ty := ty) (base := some ⟨cb, a, none⟩) (sLen := len) (sCap := cap') (w' := w) hd' hi' hadd (by omega) hnew rfl
                exact ⟨ι, w, _, this, .refl _ _ _, hs, by simpa using hx0⟩
              · rename_i hn
                split at h
                · rename_i bs hbs
                  split at h
                  · rename_i hcond
                    cases h
                    have ha' : a = base + o := ha.resolve_left (by omega)
                    subst ha'
                    have hnl : new.length = n * es' := by rw [hrn.length, hln]
                    obtain ⟨w', r1, r2, r3⟩ := write_sound (P := P) hs (o := o + len * es') (St.cells_get hbs) hm (by rw [hnl, Nat.add_assoc, ← Nat.add_mul]; exact hcond.1) hrn hcond.2
                    have := append_room (ty := ty) (base := some ⟨cb, base + o, none⟩) (sLen := len) (sCap := cap') (w' := w') hd' hi' hadd (by omega) hnew (by
                      simp only [add_addr, hes]
                      rw [Nat.add_assoc]; exact r1)
                    refine ⟨ι, w', _, this, r2, r3, ?_⟩
                    exact ⟨cb, base, base + o, cap', sz, hm, rfl, hc, .inr rfl, hroom, hzz, hsz⟩
                  · cases h
                · cases h
            · rename_i hroom
              split at h
              · rename_i hg
                -- what is known of the block
                split at h
                · rename_i hlen
                  subst hlen
                  split at h
                  · -- exact, empty
                    rename_i hex
                    cases h
                    have hcap := hc.2 hex
                    have := grow_sound (ty := ty) (old := []) (ovs := []) (base := some ⟨cb, a, none⟩) (len := 0) (cap' := cap') hT hd' hi hes hadd hnew2 hrn2 hln2 (by simp [Builtin.firstCells, loadCells, loadCellsFrom]) (by simp [Rs]) (by simp) hg (by omega) (.refl _ _ _) hsd rfl
                    simpa using this
                  · rename_i hex
                    split at h
                    · rename_i bs hbs
                      split at h
                      · rename_i hcond
                        cases h
                        by_cases hr : 0 + n ≤ cap'
                        · -- in place
                          have ha' : a = base + o := ha.resolve_left (by omega)
                          subst ha'
                          have hnl : new.length = n * es' := by rw [hrn.length, hln]
                          obtain ⟨w', κ, r1, r2, r3, r4, r5⟩ := move_sound (P := P) (len := 0) (n := n) (es := es') hs (St.cells_get hbs) hm (by simpa using hcond.1) hrn hnl hcond.2 hzz (hsz.resolve_left (by omega)) hr
                          have := append_room (ty := ty) (base := some ⟨cb, base + o, none⟩) (sLen := 0) (sCap := cap') (w' := w') hd' hi' hadd hr hnew (by
                            simp only [add_addr, hes]; exact r1)
                          refine ⟨κ, w', _, this, by simpa using r2, by simpa using r3, ?_⟩
                          exact ⟨cb, base + o, base + o, cap', sz, r4, by simp, ⟨by omega, fun e => by cases e⟩, .inr rfl, by omega, r5, .inr (by have := hsz.resolve_left (by omega); omega)⟩
                        · have := grow_sound (ty := ty) (old := []) (ovs := []) (base := some ⟨cb, a, none⟩) (len := 0) (cap' := cap') hT hd' hi hes hadd hnew2 hrn2 hln2 (by simp [Builtin.firstCells, loadCells, loadCellsFrom]) (by simp [Rs]) (by simp) hg (by omega) (stp_kill _ _ _ b) (sim_kill hsd b) rfl
                          simpa using this
                      · cases h
                    · cases h
                · rename_i hlen
                  split at h
                  · rename_i bs hbs
                    split at h
                    · rename_i hcond
                      cases h
                      obtain ⟨ovs, o1, o2, o3⟩ := sliceCells_sound (P := P) hsd hx0 (old_cells (cap := cap) (ex := ex) hbs hlen hcond.1)
                      rw [hes.symm] at o1
                      by_cases hr : len + n ≤ cap'
                      · -- in place: the capacity is not exact
                        have hex : ex = false := by
                          cases ex
                          · rfl
                          · have := hc.2 rfl; omega
                        subst hex
                        have ha' : a = base + o := ha.resolve_left (by omega)
                        subst ha'
                        have hnl : new.length = n * es' := by rw [hrn.length, hln]
                        obtain ⟨w', κ, r1, r2, r3, r4, r5⟩ := move_sound (P := P) (len := len) (n := n) (es := es') hs (St.cells_get hbs) hm hcond.1 hrn hnl hcond.2 hzz (hsz.resolve_left (by omega)) hr
                        have := append_room (ty := ty) (base := some ⟨cb, base + o, none⟩) (sLen := len) (sCap := cap') (w' := w') hd' hi' hadd hr hnew (by
                          simp only [add_addr, hes]; exact r1)
                        refine ⟨κ, w', _, this, r2, r3, ?_⟩
                        exact ⟨cb, base + o, base + o, cap', sz, r4, rfl, ⟨by omega, fun e => by cases e⟩, .inr rfl, Nat.le_refl _, r5, .inr (by have := hsz.resolve_left (by omega); omega)⟩
                      · cases ex
                        · exact grow_sound (ty := ty) (base := some ⟨cb, a, none⟩) (len := len) (cap' := cap') hT hd' hi hes hadd hnew2 hrn2 hln2 o1 o2 o3 hg hr (stp_kill _ _ _ b) (sim_kill hsd b) rfl
                        · exact grow_sound (ty := ty) (base := some ⟨cb, a, none⟩) (len := len) (cap' := cap') hT hd' hi hes hadd hnew2 hrn2 hln2 o1 o2 o3 hg hr (.refl _ _ _) hsd rfl
                    · cases h
                  · cases h
              · cases h
        · -- frozen
          rename_i fcs o es' len cap ex
          split at h
          · cases h
          · rename_i hes'
            have hes' : es' = es := by simpa using hes'
            subst hes'
            have hx0 := hx
            obtain ⟨cb, base, a, cap', us, sp, rfl, hp, hc, ha, hl, hf, hr⟩ := hx
            have hcl := hc.1
            split at h
            · rename_i hn
              cases h
              subst hn
              have hvs : vs = [] := List.eq_nil_of_length_eq_zero (by simpa using hln)
              subst hvs
              have := append_room (ty := ty) (base := some ⟨cb, a, sp⟩) (sLen := len) (sCap := cap') (w' := w) hd' hi' hadd (by omega) hnew rfl
              exact ⟨ι, w, _, this, .refl _ _ _, hs, by simpa using hx0⟩
            · rename_i hn
              split at h
              · rename_i hcond
                cases h
                obtain ⟨c1, c2, c3, c4⟩ := hcond
                have hcap := hc.2 c1
                have hsc : sliceCells s es' len (.fsl fcs o es' len cap ex) = some ((fcs.drop o).take (len * es')) := by
                  by_cases h0 : len = 0
                  · subst h0; simp [sliceCells]
                  · simp [sliceCells, h0, c4]
                obtain ⟨ovs, o1, o2, o3⟩ := sliceCells_sound (P := P) hsd hx0 hsc
                rw [hes.symm] at o1
                exact grow_sound (ty := ty) (base := some ⟨cb, a, sp⟩) (len := len) (cap' := cap') hT hd' hi hes hadd hnew2 hrn2 hln2 o1 o2 o3 c3 (by omega) (.refl _ _ _) hsd rfl
              · cases h
        · cases h
      · cases h
    · cases h
  · cases h
end
end Go.Am
