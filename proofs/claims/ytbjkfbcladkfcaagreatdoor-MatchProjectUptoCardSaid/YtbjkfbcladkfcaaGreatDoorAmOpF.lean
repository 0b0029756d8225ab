/- The operations are sound: slice expressions, what is made, iterations. -/
import Derived.Test.YtbjkfbcladkfcaaGreatDoorAmOpE
set_option linter.unusedSimpArgs false
set_option linter.unusedVariables false
namespace Go.Am
section
variable {HI : HeapI} {P : Program} {T : Tab}
variable {ρ : Operand → Option AV} {ρ' : Operand → Value} {ι : Emb} {s s' : St HI} {w : World} {v : AV} {dst : Option Tmp} {type : TypeId} {pos : String} {after : Array Edge} {guard : Option (Nat × Bool)}

theorem optInt_sound {lo : Option Operand} {l : Option Int} (hρ : ∀ x, lo = some x → ∀ v, ρ x = some v → R ι v (ρ' x)) (h : optInt ρ lo = some l) :
    (l = none → lo.map ρ' = none) ∧ (∀ n, l = some n → ∃ k, lo.map ρ' = some (.int k n)) := by
  cases lo with
  | none => simp only [optInt] at h; cases h; exact ⟨fun _ => rfl, fun n e => by cases e⟩
  | some x =>
    simp only [optInt] at h
    split at h
    · rename_i k n e
      cases h
      have := hρ x rfl _ e
      simp only [R] at this
      exact ⟨(fun e => by cases e), fun m e => ⟨k, by cases e; simp [this]⟩⟩
    · cases h

/-- The bounds of a slice expression: what the model reckons. -/
theorem bounds_run {isSlice : Bool} {len cap : Nat} {lo hi mx : Option Value} {l h m : Option Int} (hl0 : l = none → lo = none) (hl1 : ∀ n, l = some n → ∃ k, lo = some (.int k n))
    (hh0 : h = none → hi = none) (hh1 : ∀ n, h = some n → ∃ k, hi = some (.int k n)) (hm0 : m = none → mx = none) (hm1 : ∀ n, m = some n → ∃ k, mx = some (.int k n))
    {L H M : Int} (eL : L = l.getD 0) (eH : H = h.getD len) (eM : M = m.getD cap) (c0 : 0 ≤ L) (c1 : L ≤ H) (c2 : H ≤ M) (c3 : M ≤ cap) (hmx : m.isSome = true → h.isSome = true) :
    (Instr.sliceBounds isSlice len cap lo hi mx).run P w = .ok (L.toNat, H.toNat, M.toNat) w := by
  have run_bound : ∀ (k : IntKind) (n : Int) (y : Nat) (c : BoundsCode), 0 ≤ n → n ≤ (y : Int) → (Instr.sliceBound (.int k n) y c).run P w = .ok n.toNat w := fun k n y c a b => by
    simp [Instr.sliceBound, asIntOf, a, b]
  unfold Instr.sliceBounds
  cases m with
  | none =>
    rw [hm0 rfl]
    simp only [Option.getD_none] at eM
    cases h with
    | none =>
      rw [hh0 rfl]
      simp only [Option.getD_none] at eH
      cases l with
      | none =>
        rw [hl0 rfl]
        simp only [Option.getD_none] at eL
        simp [eL, eH, eM]
      | some n =>
        obtain ⟨k, e⟩ := hl1 n rfl
        simp only [Option.getD_some] at eL
        simp only [e, Sem.run_bind, Sem.run_pure, Result.andThen_ok, run_bound k n len _ (by omega) (by omega)]
        simp [eL, eH, eM]
    | some p =>
      obtain ⟨kp, ep⟩ := hh1 p rfl
      simp only [Option.getD_some] at eH
      cases l with
      | none =>
        rw [hl0 rfl]
        simp only [Option.getD_none] at eL
        simp only [ep, Sem.run_bind, Sem.run_pure, Result.andThen_ok, run_bound kp p cap _ (by omega) (by omega)]
        simp [eL, eH, eM]
      | some n =>
        obtain ⟨k, e⟩ := hl1 n rfl
        simp only [Option.getD_some] at eL
        simp only [e, ep, Sem.run_bind, Sem.run_pure, Result.andThen_ok, run_bound kp p cap _ (by omega) (by omega), run_bound k n p.toNat _ (by omega) (by omega)]
        simp [eL, eH, eM]
  | some q =>
    obtain ⟨kq, eq⟩ := hm1 q rfl
    simp only [Option.getD_some] at eM
    cases h with
    | none => simp at hmx
    | some p =>
      obtain ⟨kp, ep⟩ := hh1 p rfl
      simp only [Option.getD_some] at eH
      cases l with
      | none =>
        rw [hl0 rfl]
        simp only [Option.getD_none] at eL
        simp only [ep, eq, Sem.run_bind, Sem.run_pure, Result.andThen_ok, run_bound kq q cap _ (by omega) (by omega), run_bound kp p q.toNat _ (by omega) (by omega)]
        simp [eL, eH, eM]
      | some n =>
        obtain ⟨k, e⟩ := hl1 n rfl
        simp only [Option.getD_some] at eL
        simp only [e, ep, eq, Sem.run_bind, Sem.run_pure, Result.andThen_ok, run_bound kq q cap _ (by omega) (by omega), run_bound kp p q.toNat _ (by omega) (by omega), run_bound k n p.toNat _ (by omega) (by omega)]
        simp [eL, eH, eM]

theorem mul_le_mul3 {a b c : Nat} (h : a ≤ b) : a * c ≤ b * c := Nat.mul_le_mul_right c h

theorem does_slice (hT : TabOK P T) (hs : Sim ι s w) {callee : Callee HI} {t : TypeId} {x : Operand} {lo hi mx : Option Operand} (hρ : ∀ z ∈ (Op.slice t x lo hi mx).operands, ∀ v, ρ z = some v → R ι v (ρ' z))
    (h : evOp P T callee ⟨dst, .slice t x lo hi mx, type, pos, after, guard⟩ ρ s = some (v, s')) : Does P ⟨dst, .slice t x lo hi mx, type, pos, after, guard⟩ ρ' ι s w v s' := by
  have hx := hρ x (by simp [Op.operands])
  have hlo : ∀ y, lo = some y → ∀ v, ρ y = some v → R ι v (ρ' y) := fun y e => hρ y (by simp [Op.operands, e])
  have hhi : ∀ y, hi = some y → ∀ v, ρ y = some v → R ι v (ρ' y) := fun y e => hρ y (by simp [Op.operands, e])
  have hmx : ∀ y, mx = some y → ∀ v, ρ y = some v → R ι v (ρ' y) := fun y e => hρ y (by simp [Op.operands, e])
  simp only [evOp] at h
  split at h
  · rename_i b e
    obtain ⟨h1, rfl⟩ := pur_some h
    exact does_evQ hs hρ (fun _ _ e => by cases e) h1
  · rename_i u hns e
    split at h
    · rename_i l hh m el eh em
      have rl := optInt_sound hlo el
      have rh := optInt_sound hhi eh
      have rm := optInt_sound hmx em
      have rx := hx _ e
      split at h
      · rename_i elem hd
        obtain ⟨h1, rfl⟩ := pur_some h
        unfold resliceV at h1
        rw [hd] at h1
        simp only at h1
        split at h1
        · rename_i es he
          have shape : ∀ {len cap' : Nat} {a : Option Addr} {L H M : Int}, ρ' x = .slice a len cap' → (Instr.sliceBounds true len cap' (lo.map ρ') (hi.map ρ') (mx.map ρ')).run P w = .ok (L.toNat, H.toNat, M.toNat) w →
              (execOp ρ' ⟨dst, .slice t x lo hi mx, type, pos, after, guard⟩).run P w = .ok (.value (.slice (if M.toNat = L.toNat then a else a.map (·.add (L.toNat * es))) (H.toNat - L.toNat) (M.toNat - L.toNat))) w := fun ex hb => by
            simp only [execOp, Instr.sliceAt, Sem.run_bind, run_underlying (hT.und _ _ hd), Result.andThen_ok, Instr.slice, ex, hb, hT.size_run he, Sem.run_pure]
          split at h1
          · -- nil
            split at h1
            · rename_i q hc
              cases h1
              split at hc
              · rename_i c
                obtain ⟨c0, c1, c2, c3, c4⟩ := c
                simp only [R] at rx
                have hb := bounds_run (P := P) (w := w) (isSlice := true) (len := 0) (cap := 0) rl.1 rl.2 rh.1 rh.2 rm.1 rm.2 rfl rfl rfl c0 c1 c2 c3 c4
                refine .pure hs (shape rx hb) ?_
                have e1 : (l.getD 0).toNat = 0 := by omega
                have e2 : (hh.getD ((0 : Nat) : Int)).toNat = 0 := by omega
                have e3 : (m.getD ((0 : Nat) : Int)).toNat = 0 := by omega
                simp only [Int.natCast_zero] at c1 c2 c3 e2 e3 ⊢
                simp only [R, e1, e2, e3, Nat.sub_self]
                simp
              · cases hc
            · cases h1
          · -- in the heap
            rename_i b o es' len cap ex
            split at h1
            · cases h1
            · rename_i hes
              have hes : es' = es := by simpa using hes
              subst hes
              split at h1
              · rename_i l0 n0 c0' ex0 hc
                cases h1
                split at hc
                · rename_i c
                  obtain ⟨c0, c1, c2, c3, c4⟩ := c
                  cases hc
                  obtain ⟨cb, base, a, cap', sz, hm, ex', hcap, ha, hl, hz, hsz⟩ := rx
                  have hcl := hcap.1
                  -- the model's own bound of capacity
                  have hb := bounds_run (P := P) (w := w) (isSlice := true) (len := len) (cap := cap') (L := l.getD 0) (H := hh.getD len) (M := m.getD cap') rl.1 rl.2 rh.1 rh.2 rm.1 rm.2 rfl rfl rfl c0 c1 (by
                    cases m with
                    | none => simp only [Option.getD_none] at c2 ⊢; omega
                    | some q => simpa using c2) (by
                    cases m with
                    | none => simp
                    | some q => simp only [Option.getD_some] at c3 ⊢; omega) c4
                  refine .pure hs (shape ex' hb) ?_
                  have hM : m.getD (cap' : Int) ≤ cap' := by
                    cases m with
                    | none => simp
                    | some q => simp only [Option.getD_some] at c3 ⊢; omega
                  have hMc : m.getD (cap : Int) ≤ m.getD (cap' : Int) := by
                    cases m with
                    | none => simp only [Option.getD_none]; omega
                    | some q => simp
                  refine ⟨cb, base, (if (m.getD (cap' : Int)).toNat = (l.getD 0).toNat then a else a + (l.getD 0).toNat * es'), (m.getD (cap' : Int)).toNat - (l.getD 0).toNat, sz, hm, ?_, ⟨?_, ?_⟩, ?_, ?_, hz, ?_⟩
                  · have e1 : (hh.getD (len : Int)).toNat - (l.getD 0).toNat = (hh.getD (len : Int) - l.getD 0).toNat := by omega
                    rw [e1]
                    congr 1
                    split
                    · rfl
                    · simp [add_addr]
                  · omega
                  · intro hex
                    cases m with
                    | none =>
                      simp only [Option.isSome_none, Bool.or_false] at hex
                      have := hcap.2 hex
                      subst this
                      simp only [Option.getD_none]; omega
                    | some q => simp only [Option.getD_some]; omega
                  · by_cases e1 : (m.getD (cap' : Int)).toNat = (l.getD 0).toNat
                    · left; omega
                    · right
                      rw [if_neg e1]
                      have : a = base + o := ha.resolve_left (by omega)
                      omega
                  · omega
                  · by_cases e1 : (m.getD (cap' : Int)).toNat - (l.getD 0).toNat = 0
                    · left; exact e1
                    · right
                      have hsz' := hsz.resolve_left (by omega)
                      have h6 : ((l.getD 0).toNat + ((m.getD (cap' : Int)).toNat - (l.getD 0).toNat)) * es' ≤ cap' * es' := Nat.mul_le_mul_right _ (by omega)
                      rw [Nat.add_mul] at h6
                      omega
                · cases hc
              · cases h1
          · -- frozen
            rename_i fcs o es' len cap ex
            split at h1
            · cases h1
            · rename_i hes
              have hes : es' = es := by simpa using hes
              subst hes
              split at h1
              · rename_i l0 n0 c0' ex0 hc
                cases h1
                split at hc
                · rename_i c
                  obtain ⟨c0, c1, c2, c3, c4⟩ := c
                  cases hc
                  obtain ⟨cb, base, a, cap', us, sp, ex', hp, hcap, ha, hl, hf, hr⟩ := rx
                  have hcl := hcap.1
                  have hb := bounds_run (P := P) (w := w) (isSlice := true) (len := len) (cap := cap') (L := l.getD 0) (H := hh.getD len) (M := m.getD cap') rl.1 rl.2 rh.1 rh.2 rm.1 rm.2 rfl rfl rfl c0 c1 (by
                    cases m with
                    | none => simp only [Option.getD_none] at c2 ⊢; omega
                    | some q => simpa using c2) (by
                    cases m with
                    | none => simp
                    | some q => simp only [Option.getD_some] at c3 ⊢; omega) c4
                  refine .pure hs (shape ex' hb) ?_
                  have hM : m.getD (cap' : Int) ≤ cap' := by
                    cases m with
                    | none => simp
                    | some q => simp only [Option.getD_some] at c3 ⊢; omega
                  have hMc : m.getD (cap : Int) ≤ m.getD (cap' : Int) := by
                    cases m with
                    | none => simp only [Option.getD_none]; omega
                    | some q => simp
                  refine ⟨cb, base, (if (m.getD (cap' : Int)).toNat = (l.getD 0).toNat then a else a + (l.getD 0).toNat * es'), (m.getD (cap' : Int)).toNat - (l.getD 0).toNat, us, (if (m.getD (cap' : Int)).toNat = (l.getD 0).toNat then sp else none), ?_, ?_, ⟨?_, ?_⟩, ?_, ?_, hf, hr⟩
                  · have e1 : (hh.getD (len : Int)).toNat - (l.getD 0).toNat = (hh.getD (len : Int) - l.getD 0).toNat := by omega
                    rw [e1]
                    congr 1
                    split
                    · rfl
                    · have hp' : sp = none := hp.resolve_right (by omega)
                      subst hp'
                      simp [add_addr]
                  · split
                    · right; omega
                    · left; rfl
                  · omega
                  · intro hex
                    cases m with
                    | none =>
                      simp only [Option.isSome_none, Bool.or_false] at hex
                      have := hcap.2 hex
                      subst this
                      simp only [Option.getD_none]; omega
                    | some q => simp only [Option.getD_some]; omega
                  · by_cases e1 : (m.getD (cap' : Int)).toNat = (l.getD 0).toNat
                    · left; omega
                    · right
                      rw [if_neg e1]
                      have : a = base + o := ha.resolve_left (by omega)
                      omega
                  · omega
                · cases hc
              · cases h1
          · cases h1
        · cases h1
      · rename_i n elem hd
        obtain ⟨h1, rfl⟩ := pur_some h
        unfold sliceArr at h1
        rw [hd] at h1
        simp only at h1
        split at h1
        · rename_i es b o he
          split at h1
          · rename_i cs hcs
            split at h1
            · rename_i c
              obtain ⟨c0, c1, c2, c3, c4, c5⟩ := c
              cases h1
              obtain ⟨cb, base, hm, ex'⟩ := rx
              have hb := bounds_run (P := P) (w := w) (isSlice := false) (len := n) (cap := n) (L := l.getD 0) (H := hh.getD n) (M := m.getD n) rl.1 rl.2 rh.1 rh.2 rm.1 rm.2 rfl rfl rfl c0 c1 c2 c3 c4
              obtain ⟨cb', base', hm', ⟨arr, et, ha, hsz, hlen, _⟩, _⟩ := hs.live b _ (St.cells_get hcs)
              rw [hm] at hm'; cases hm'
              refine .pure hs (v' := .slice (some (if (m.getD (n : Int)).toNat = (l.getD 0).toNat then ⟨cb, base + o, none⟩ else ⟨cb, base + (o + (l.getD 0).toNat * es), none⟩)) ((hh.getD (n : Int)).toNat - (l.getD 0).toNat) ((m.getD (n : Int)).toNat - (l.getD 0).toNat)) ?_ ?_
              · simp only [execOp, Instr.sliceAt, Sem.run_bind, run_underlying (hT.und _ _ hd), Result.andThen_ok, ex', Instr.sureAddr, hb, hT.size_run he, Sem.run_pure, add_addr, Nat.add_assoc]
              · refine ⟨cb, base, (if (m.getD (n : Int)).toNat = (l.getD 0).toNat then base + o else base + (o + (l.getD 0).toNat * es)), (m.getD (n : Int)).toNat - (l.getD 0).toNat, arr.size, hm, ?_, ⟨?_, fun _ => ?_⟩, ?_, ?_, hsz, ?_⟩
                · have e1 : (hh.getD (n : Int)).toNat - (l.getD 0).toNat = (hh.getD (n : Int) - l.getD 0).toNat := by omega
                  rw [e1]
                  congr 1
                  split <;> rfl
                · omega
                · omega
                · by_cases e1 : (m.getD (n : Int)).toNat = (l.getD 0).toNat
                  · left; omega
                  · right; rw [if_neg e1]
                · omega
                · right
                  have h6 : ((l.getD 0).toNat + ((m.getD (n : Int)).toNat - (l.getD 0).toNat)) * es ≤ n * es := Nat.mul_le_mul_right _ (by omega)
                  rw [Nat.add_mul] at h6
                  omega
            · cases h1
          · cases h1
        · cases h1
      · cases h
    · cases h
  · cases h

theorem does_makeMap (hT : TabOK P T) (hs : Sim ι s w) {callee : Callee HI} {t : TypeId} {r : Option Operand} (hρ : ∀ z ∈ (Op.makeMap t r).operands, ∀ v, ρ z = some v → R ι v (ρ' z))
    (h : evOp P T callee ⟨dst, .makeMap t r, type, pos, after, guard⟩ ρ s = some (v, s')) : Does P ⟨dst, .makeMap t r, type, pos, after, guard⟩ ρ' ι s w v s' := by
  have key : ∀ {o : Oper}, (execOp ρ' o).run P w = .ok (.value (.map (some w.heap.size))) (World.push w (.map #[] 0)) → Does P o ρ' ι s w (.map s.next) (s.new (.map [])) := fun hr => by
    have k := sim_new hs (o := .map #[] 0) (x := .map []) (sz := 0) ⟨rfl, #[], 0, push_new, .nil⟩
    exact .val hr k.2 k.1 ⟨w.heap.size, by simp [Emb.new], rfl⟩
  simp only [evOp] at h
  split at h
  · rename_i kt et hd
    split at h
    · cases h
      exact key (by simp [execOp, Instr.makeMap, World.push])
    · rename_i x
      split at h
      · rename_i k n e
        cases h
        have rx := hρ x (by simp [Op.operands]) _ e
        simp only [R] at rx
        exact key (by simp [execOp, Instr.makeMap, World.push, rx, run_underlying (hT.und _ _ hd), asInt, asIntOf])
      · cases h
  · cases h

theorem does_makeSlice (hT : TabOK P T) (hs : Sim ι s w) {callee : Callee HI} {t : TypeId} {l c : Operand} (hρ : ∀ z ∈ (Op.makeSlice t l c).operands, ∀ v, ρ z = some v → R ι v (ρ' z))
    (h : evOp P T callee ⟨dst, .makeSlice t l c, type, pos, after, guard⟩ ρ s = some (v, s')) : Does P ⟨dst, .makeSlice t l c, type, pos, after, guard⟩ ρ' ι s w v s' := by
  have hl := hρ l (by simp [Op.operands])
  have hc := hρ c (by simp [Op.operands])
  simp only [evOp] at h
  split at h
  · rename_i elem hd
    split at h
    · rename_i inf z kl ln kc cn hi hz el ec
      split at h
      · rename_i cond
        obtain ⟨c1, c2, c3, c4, c5, c6⟩ := cond
        cases h
        have rl := hl _ el
        have rc := hc _ ec
        simp only [R] at rl rc
        obtain ⟨zv, hz1, hz2⟩ := hT.zero_run hz w
        have hzc := cellsOfV hz2 ι
        have hzs : zv.cells.size = inf.size := by have := hzc.length; simp at this; omega
        have hrep := replicate_cells (zs := zv.cells) (n := cn.toNat) hzs c2
        have wl : IntKind.i64.wrap ln = ln := by simp [IntKind.wrap, IntKind.bits, IntKind.signed]; omega
        have wc : IntKind.i64.wrap cn = cn := by simp [IntKind.wrap, IntKind.bits, IntKind.signed]; omega
        have hsz : T.size elem = some inf.size := by simp [Tab.size, hi]
        refine does_new (rest := []) hs (hzc.replicate cn.toNat) (elem := elem) (v' := .slice (some ⟨w.heap.size, 0, none⟩) ln.toNat cn.toNat) (fun κ _ hm hz' => ⟨_, _, 0, cn.toNat, _, hm, rfl, ⟨Nat.le_refl _, fun _ => rfl⟩, .inr rfl, by omega, hz', .inr (by
          have : (List.replicate cn.toNat zv.cells.toList).flatten.length = cn.toNat * inf.size := by rw [← hrep]; simp
          simp at this ⊢; omega)⟩) ?_
        have hb : (inf.bytes : Int) * cn > 2 ^ 48 ↔ False := by simp; omega
        have hif : (if cn.toNat * inf.size = 0 then Pure.pure #[] else do Pure.pure (← zeroValue elem).cells : Sem (Array Value)).run P w = .ok (if cn.toNat * inf.size = 0 then #[] else zv.cells) w := by
          split
          · rfl
          · simp [hz1]
        have hzz : (Array.range (cn.toNat * inf.size)).map (fun i => (if cn.toNat * inf.size = 0 then (#[] : Array Value) else zv.cells)[i % (if cn.toNat * inf.size = 0 then (#[] : Array Value) else zv.cells).size]!) = (Array.range (cn.toNat * inf.size)).map fun i => zv.cells[i % zv.cells.size]! := by
          by_cases e : cn.toNat * inf.size = 0
          · rw [e]; simp
          · simp only [e, if_false]
        have hcond : ((decide (cn < 0) || decide ((inf.bytes : Int) * cn > 2 ^ 48)) || decide (ln < 0) || decide (ln > cn)) = false := by
          simp only [Bool.or_eq_false_iff, decide_eq_false_iff_not]; omega
        have e2 : (((List.replicate cn.toNat zv.cells.toList).flatten ++ []).toArray : Array Value) = (Array.range (cn.toNat * inf.size)).map fun i => zv.cells[i % zv.cells.size]! := by
          rw [List.append_nil, ← hrep]
        rw [e2]
        simp only [execOp, Instr.makeSlice, Sem.run_bind, run_underlying (hT.und _ _ hd), Result.andThen_ok, rl, rc, asInt, asIntOf, Sem.run_pure, typeInfo, run_program, hT.info _ _ hi, wl, wc, hcond]
        simp only [Bool.false_eq_true, if_false, run_askRoom, hT.size_run hsz, Result.andThen_ok, Sem.run_bind]
        by_cases e : cn.toNat * inf.size = 0
        · simp only [e, if_true, Sem.run_pure, Result.andThen_ok]
          have hr0 : ∀ (f g : Nat → Value), (Array.range 0).map f = (Array.range 0).map g := fun f g => Array.ext (by simp) (fun i h1 _ => by simp at h1)
          rw [hr0 (fun i => zv.cells[i % zv.cells.size]!) (fun i => (#[] : Array Value)[i % (#[] : Array Value).size]!)]
          simp only [Sem.run_bind, Sem.run_pure, Result.andThen_ok, run_newRow]
        · simp only [e, if_false, hz1, Result.andThen_ok, Sem.run_bind, Sem.run_pure, run_newRow]
      · cases h
    · cases h
  · cases h

theorem does_iter (hT : TabOK P T) (hs : Sim ι s w) {callee : Callee HI} {op : Op} (hop : match op with | .range _ _ | .next _ true => True | _ => False) (hρ : ∀ z ∈ op.operands, ∀ v, ρ z = some v → R ι v (ρ' z))
    (h : evOp P T callee ⟨dst, op, type, pos, after, guard⟩ ρ s = some (v, s')) : Does P ⟨dst, op, type, pos, after, guard⟩ ρ' ι s w v s' := by
  cases op <;> first | exact hop.elim | skip
  case range t x =>
    simp only [evOp] at h
    split at h
    · rename_i b hd e
      cases h
      have rx := hρ x (by simp [Op.operands]) _ e
      simp only [R] at rx
      have k := sim_new hs (o := .stringIter b 0) (x := .iter b 0) (sz := 0) ⟨rfl, push_new⟩
      refine .val (v' := .pointer (some ⟨w.heap.size, 0, none⟩)) ?_ k.2 k.1 ⟨w.heap.size, 0, by simp [Emb.new], rfl⟩
      simp [execOp, Instr.range, run_underlying (hT.und _ _ hd), rx, World.push]
    · cases h
  case next it b =>
    obtain rfl : b = true := by
      cases b
      · exact hop.elim
      · rfl
    simp only [evOp] at h
    split at h
    · rename_i b e
      split at h
      · rename_i st ps hb
        obtain ⟨cb, base, hm, hbr, hf⟩ := hs.live b _ hb
        obtain ⟨h0, hheap⟩ := hbr
        subst h0
        obtain ⟨cb', base', hm', ex⟩ := hρ it (by simp [Op.operands]) _ e
        rw [hm] at hm'; cases hm'
        simp only [Nat.add_zero] at ex
        have hget : (getObj cb).run P w = .ok (.stringIter st ps) w := by simp [getObj, Sem.run, hheap]
        have hlt : cb < w.heap.size := hs.bmap _ _ _ hm
        split at h
        · rename_i hp
          cases h
          have k := sim_set hs (x := .iter st (ps + (Utf8.decode st ps).2)) (o := .stringIter st (ps + (Utf8.decode st ps).2)) hb hm ⟨rfl, setObj_same hlt⟩
          refine .val (v' := .tuple #[.bool true, goInt ps, .int .i32 (Utf8.decode st ps).1]) ?_ k.2 k.1 ⟨_, rfl, by simp [Rs, R, goInt]⟩
          have hset : (setObj cb (.stringIter st (ps + (Utf8.decode st ps).2))).run P w = .ok () (World.setObj w cb (.stringIter st (ps + (Utf8.decode st ps).2))) := by
            simp [Go.setObj, Sem.run, hheap, World.setObj]
          simp only [execOp, Instr.next, ex, Sem.run_bind, hget, Result.andThen_ok, if_pos hp, hset, Sem.run_pure]
        · rename_i hp
          cases h
          refine .pure hs (v' := .tuple #[.bool false]) ?_ ⟨_, rfl, by simp [Rs, R]⟩
          simp only [execOp, Instr.next, ex, Sem.run_bind, hget, Result.andThen_ok, if_neg hp, Sem.run_pure]
      · cases h
    · cases h
end
end Go.Am
