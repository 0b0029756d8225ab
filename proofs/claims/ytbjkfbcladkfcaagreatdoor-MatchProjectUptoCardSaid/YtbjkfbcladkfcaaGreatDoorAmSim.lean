/- How an abstract state stands for a world; the steps that keep it so. -/
import Derived.Test.YtbjkfbcladkfcaaGreatDoorAmBase
set_option linter.unusedSimpArgs false
set_option linter.unusedVariables false
namespace Go.Am
section
variable {HI : HeapI}

inductive EntR (ι : Emb) : List (AV × AV) → List MapEntry → Prop where
  | nil : EntR ι [] []
  | cons {k v : AV} {kv : Value} {e : MapEntry} {es : List (AV × AV)} {cs : List MapEntry} (hk : k.toV = some kv) (hk' : e.key = kv) (hv : R ι v e.val) (h : EntR ι es cs) : EntR ι ((k, v) :: es) (e :: cs)

theorem EntR.mono {ι κ : Emb} (h : ι.le κ) {es : List (AV × AV)} {cs : List MapEntry} (he : EntR ι es cs) : EntR κ es cs := by
  induction he with
  | nil => exact .nil
  | cons hk hk' hv _ ih => exact .cons hk hk' (hv.mono h) ih

def BlkR (ι : Emb) (w : World) (cb base : Nat) : Blk → Prop
  | .cells cs => ∃ arr e, w.heap[cb]? = some (.cells arr e (0, 0)) ∧ ι.size cb = some arr.size ∧ base + cs.length ≤ arr.size ∧
      ∀ (i : Nat) (x : AV), cs[i]? = some x → ∃ v, arr[base + i]? = some v ∧ R ι x v
  | .map es => base = 0 ∧ ∃ ces clock, w.heap[cb]? = some (.map ces clock) ∧ EntR ι es ces.toList
  | .iter s pos => base = 0 ∧ w.heap[cb]? = some (.stringIter s pos)

theorem BlkR.mono {ι κ : Emb} (h : ι.le κ) {w w' : World} {cb base : Nat} (hw : w'.heap[cb]? = w.heap[cb]?) {x : Blk} (hb : BlkR ι w cb base x) : BlkR κ w' cb base x := by
  cases x with
  | cells cs =>
    obtain ⟨arr, e, h1, h2, h3, h4⟩ := hb
    exact ⟨arr, e, hw.trans h1, h.size _ _ h2, h3, fun i x hx => let ⟨v, a, b⟩ := h4 i x hx; ⟨v, a, b.mono h⟩⟩
  | map es =>
    obtain ⟨h0, ces, clock, h1, h2⟩ := hb
    exact ⟨h0, ces, clock, hw.trans h1, h2.mono h⟩
  | iter s pos => exact ⟨hb.1, hw.trans hb.2⟩

theorem BlkR.lt {ι : Emb} {w : World} {cb base : Nat} {x : Blk} (hb : BlkR ι w cb base x) : cb < w.heap.size := by
  have : ∃ o, w.heap[cb]? = some o := by
    cases x with
    | cells cs => obtain ⟨arr, e, h1, _⟩ := hb; exact ⟨_, h1⟩
    | map es => obtain ⟨_, ces, clock, h1, _⟩ := hb; exact ⟨_, h1⟩
    | iter s pos => exact ⟨_, hb.2⟩
  obtain ⟨o, ho⟩ := this
  rcases Nat.lt_or_ge cb w.heap.size with h | h
  · exact h
  · simp [Array.getElem?_eq_none h] at ho

structure Sim (ι : Emb) (s : St HI) (w : World) : Prop where
  live : ∀ b x, s.get b = some x → ∃ cb base, ι.map b = some (cb, base) ∧ BlkR ι w cb base x ∧ ∀ o, ι.frz cb o = none
  inj : ∀ b b' x x' cb base base', s.get b = some x → s.get b' = some x' → ι.map b = some (cb, base) → ι.map b' = some (cb, base') → b = b'
  frz : ∀ cb o v, ι.frz cb o = some v → w.cell? ⟨cb, o, none⟩ = some v
  fresh : ∀ b, s.next ≤ b → ι.map b = none
  bmap : ∀ b cb base, ι.map b = some (cb, base) → cb < w.heap.size
  bsize : ∀ cb n, ι.size cb = some n → cb < w.heap.size

theorem Sim.bfrz {ι : Emb} {s : St HI} {w : World} (h : Sim ι s w) {cb o : Nat} {v : Value} (hf : ι.frz cb o = some v) : cb < w.heap.size := by
  have := h.frz _ _ _ hf
  rcases Nat.lt_or_ge cb w.heap.size with h | h
  · exact h
  · simp [World.cell?, Array.getElem?_eq_none h] at this

theorem Sim.notLive {ι : Emb} {s : St HI} {w : World} (h : Sim ι s w) {b : Nat} (hb : s.next ≤ b) : s.get b = none := by
  cases hg : s.get b with
  | none => rfl
  | some x =>
    obtain ⟨cb, base, hm, _⟩ := h.live b x hg
    rw [h.fresh b hb] at hm
    cases hm

/-- A concrete block is not the image of a live one. -/
def Off (ι : Emb) (s : St HI) (cb : Nat) : Prop := ∀ b x base, s.get b = some x → ι.map b ≠ some (cb, base)

structure Stp (ι : Emb) (s : St HI) (w : World) (κ : Emb) (s' : St HI) (w' : World) : Prop where
  le : ι.le κ
  grow : w.heap.size ≤ w'.heap.size
  kept : ∀ cb, cb < w.heap.size → Off ι s cb → w'.heap[cb]? = w.heap[cb]?
  own : ∀ cb, cb < w.heap.size → Off ι s cb → Off κ s' cb
  frzo : ∀ cb o v, κ.frz cb o = some v → cb < w.heap.size → Off ι s cb → ι.frz cb o = some v
  newid : ∀ b, b < s.next → κ.map b = ι.map b
  next : s.next ≤ s'.next
  os : w'.os = w.os
  output : w'.output = w.output
  tape : w'.tape = w.tape

theorem Stp.refl (ι : Emb) (s : St HI) (w : World) : Stp ι s w ι s w :=
  ⟨.refl _, Nat.le_refl _, fun _ _ _ => rfl, fun _ _ h => h, fun _ _ _ h _ _ => h, fun _ _ => rfl, Nat.le_refl _, rfl, rfl, rfl⟩

theorem Stp.trans {ι κ μ : Emb} {s s' s'' : St HI} {w w' w'' : World} (h : Stp ι s w κ s' w') (h' : Stp κ s' w' μ s'' w'') : Stp ι s w μ s'' w'' where
  le := h.le.trans h'.le
  grow := Nat.le_trans h.grow h'.grow
  kept cb hl ho := (h'.kept cb (Nat.lt_of_lt_of_le hl h.grow) (h.own cb hl ho)).trans (h.kept cb hl ho)
  own cb hl ho := h'.own cb (Nat.lt_of_lt_of_le hl h.grow) (h.own cb hl ho)
  frzo cb o v hv hl ho := h.frzo cb o v (h'.frzo cb o v hv (Nat.lt_of_lt_of_le hl h.grow) (h.own cb hl ho)) hl ho
  newid b hb := (h'.newid b (Nat.lt_of_lt_of_le hb h.next)).trans (h.newid b hb)
  next := Nat.le_trans h.next h'.next
  os := h'.os.trans h.os
  output := h'.output.trans h.output
  tape := h'.tape.trans h.tape

/-! ### the world draws -/
theorem sim_drawn {ι : Emb} {s : St HI} {w : World} (h : Sim ι s w) (n : Nat) : Sim ι s { w with drawn := n } where
  live b x hb := let ⟨cb, base, h1, h2, h3⟩ := h.live b x hb; ⟨cb, base, h1, h2.mono (.refl _) rfl, h3⟩
  inj := h.inj
  frz cb o v hv := h.frz cb o v hv
  fresh := h.fresh
  bmap := h.bmap
  bsize := h.bsize

theorem stp_drawn (ι : Emb) (s : St HI) (w : World) (n : Nat) : Stp ι s w ι s { w with drawn := n } :=
  ⟨.refl _, Nat.le_refl _, fun _ _ _ => rfl, fun _ _ h => h, fun _ _ _ h _ _ => h, fun _ _ => rfl, Nat.le_refl _, rfl, rfl, rfl⟩

/-! ### a new block -/
def Emb.new (ι : Emb) (b cb base sz : Nat) : Emb where
  map c := if c = b then some (cb, base) else ι.map c
  frz := ι.frz
  size c := if c = cb then some sz else ι.size c

theorem Emb.le_new {ι : Emb} {b cb base sz : Nat} (hb : ι.map b = none) (hs : ι.size cb = none ∨ ι.size cb = some sz) : ι.le (ι.new b cb base sz) where
  map c x h := by
    simp only [Emb.new]
    by_cases e : c = b
    · subst e; rw [hb] at h; cases h
    · simp [e, h]
  frz _ _ _ h := h
  size c n h := by
    simp only [Emb.new]
    by_cases e : c = cb
    · subst e
      rcases hs with hs | hs
      · rw [hs] at h; cases h
      · rw [hs] at h; simp [h]
    · simp [e, h]

def World.push (w : World) (o : Obj) : World := { w with heap := w.heap.push o }

theorem push_old {w : World} {o : Obj} {cb : Nat} (h : cb < w.heap.size) : (World.push w o).heap[cb]? = w.heap[cb]? := by
  simp [World.push, Array.getElem?_push, Nat.ne_of_lt h]
theorem push_new {w : World} {o : Obj} : (World.push w o).heap[w.heap.size]? = some o := by simp [World.push]

theorem cell_push {w : World} {o : Obj} {cb i : Nat} (h : cb < w.heap.size) : (World.push w o).cell? ⟨cb, i, none⟩ = w.cell? ⟨cb, i, none⟩ := by
  simp only [World.cell?, push_old h]

theorem stp_push (ι : Emb) (s : St HI) (w : World) (o : Obj) : Stp ι s w ι s (World.push w o) :=
  ⟨.refl _, by simp [World.push], fun _ h _ => push_old h, fun _ _ h => h, fun _ _ _ h _ _ => h, fun _ _ => rfl, Nat.le_refl _, rfl, rfl, rfl⟩

/-- Garbage may lie about. -/
theorem sim_push {ι : Emb} {s : St HI} {w : World} (h : Sim ι s w) (o : Obj) : Sim ι s (World.push w o) where
  live b x hb := let ⟨cb, base, h1, h2, h3⟩ := h.live b x hb; ⟨cb, base, h1, h2.mono (.refl _) (push_old h2.lt), h3⟩
  inj := h.inj
  frz cb o v hv := by rw [cell_push (h.bfrz hv)]; exact h.frz cb o v hv
  fresh := h.fresh
  bmap b cb base hm := Nat.lt_of_lt_of_le (h.bmap b cb base hm) (by simp [World.push])
  bsize cb n hn := Nat.lt_of_lt_of_le (h.bsize cb n hn) (by simp [World.push])

/-- An abstract number is bound to a concrete block that no live one has. -/
theorem sim_bind {ι : Emb} {s : St HI} {w : World} (h : Sim ι s w) {b cb base sz : Nat} (hb : ι.map b = none) (hlt : b < s.next) (hcb : cb < w.heap.size)
    (hs : ι.size cb = none ∨ ι.size cb = some sz) : Sim (ι.new b cb base sz) s w where
  live c x hc := by
    obtain ⟨cb', base', h1, h2, h3⟩ := h.live c x hc
    exact ⟨cb', base', (Emb.le_new hb hs).map _ _ h1, h2.mono (Emb.le_new hb hs) rfl, h3⟩
  inj c c' x x' cb' b1 b2 hc hc' hm hm' := by
    have e1 : c ≠ b := fun e => by obtain ⟨_, _, h1, _⟩ := h.live c x hc; rw [e, hb] at h1; cases h1
    have e2 : c' ≠ b := fun e => by obtain ⟨_, _, h1, _⟩ := h.live c' x' hc'; rw [e, hb] at h1; cases h1
    simp only [Emb.new, e1, e2, if_false] at hm hm'
    exact h.inj c c' x x' cb' b1 b2 hc hc' hm hm'
  frz := h.frz
  fresh c hc := by
    simp only [Emb.new]
    rw [if_neg (by omega)]
    exact h.fresh c hc
  bmap c cb' base' hm := by
    simp only [Emb.new] at hm
    split at hm
    · cases hm; exact hcb
    · exact h.bmap c cb' base' hm
  bsize cb' n hn := by
    simp only [Emb.new] at hn
    split at hn
    · rename_i e; exact e ▸ hcb
    · exact h.bsize cb' n hn

/-- A bound number comes to life. -/
theorem sim_live {ι : Emb} {s : St HI} {w : World} (h : Sim ι s w) {b cb base : Nat} {x : Blk} (hb : ι.map b = some (cb, base)) (ho : Off ι s cb ∨ ∃ y base', s.get b = some y ∧ ι.map b = some (cb, base'))
    (hx : BlkR ι w cb base x) (hf : ∀ o, ι.frz cb o = none) : Sim ι (s.put b (some x)) w where
  live c y hc := by
    rw [St.get_put] at hc
    split at hc
    · rename_i e; cases hc; subst e; exact ⟨cb, base, hb, hx, hf⟩
    · exact h.live c y hc
  inj c c' y y' cb' b1 b2 hc hc' hm hm' := by
    rw [St.get_put] at hc hc'
    have key : ∀ d z b3, s.get d = some z → ι.map d = some (cb, b3) → d = b := fun d z b3 hd hm3 => by
      rcases ho with ho | ⟨y0, b0, hy0, hm0⟩
      · exact absurd hm3 (ho d z b3 hd)
      · exact h.inj d b z y0 cb b3 b0 hd hy0 hm3 hm0
    by_cases e1 : c = b
    · by_cases e2 : c' = b
      · rw [e1, e2]
      · rw [if_neg e2] at hc'
        rw [e1, hb] at hm
        cases hm
        exact absurd (key c' y' b2 hc' hm') e2
    · rw [if_neg e1] at hc
      by_cases e2 : c' = b
      · rw [e2, hb] at hm'
        cases hm'
        exact absurd (key c y b1 hc hm) e1
      · rw [if_neg e2] at hc'
        exact h.inj c c' y y' cb' b1 b2 hc hc' hm hm'
  frz := h.frz
  fresh := h.fresh
  bmap := h.bmap
  bsize := h.bsize

/-- A block dies. -/
theorem sim_kill {ι : Emb} {s : St HI} {w : World} (h : Sim ι s w) (b : Nat) : Sim ι (s.put b none) w where
  live c y hc := by
    rw [St.get_put] at hc
    split at hc
    · cases hc
    · exact h.live c y hc
  inj c c' y y' cb b1 b2 hc hc' hm hm' := by
    rw [St.get_put] at hc hc'
    split at hc
    · cases hc
    · split at hc'
      · cases hc'
      · exact h.inj c c' y y' cb b1 b2 hc hc' hm hm'
  frz := h.frz
  fresh := h.fresh
  bmap := h.bmap
  bsize := h.bsize

theorem stp_kill (ι : Emb) (s : St HI) (w : World) (b : Nat) : Stp ι s w ι (s.put b none) w where
  le := .refl _
  grow := Nat.le_refl _
  kept _ _ _ := rfl
  own cb _ ho c x base hc := by
    rw [St.get_put] at hc
    split at hc
    · cases hc
    · exact ho c x base hc
  frzo _ _ _ h _ _ := h
  newid _ _ := rfl
  next := Nat.le_refl _
  os := rfl
  output := rfl
  tape := rfl

/-- A new block in the world, a new number for it. -/
theorem sim_new {ι : Emb} {s : St HI} {w : World} (h : Sim ι s w) {o : Obj} {x : Blk} {sz : Nat}
    (hx : BlkR (ι.new s.next w.heap.size 0 sz) (World.push w o) w.heap.size 0 x) :
    Sim (ι.new s.next w.heap.size 0 sz) (s.new x) (World.push w o) ∧ Stp ι s w (ι.new s.next w.heap.size 0 sz) (s.new x) (World.push w o) := by
  have hnone : ι.map s.next = none := h.fresh _ (Nat.le_refl _)
  have hsz : ι.size w.heap.size = none := by
    cases e : ι.size w.heap.size with
    | none => rfl
    | some n => exact absurd (h.bsize _ _ e) (Nat.lt_irrefl _)
  have hfr : ∀ o, ι.frz w.heap.size o = none := fun o => by
    cases e : ι.frz w.heap.size o with
    | none => rfl
    | some v => exact absurd (h.bfrz e) (Nat.lt_irrefl _)
  have hle : ι.le (ι.new s.next w.heap.size 0 sz) := Emb.le_new hnone (.inl hsz)
  refine ⟨⟨?_, ?_, ?_, ?_, ?_, ?_⟩, ⟨hle, by simp [World.push], fun cb hl _ => push_old hl, ?_, fun _ _ _ h _ _ => h, ?_, by simp, rfl, rfl, rfl⟩⟩
  · intro c y hc
    rw [St.get_new] at hc
    split at hc
    · rename_i e; cases hc; subst e
      exact ⟨w.heap.size, 0, by simp [Emb.new], hx, hfr⟩
    · obtain ⟨cb, base, h1, h2, h3⟩ := h.live c y hc
      exact ⟨cb, base, hle.map _ _ h1, h2.mono hle (push_old h2.lt), h3⟩
  · intro c c' y y' cb b1 b2 hc hc' hm hm'
    rw [St.get_new] at hc hc'
    have key : ∀ d z b3, s.get d = some z → (ι.new s.next w.heap.size 0 sz).map d = some (w.heap.size, b3) → d = s.next := fun d z b3 _ hm3 => by
      simp only [Emb.new] at hm3
      split at hm3
      · assumption
      · exact absurd (h.bmap _ _ _ hm3) (Nat.lt_irrefl _)
    by_cases e1 : c = s.next
    · by_cases e2 : c' = s.next
      · rw [e1, e2]
      · rw [if_neg e2] at hc'
        simp only [Emb.new, e1, if_true] at hm
        cases hm
        exact absurd (key c' y' b2 hc' hm') e2
    · rw [if_neg e1] at hc
      by_cases e2 : c' = s.next
      · simp only [Emb.new, e2, if_true] at hm'
        cases hm'
        exact absurd (key c y b1 hc hm) e1
      · rw [if_neg e2] at hc'
        simp only [Emb.new, e1, e2, if_false] at hm hm'
        exact h.inj c c' y y' cb b1 b2 hc hc' hm hm'
  · intro cb o v hv
    rw [cell_push (h.bfrz hv)]
    exact h.frz cb o v hv
  · intro c hc
    simp only [St.next_new] at hc
    simp only [Emb.new]
    rw [if_neg (by omega)]
    exact h.fresh c (by omega)
  · intro c cb base hm
    simp only [Emb.new] at hm
    have : (World.push w o).heap.size = w.heap.size + 1 := by simp [World.push]
    split at hm
    · cases hm; omega
    · have := h.bmap c cb base hm; omega
  · intro cb n hn
    have : (World.push w o).heap.size = w.heap.size + 1 := by simp [World.push]
    simp only [Emb.new] at hn
    split at hn
    · omega
    · have := h.bsize cb n hn; omega
  · intro cb hl ho c y base hc hm
    rw [St.get_new] at hc
    simp only [Emb.new] at hm
    split at hm
    · cases hm; omega
    · rename_i e
      rw [if_neg e] at hc
      exact ho c y base hc hm
  · intro c hc
    simp only [Emb.new]
    rw [if_neg (by omega)]

/-! ### a block's content changes -/
def World.setObj (w : World) (cb : Nat) (o : Obj) : World := { w with heap := w.heap.setIfInBounds cb o }
theorem setObj_same {w : World} {cb : Nat} {o : Obj} (h : cb < w.heap.size) : (World.setObj w cb o).heap[cb]? = some o := by simp [World.setObj, h]
theorem setObj_other {w : World} {cb c : Nat} {o : Obj} (h : c ≠ cb) : (World.setObj w cb o).heap[c]? = w.heap[c]? := by simp [World.setObj, Array.getElem?_setIfInBounds_ne (Ne.symm h)]
theorem setObj_size {w : World} {cb : Nat} {o : Obj} : (World.setObj w cb o).heap.size = w.heap.size := by simp [World.setObj]

/-- The content of a live block changes, under the same number. -/
theorem sim_set {ι : Emb} {s : St HI} {w : World} (h : Sim ι s w) {b cb base : Nat} {y x : Blk} {o : Obj} (hb : s.get b = some y) (hm : ι.map b = some (cb, base))
    (hx : BlkR ι (World.setObj w cb o) cb base x) : Sim ι (s.put b (some x)) (World.setObj w cb o) ∧ Stp ι s w ι (s.put b (some x)) (World.setObj w cb o) := by
  have hcb : cb < w.heap.size := h.bmap _ _ _ hm
  obtain ⟨cb0, base0, hm0, _, hf⟩ := h.live b y hb
  rw [hm] at hm0; cases hm0
  refine ⟨⟨?_, ?_, ?_, h.fresh, fun c cb' base' hc => by rw [setObj_size]; exact h.bmap c cb' base' hc, fun cb' n hn => by rw [setObj_size]; exact h.bsize cb' n hn⟩,
    ⟨.refl _, by rw [setObj_size]; exact Nat.le_refl _, ?_, ?_, fun _ _ _ h _ _ => h, fun _ _ => rfl, Nat.le_refl _, rfl, rfl, rfl⟩⟩
  · intro c z hc
    rw [St.get_put] at hc
    split at hc
    · rename_i e; cases hc; subst e; exact ⟨cb, base, hm, hx, hf⟩
    · rename_i e
      obtain ⟨cb1, base1, h1, h2, h3⟩ := h.live c z hc
      refine ⟨cb1, base1, h1, h2.mono (.refl _) (setObj_other fun e' => ?_), h3⟩
      subst e'
      exact e (h.inj c b z y cb1 base1 base hc hb h1 hm)
  · intro c c' z z' cb1 b1 b2 hc hc' h1 h2
    have back : ∀ d u, (s.put b (some x)).get d = some u → ∃ u', s.get d = some u' := fun d u hd => by
      rw [St.get_put] at hd
      split at hd
      · rename_i e; exact ⟨y, e ▸ hb⟩
      · exact ⟨u, hd⟩
    obtain ⟨u, hu⟩ := back c z hc
    obtain ⟨u', hu'⟩ := back c' z' hc'
    exact h.inj c c' u u' cb1 b1 b2 hu hu' h1 h2
  · intro c i v hv
    have hne : c ≠ cb := fun e => by rw [e, hf] at hv; cases hv
    have := h.frz c i v hv
    simpa only [World.cell?, setObj_other hne] using this
  · intro c _ ho
    refine setObj_other fun e => ?_
    subst e
    exact ho b y base hb hm
  · intro c _ ho d z base1 hd
    rw [St.get_put] at hd
    split at hd
    · rename_i e; subst e; exact ho d y base1 hb
    · exact ho d z base1 hd

/-- The block of a number that dies goes on under a new number, its content changed (an append in place). -/
theorem sim_move {ι : Emb} {s : St HI} {w : World} (h : Sim ι s w) {b cb base base' sz : Nat} {y x : Blk} {o : Obj} (hb : s.get b = some y) (hm : ι.map b = some (cb, base))
    (hs : ι.size cb = some sz) (hx : BlkR (ι.new s.next cb base' sz) (World.setObj w cb o) cb base' x) :
    Sim (ι.new s.next cb base' sz) ((s.put b none).new x) (World.setObj w cb o) ∧ Stp ι s w (ι.new s.next cb base' sz) ((s.put b none).new x) (World.setObj w cb o) := by
  have hcb : cb < w.heap.size := h.bmap _ _ _ hm
  obtain ⟨cb0, base0, hm0, _, hf⟩ := h.live b y hb
  rw [hm] at hm0; cases hm0
  have hnone : ι.map s.next = none := h.fresh _ (Nat.le_refl _)
  have hle : ι.le (ι.new s.next cb base' sz) := Emb.le_new hnone (.inr hs)
  have hbn : b ≠ s.next := fun e => by rw [e, hnone] at hm; cases hm
  have old : ∀ c z, c ≠ s.next → ((s.put b none).new x).get c = some z → c ≠ b ∧ s.get c = some z := fun c z e hc => by
    rw [St.get_new, St.next_put, if_neg e, St.get_put] at hc
    split at hc
    · cases hc
    · exact ⟨by assumption, hc⟩
  refine ⟨⟨?_, ?_, ?_, ?_, ?_, ?_⟩, ⟨hle, by rw [setObj_size]; exact Nat.le_refl _, ?_, ?_, fun _ _ _ h _ _ => h, ?_, by simp, rfl, rfl, rfl⟩⟩
  · intro c z hc
    by_cases e : c = s.next
    · subst e
      rw [St.get_new, St.next_put, if_pos rfl] at hc
      cases hc
      exact ⟨cb, base', by simp [Emb.new], hx, hf⟩
    · obtain ⟨e2, hc'⟩ := old c z e hc
      obtain ⟨cb1, base1, h1, h2, h3⟩ := h.live c z hc'
      refine ⟨cb1, base1, hle.map _ _ h1, h2.mono hle (setObj_other fun e' => ?_), h3⟩
      subst e'
      exact e2 (h.inj c b z y cb1 base1 base hc' hb h1 hm)
  · intro c c' z z' cb1 b1 b2 hc hc' h1 h2
    have key : ∀ d u b3, d ≠ s.next → ((s.put b none).new x).get d = some u → (ι.new s.next cb base' sz).map d = some (cb, b3) → False := fun d u b3 e hd hm3 => by
      obtain ⟨e2, hd'⟩ := old d u e hd
      simp only [Emb.new, e, if_false] at hm3
      exact e2 (h.inj d b u y cb b3 base hd' hb hm3 hm)
    by_cases e1 : c = s.next
    · by_cases e2 : c' = s.next
      · rw [e1, e2]
      · simp only [Emb.new, e1, if_true] at h1
        cases h1
        exact (key c' z' b2 e2 hc' h2).elim
    · by_cases e2 : c' = s.next
      · simp only [Emb.new, e2, if_true] at h2
        cases h2
        exact (key c z b1 e1 hc h1).elim
      · obtain ⟨_, hd⟩ := old c z e1 hc
        obtain ⟨_, hd'⟩ := old c' z' e2 hc'
        simp only [Emb.new, e1, e2, if_false] at h1 h2
        exact h.inj c c' z z' cb1 b1 b2 hd hd' h1 h2
  · intro c i v hv
    have hne : c ≠ cb := fun e => by rw [e] at hv; exact absurd hv (by rw [show (ι.new s.next cb base' sz).frz cb i = none from hf i]; simp)
    have := h.frz c i v hv
    simpa only [World.cell?, setObj_other hne] using this
  · intro c hc
    simp only [St.next_new, St.next_put] at hc
    simp only [Emb.new]
    rw [if_neg (by omega)]
    exact h.fresh c (by omega)
  · intro c cb1 b1 hm1
    rw [setObj_size]
    simp only [Emb.new] at hm1
    split at hm1
    · cases hm1; exact hcb
    · exact h.bmap c cb1 b1 hm1
  · intro cb1 n hn
    rw [setObj_size]
    simp only [Emb.new] at hn
    split at hn
    · rename_i e; exact e ▸ hcb
    · exact h.bsize cb1 n hn
  · intro c _ ho
    refine setObj_other fun e => ?_
    subst e
    exact ho b y base hb hm
  · intro c _ ho d z b1 hd hm1
    by_cases e : d = s.next
    · simp only [Emb.new, e, if_true] at hm1
      cases hm1
      exact ho b y base hb hm
    · obtain ⟨_, hd'⟩ := old d z e hd
      simp only [Emb.new, e, if_false] at hm1
      exact ho d z b1 hd' hm1
  · intro c hc
    simp only [Emb.new]
    rw [if_neg (by omega)]

/-! ### a block is frozen -/
def Emb.freeze (ι : Emb) (cb : Nat) (arr : Array Value) : Emb where
  map := ι.map
  frz c o := if c = cb then arr[o]? else ι.frz c o
  size := ι.size

theorem sim_freeze {ι : Emb} {s : St HI} {w : World} (h : Sim ι s w) {b cb base : Nat} {cs : List AV} {arr : Array Value} {e : TypeId} (hb : s.get b = some (.cells cs)) (hm : ι.map b = some (cb, base))
    (ha : w.heap[cb]? = some (.cells arr e (0, 0))) : ι.le (ι.freeze cb arr) ∧ Sim (ι.freeze cb arr) (s.put b none) w ∧ Stp ι s w (ι.freeze cb arr) (s.put b none) w := by
  obtain ⟨cb0, base0, hm0, _, hf⟩ := h.live b _ hb
  rw [hm] at hm0; cases hm0
  have hle : ι.le (ι.freeze cb arr) := ⟨fun _ _ h => h, fun c o v hv => by
    simp only [Emb.freeze]
    split
    · rename_i e; subst e; rw [hf] at hv; cases hv
    · exact hv, fun _ _ h => h⟩
  refine ⟨hle, ⟨?_, ?_, ?_, h.fresh, h.bmap, h.bsize⟩, ⟨hle, Nat.le_refl _, fun _ _ _ => rfl, ?_, ?_, fun _ _ => rfl, Nat.le_refl _, rfl, rfl, rfl⟩⟩
  · intro c z hc
    rw [St.get_put] at hc
    split at hc
    · cases hc
    · rename_i e
      obtain ⟨cb1, base1, h1, h2, h3⟩ := h.live c z hc
      refine ⟨cb1, base1, h1, h2.mono hle rfl, fun o => ?_⟩
      simp only [Emb.freeze]
      rw [if_neg]
      · exact h3 o
      · intro e'; subst e'
        exact e (h.inj c b z _ cb1 base1 base hc hb h1 hm)
  · intro c c' y y' cb1 b1 b2 hc hc' hm1 hm2
    rw [St.get_put] at hc hc'
    split at hc
    · cases hc
    · split at hc'
      · cases hc'
      · exact h.inj c c' y y' cb1 b1 b2 hc hc' hm1 hm2
  · intro c o v hv
    simp only [Emb.freeze] at hv
    split at hv
    · rename_i e; subst e; simp [World.cell?, ha, hv]
    · exact h.frz c o v hv
  · intro c _ ho d z b1 hd
    rw [St.get_put] at hd
    split at hd
    · cases hd
    · exact ho d z b1 hd
  · intro c o v hv _ ho
    simp only [Emb.freeze] at hv
    split at hv
    · rename_i e; subst e; exact absurd hm (ho b _ base hb)
    · exact hv
end
end Go.Am
