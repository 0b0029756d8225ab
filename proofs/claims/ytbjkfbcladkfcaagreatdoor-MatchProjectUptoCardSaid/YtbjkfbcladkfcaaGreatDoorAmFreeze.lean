/- Arguments that lie in memory: all old memory is taken as frozen; slices of bytes, and of rows of numbers with bytes, by value. -/
import Derived.Test.YtbjkfbcladkfcaaGreatDoorAmLists
import Derived.ChangeShapes
import Derived.ChangeArms
set_option linter.unusedSimpArgs false
set_option linter.unusedVariables false
namespace Go.Am
open Go.ChangeShapes

def frzEmb (w : World) : Emb := { map := fun _ => none, frz := fun cb o => w.cell? ⟨cb, o, none⟩, size := fun _ => none }

theorem sim_frz {w : World} : Sim (HI := heapPT) (frzEmb w) { h := PT.leaf, next := 0 } w := by
  refine ⟨fun b x h => ?_, fun b b' x x' cb base base' h => ?_, fun cb o v h => h, fun b _ => rfl, fun b cb base h => by simp [frzEmb] at h, fun cb n h => by simp [frzEmb] at h⟩
  · have : PT.get PT.leaf (bits b) = some x := h
    rw [PT.get_leaf] at this; cases this
  · have : PT.get PT.leaf (bits b) = some x := h
    rw [PT.get_leaf] at this; cases this

theorem off_frz {w : World} (cb : Nat) : Off (HI := heapPT) (frzEmb w) { h := PT.leaf, next := 0 } cb := fun b x base hb => by
  have : PT.get PT.leaf (bits b) = some x := hb
  rw [PT.get_leaf] at this; cases this

theorem exists_list {α : Type} {p : Nat → α → Prop} : ∀ (n : Nat), (∀ i, i < n → ∃ x, p i x) → ∃ l : List α, l.length = n ∧ ∀ i x, l[i]? = some x → p i x
  | 0, _ => ⟨[], rfl, fun i x h => by simp at h⟩
  | n + 1, h => by
    obtain ⟨l, h1, h2⟩ := exists_list n (fun i hi => h i (by omega))
    obtain ⟨x, hx⟩ := h n (by omega)
    refine ⟨l ++ [x], by simp [h1], fun i y hy => ?_⟩
    by_cases e : i < l.length
    · rw [List.getElem?_append_left e] at hy
      exact h2 i y hy
    · rw [List.getElem?_append_right (by omega)] at hy
      have hi : i = n := by
        rcases Nat.lt_or_ge (i - l.length) 1 with h3 | h3
        · omega
        · rw [List.getElem?_eq_none (by simpa using h3)] at hy; cases hy
      subst hi
      rw [h1] at hy
      simp at hy
      subst hy
      exact hx

section
variable {H : Type} {enc : TypeId × Value → H} {P : Program} {w : World} {base fuel n : Nat} {held : Bool} {v : Value} {x : DataW H × List MemPlace} {t e : TypeId}

theorem cell_spot {a : Addr} {v : Value} (h : w.cell? a = some v) : a.spot = none := by
  unfold World.cell? at h
  split at h
  · split at h
    · cases h
    · rename_i hs
      cases ha : a.spot with
      | none => rfl
      | some _ => rw [ha] at hs; simp at hs
  · cases h

theorem add_plain {a : Addr} (ha : a.spot = none) (k : Nat) : a.add k = ⟨a.block, a.off + k, none⟩ := by
  cases a with
  | mk b o s =>
    simp only at ha
    subst ha
    unfold Addr.add
    split
    · rename_i h; subst h; rfl
    · rfl

theorem cellsN {b : Addr} {l : List Value} (h : w.cells? base b n = some l) : l.length = n ∧ ∀ j, j < n → w.cell? (b.add j) = l[j]? := by
  unfold World.cells? at h
  split at h
  · refine ⟨by simpa using mapM_some_length h, fun j hj => ?_⟩
    exact mapM_some_get h j j (by simp [hj])
  · cases h

/-- The cells of a slice's place i. -/
theorem place {a : Addr} {es i : Nat} {y : Option (DataW H × List MemPlace)} {f : List Value → Option (DataW H × List MemPlace)} (h : (w.cells? base (a.add (i * es)) es).bind f = y) (hy : y.isSome = true) (hes : 0 < es) :
    ∃ l z, l.length = es ∧ f l = some z ∧ (i = 0 → a.spot = none) ∧ (a.spot = none → ∀ j, j < es → w.cell? ⟨a.block, a.off + (i * es + j), none⟩ = l[j]?) := by
  cases hc : w.cells? base (a.add (i * es)) es with
  | none => rw [hc] at h; simp at h; subst h; cases hy
  | some l =>
    rw [hc] at h
    simp only [Option.bind_some] at h
    obtain ⟨h1, h2⟩ := cellsN hc
    obtain ⟨z, hz⟩ := Option.isSome_iff_exists.1 (h ▸ hy)
    refine ⟨l, z, h1, hz, fun hi => ?_, fun hs j hj => ?_⟩
    · subst hi
      have h3 := h2 0 hes
      have h4 : ∃ c, l[0]? = some c := ⟨l[0]'(by omega), by simp [h1, hes]⟩
      obtain ⟨c, hc4⟩ := h4
      rw [hc4] at h3
      have h5 := cell_spot h3
      simpa [Addr.add] using h5
    · have h3 := h2 j hj
      rw [add_plain hs (i * es)] at h3
      rw [add_plain rfl] at h3
      simpa [Nat.add_assoc] using h3

theorem u8_of {z : Int} (h : (Lit.int .u8 z).wf = true) : ((UInt8.ofNat z.toNat).toNat : Int) = z := by
  simp only [Lit.wf, Bool.and_eq_true, decide_eq_true_eq] at h
  have h1 : (0 : Int) ≤ z := by have := h.1; rw [show IntKind.u8.min = 0 by decide] at this; exact this
  have h2 : z ≤ 255 := by have := h.2; rw [show IntKind.u8.max = 255 by decide] at this; exact this
  have h3 : z.toNat < 256 := by omega
  simp only [UInt8.toNat_ofNat']
  omega

/-- A slice of bytes is taken out of memory. -/
theorem freeze_bytes (ht : P.underlying t = some (.slice e)) (he : P.underlying e = some (.int .u8)) (hc : P.cellsOf e = 1) (h : DataW.trod enc P w base (fun _ => true) held fuel t [v] = some x) : ∃ B bs, IsBytes B bs ∧ R (frzEmb w) B v := by
  rcases DataW.trod_slice ht h with ⟨hv, _⟩ | ⟨a, len, cap, elems, rest, n, _, hv, _, _, hlc, hmx, hel, hread, hrest, _⟩
  · simp only [List.cons.injEq, and_true] at hv
    subst hv
    exact ⟨.nsl, [], ⟨by simp, .inl ⟨rfl, rfl⟩⟩, rfl⟩
  · simp only [List.cons.injEq, and_true] at hv
    subst hv
    rw [hc] at hread hrest
    obtain ⟨hr1, hr2⟩ := hrest rfl
    have hspot : a.spot = none ∨ cap = 0 := by
      rcases Nat.eq_zero_or_pos len with h0 | h0
      · rcases Nat.eq_zero_or_pos cap with h1 | h1
        · exact .inr h1
        · have h2 := hr2 0 (by omega)
          rw [h0] at h2
          obtain ⟨_, _, _, _, h4, _⟩ := place (i := 0) h2 (by simp; omega) (by decide)
          exact .inl (h4 rfl)
      · obtain ⟨_, _, _, _, h4, _⟩ := place (hread 0 h0) (by simp [hel, h0]) (by decide)
        exact .inl (h4 rfl)
    have hcell : ∀ i, i < len → ∃ b : UInt8, w.cell? ⟨a.block, a.off + i, none⟩ = some (.int .u8 (b.toNat : Int)) := by
      intro i hi
      have hs : a.spot = none := hspot.resolve_right (by omega)
      obtain ⟨l, z, h1, h2, _, h4⟩ := place (hread i hi) (by simp [hel, hi]) (by decide)
      obtain ⟨m, h5, _, h6⟩ := DataW.trod_int he h2
      have h7 := h4 hs 0 (by decide)
      rw [h5] at h7
      refine ⟨UInt8.ofNat m.toNat, ?_⟩
      rw [u8_of h6]
      simpa using h7
    obtain ⟨bs, hb1, hb2⟩ := exists_list len hcell
    refine ⟨.fsl (bs.map fun b => .int .u8 (b.toNat : Int)) 0 1 bs.length len false, bs, ⟨by unfold Go.maxLen at hmx; omega, .inr ⟨_, _, _, _, rfl, fun i b hb => by simp [hb]⟩⟩, ?_⟩
    refine ⟨a.block, a.off, a.off, cap, bs.map (fun b => .int .u8 (b.toNat : Int)), a.spot, by rw [hb1], hspot, ⟨hlc, by simp⟩, .inr rfl, by omega, fun i u hu => ?_, Rs.iff.2 ⟨by simp, fun i y hy => ?_⟩⟩
    · simp only [List.getElem?_map, Option.map_eq_some_iff] at hu
      obtain ⟨b, h1, rfl⟩ := hu
      exact hb2 i b h1
    · simp only [List.getElem?_map, Option.map_eq_some_iff] at hy ⊢
      obtain ⟨b, h1, rfl⟩ := hy
      exact ⟨_, ⟨b, h1, rfl⟩, rfl⟩

/-- One of a list of rows: three numbers, and bytes. -/
structure Row4 where
  k : Int
  p : Int
  s : Int
  B : AV
  bs : List UInt8

def Row4.pick (y : Row4) (r : Nat) : AV := if r = 0 then .int .i64 y.k else if r = 1 then .int .i64 y.p else if r = 2 then .int .i64 y.s else y.B

/-- A slice of such rows, carried by value. -/
def IsRows (A : AV) (L : List Row4) : Prop :=
  (L.length < 2 ^ 63 ∧ ∀ x ∈ L, IsBytes x.B x.bs) ∧ ((A = .nsl ∧ L = []) ∨ ∃ cs o cap ex, A = .fsl cs o 4 L.length cap ex ∧ ∀ i x, L[i]? = some x → ∀ r, r < 4 → cs[o + (i * 4 + r)]? = some (x.pick r))

theorem list4' {α : Type} {l : List α} (h : l.length = 4) : ∃ a b c d, l = [a, b, c, d] := by
  match l, h with
  | [a, b, c, d], _ => exact ⟨a, b, c, d, rfl⟩

theorem freeze_rows {tb eb i64 : TypeId} {f0 f1 f2 f3 : Field} (ht : P.underlying t = some (.slice e)) (he : P.underlying e = some (.struct #[f0, f1, f2, f3])) (hc : P.cellsOf e = 4)
    (hf : f0.type = i64 ∧ f0.offset = 0 ∧ f1.type = i64 ∧ f1.offset = 1 ∧ f2.type = i64 ∧ f2.offset = 2 ∧ f3.type = tb ∧ f3.offset = 3) (hi : P.underlying i64 = some (.int .i64)) (hci : P.cellsOf i64 = 1)
    (hb : P.underlying tb = some (.slice eb)) (hcb : P.cellsOf tb = 1) (heb : P.underlying eb = some (.int .u8)) (hceb : P.cellsOf eb = 1)
    (h : DataW.trod enc P w base (fun _ => true) held fuel t [v] = some x) : ∃ A L, IsRows A L ∧ R (frzEmb w) A v := by
  obtain ⟨g0, o0, g1, o1, g2, o2, g3, o3⟩ := hf
  rcases DataW.trod_slice ht h with ⟨hv, _⟩ | ⟨a, len, cap, elems, rest, n, _, hv, _, _, hlc, hmx, hel, hread, hrest, _⟩
  · simp only [List.cons.injEq, and_true] at hv
    subst hv
    exact ⟨.nsl, [], ⟨⟨by simp, by simp⟩, .inl ⟨rfl, rfl⟩⟩, rfl⟩
  · simp only [List.cons.injEq, and_true] at hv
    subst hv
    rw [hc] at hread hrest
    obtain ⟨hr1, hr2⟩ := hrest rfl
    have hspot : a.spot = none ∨ cap = 0 := by
      rcases Nat.eq_zero_or_pos len with h0 | h0
      · rcases Nat.eq_zero_or_pos cap with h1 | h1
        · exact .inr h1
        · have h2 := hr2 0 (by omega)
          rw [h0] at h2
          obtain ⟨_, _, _, _, h4, _⟩ := place (i := 0) h2 (by simp; omega) (by decide)
          exact .inl (h4 rfl)
      · obtain ⟨_, _, _, _, h4, _⟩ := place (hread 0 h0) (by simp [hel, h0]) (by decide)
        exact .inl (h4 rfl)
    have hcell : ∀ i, i < len → ∃ y : Row4, IsBytes y.B y.bs ∧ ∀ r, r < 4 → ∃ u, w.cell? ⟨a.block, a.off + (i * 4 + r), none⟩ = some u ∧ R (frzEmb w) (y.pick r) u := by
      intro i hilt
      have hs : a.spot = none := hspot.resolve_right (by omega)
      obtain ⟨l, z, h1, h2, _, h4⟩ := place (hread i hilt) (by simp [hel, hilt]) (by decide)
      obtain ⟨c0, c1, c2, c3, rfl⟩ := list4' h1
      obtain ⟨xs, m, _, _, _, hlen, hff⟩ := DataW.trod_struct he h2
      have hlen' : xs.length = 4 := by simpa using hlen
      have hx : ∀ i, i < 4 → ∃ y, xs[i]? = some y := fun i hi => ⟨xs[i]'(by omega), by simp [hlen', hi]⟩
      obtain ⟨y0, k0⟩ := hx 0 (by decide)
      obtain ⟨y1, k1⟩ := hx 1 (by decide)
      obtain ⟨y2, k2⟩ := hx 2 (by decide)
      obtain ⟨y3, k3⟩ := hx 3 (by decide)
      have q0 := hff 0 f0 rfl
      have q1 := hff 1 f1 rfl
      have q2 := hff 2 f2 rfl
      have q3 := hff 3 f3 rfl
      rw [k0, g0, o0, hci] at q0
      rw [k1, g1, o1, hci] at q1
      rw [k2, g2, o2, hci] at q2
      rw [k3, g3, o3, hcb] at q3
      obtain ⟨z0, e0, _⟩ := DataW.trod_int hi q0
      obtain ⟨z1, e1, _⟩ := DataW.trod_int hi q1
      obtain ⟨z2, e2, _⟩ := DataW.trod_int hi q2
      obtain ⟨B, bs, hB, hR⟩ := freeze_bytes hb heb hceb q3
      simp at e0 e1 e2
      subst e0; subst e1; subst e2
      refine ⟨⟨z0, z1, z2, B, bs⟩, hB, fun r hr => ?_⟩
      have h5 := h4 hs r hr
      match r, hr with
      | 0, _ => exact ⟨_, by simpa using h5, rfl⟩
      | 1, _ => exact ⟨_, by simpa using h5, rfl⟩
      | 2, _ => exact ⟨_, by simpa using h5, rfl⟩
      | 3, _ => exact ⟨_, by simpa using h5, hR⟩
    obtain ⟨L, hL1, hL2⟩ := exists_list len hcell
    have hq : ∀ m, m < len * 4 → ∃ x : AV, ∃ u, w.cell? ⟨a.block, a.off + m, none⟩ = some u ∧ R (frzEmb w) x u ∧ ∃ y, L[m / 4]? = some y ∧ x = y.pick (m % 4) := by
      intro m hm
      have hi : m / 4 < L.length := by omega
      obtain ⟨_, h2⟩ := hL2 (m / 4) L[m / 4] (by simp [hi])
      obtain ⟨u, h3, h4⟩ := h2 (m % 4) (by omega)
      refine ⟨_, u, ?_, h4, L[m / 4], by simp [hi], rfl⟩
      have e : m / 4 * 4 + m % 4 = m := by omega
      rw [e] at h3
      exact h3
    obtain ⟨cs, hc1, hc2⟩ := exists_list (len * 4) hq
    have hq2 : ∀ m, m < len * 4 → ∃ u : Value, w.cell? ⟨a.block, a.off + m, none⟩ = some u := fun m hm => let ⟨_, u, h, _⟩ := hq m hm; ⟨u, h⟩
    obtain ⟨us, hu1, hu2⟩ := exists_list (len * 4) hq2
    refine ⟨.fsl cs 0 4 L.length len false, L, ⟨⟨by unfold Go.maxLen at hmx; omega, fun y hy => ?_⟩, .inr ⟨_, _, _, _, rfl, fun i y hy r hr => ?_⟩⟩, ?_⟩
    · obtain ⟨i, hi, rfl⟩ := List.mem_iff_getElem.1 hy
      exact (hL2 i _ (by simp [hi])).1
    · have hil : i < L.length := (List.getElem?_eq_some_iff.1 hy).1
      have hm : i * 4 + r < cs.length := by omega
      have hget : cs[i * 4 + r]? = some (cs[i * 4 + r]) := by simp [hm]
      obtain ⟨u, _, _, y', h5, h6⟩ := hc2 (i * 4 + r) _ hget
      have e1 : (i * 4 + r) / 4 = i := by omega
      have e2 : (i * 4 + r) % 4 = r := by omega
      rw [e1, hy] at h5
      rw [e2] at h6
      cases h5
      rw [Nat.zero_add, hget, h6]
    · refine ⟨a.block, a.off, a.off, cap, us, a.spot, by rw [hL1], hspot, ⟨hlc, by simp⟩, .inr rfl, by omega, fun i u hu => hu2 i u hu, Rs.iff.2 ⟨by omega, fun i y hy => ?_⟩⟩
      obtain ⟨u, h5, h6, _⟩ := hc2 i y hy
      have hil : i < us.length := by have := (List.getElem?_eq_some_iff.1 hy).1; omega
      refine ⟨us[i], by simp [hil], ?_⟩
      have h7 := hu2 i us[i] (by simp [hil])
      rw [h5] at h7
      cases h7
      exact h6
end
end Go.Am
