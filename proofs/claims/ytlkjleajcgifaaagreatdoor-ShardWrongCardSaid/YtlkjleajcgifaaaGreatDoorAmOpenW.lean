/- The shapes of ShardWrong's arguments. -/
import Derived.Test.YtlkjleajcgifaaaGreatDoorAmPost
namespace Go.Proofs.YtlkjleajcgifaaaGreatDoor.fnWrong
open Go.ChangeShapes Go.WideShapes Go.ChangeAt Go.RowKit
set_option maxRecDepth 100000
theorem own : ownKnob Tryz.prog.godebug = none := by kernel_rfl
theorem cells31 : Tryz.prog.cellsOf 31 = 5 := by kernel_rfl
theorem cells40 : Tryz.prog.cellsOf 40 = 4 := by kernel_rfl
theorem cells35 : Tryz.prog.cellsOf 35 = 2 := by kernel_rfl
theorem cells3 : Tryz.prog.cellsOf 3 = 1 := by kernel_rfl
theorem cells33 : Tryz.prog.cellsOf 33 = 1 := by kernel_rfl

theorem list5 {α : Type} {l : List α} (h : l.length = 5) : ∃ a b c d e, l = [a, b, c, d, e] := by
  match l, h with
  | [a, b, c, d, e], _ => exact ⟨a, b, c, d, e, rfl⟩
theorem list4 {α : Type} {l : List α} (h : l.length = 4) : ∃ a b c d, l = [a, b, c, d] := by
  match l, h with
  | [a, b, c, d], _ => exact ⟨a, b, c, d, rfl⟩

section
variable {H : Type} {enc : TypeId × Value → H} {w : World} {base : Nat} {spare : Nat → Bool} {held : Bool} {r : Reach} {b0 : Nat} {v : Value} {d : DataW H} {p : List MemPlace}
theorem one {n : Nat} {t : TypeId} {k : IntKind} {c : Value} {o : Option (DataW H × List MemPlace)} (ht : Tryz.prog.underlying t = some (.int k)) (h : DataW.trod enc Tryz.prog w base spare held n t [c] = o) (ho : o.isSome = true) : ∃ z, c = .int k z := by
  cases o with
  | none => cases ho
  | some x =>
    obtain ⟨z, h1, _⟩ := DataW.trod_int ht h
    exact ⟨z, by simpa using h1⟩

theorem open_cfg (hv : Value.okWide Tryz.prog w r b0 31 v) (h : DataW.Trod enc Tryz.prog w base spare held 31 v d p) : ∃ a b c d e, v = .agg #[.int .i64 a, .int .i64 b, .int .i64 c, .int .i64 d, .int .i64 e] := by
  obtain ⟨⟨cs⟩, rfl, hsz⟩ := okWide_struct Tryz.underlying31 hv
  rw [cells31] at hsz
  obtain ⟨c0, c1, c2, c3, c4, rfl⟩ := list5 (by simpa using hsz)
  obtain ⟨fuel, hf⟩ := h
  obtain ⟨xs, n, _, _, _, hlen, hff⟩ := DataW.trod_struct Tryz.underlying31 hf
  have hlen' : xs.length = 5 := by simpa using hlen
  have hx : ∀ i, i < 5 → (xs[i]?).isSome = true := fun i hi => by simp [hlen', hi]
  have h0 := hff 0 _ rfl
  have h1 := hff 1 _ rfl
  have h2 := hff 2 _ rfl
  have h3 := hff 3 _ rfl
  have h4 := hff 4 _ rfl
  simp only [Value.cells, List.drop, List.take, cells3] at h0 h1 h2 h3 h4
  obtain ⟨a, rfl⟩ := one Tryz.underlying3 h0 (hx 0 (by decide))
  obtain ⟨b, rfl⟩ := one Tryz.underlying3 h1 (hx 1 (by decide))
  obtain ⟨c, rfl⟩ := one Tryz.underlying3 h2 (hx 2 (by decide))
  obtain ⟨d, rfl⟩ := one Tryz.underlying3 h3 (hx 3 (by decide))
  obtain ⟨e, rfl⟩ := one Tryz.underlying3 h4 (hx 4 (by decide))
  exact ⟨a, b, c, d, e, rfl⟩

theorem open_cel (hv : Value.okWide Tryz.prog w r b0 40 v) (h : DataW.Trod enc Tryz.prog w base spare held 40 v d p) : ∃ x y z g, v = .agg #[.int .i64 x, .int .i64 y, .int .i64 z, .int .u32 g] := by
  obtain ⟨⟨cs⟩, rfl, hsz⟩ := okWide_struct Tryz.underlying40 hv
  rw [cells40] at hsz
  obtain ⟨c0, c1, c2, c3, rfl⟩ := list4 (by simpa using hsz)
  obtain ⟨fuel, hf⟩ := h
  obtain ⟨xs, n, _, _, _, hlen, hff⟩ := DataW.trod_struct Tryz.underlying40 hf
  have hlen' : xs.length = 3 := by simpa using hlen
  have hx : ∀ i, i < 3 → (xs[i]?).isSome = true := fun i hi => by simp [hlen', hi]
  have h0 := hff 0 _ rfl
  have h1 := hff 1 _ rfl
  have h2 := hff 2 _ rfl
  simp only [Value.cells, List.drop, List.take, cells3, cells35] at h0 h1 h2
  obtain ⟨a, rfl⟩ := one Tryz.underlying3 h0 (hx 0 (by decide))
  obtain ⟨b, rfl⟩ := one Tryz.underlying3 h1 (hx 1 (by decide))
  have hs2 := hx 2 (by decide)
  rw [← h2] at hs2
  obtain ⟨y, hy⟩ := Option.isSome_iff_exists.1 hs2
  obtain ⟨ys, m, _, _, _, hlen2, hff2⟩ := DataW.trod_struct Tryz.underlying35 hy
  have hlen2' : ys.length = 2 := by simpa using hlen2
  have hx2 : ∀ i, i < 2 → (ys[i]?).isSome = true := fun i hi => by simp [hlen2', hi]
  have k0 := hff2 0 _ rfl
  have k1 := hff2 1 _ rfl
  obtain ⟨z, rfl⟩ := one Tryz.underlying3 k0 (hx2 0 (by decide))
  obtain ⟨g, rfl⟩ := one Tryz.underlying33 k1 (hx2 1 (by decide))
  exact ⟨a, b, z, g, rfl⟩
end

end Go.Proofs.YtlkjleajcgifaaaGreatDoor.fnWrong
