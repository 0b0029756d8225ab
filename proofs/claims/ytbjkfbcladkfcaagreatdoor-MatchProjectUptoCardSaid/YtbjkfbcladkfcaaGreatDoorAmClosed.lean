/- What is run from nothing runs so from anything: for any make of heaps. -/
import Derived.Test.YtbjkfbcladkfcaaGreatDoorAmFastB
set_option linter.unusedSimpArgs false
set_option linter.unusedVariables false
namespace Go.Am
theorem sim_empty {HI : HeapI} {s0 : St HI} (h0 : ∀ b, s0.get b = none) {w : World} : Sim embNone s0 w := by
  refine ⟨fun b x h => ?_, fun b b' x x' cb base base' h => ?_, fun cb o v h => by simp [embNone] at h, fun b _ => rfl, fun b cb base h => by simp [embNone] at h, fun cb n h => by simp [embNone] at h⟩
  · rw [h0] at h; cases h
  · rw [h0] at h; cases h
theorem closed_any {P : Program} {HJ HI : HeapI} {callee : Callee HJ} (hc : CalleeOK P callee) {s0 : St HJ} (h0 : ∀ b, s0.get b = none) {f : Nat} {args : List AV} {v : AV} {s1 : St HJ} (hev : callee f args s0 = some (v, s1)) (hargs : ∀ ι vs, Rs ι args vs → Rs embNone args vs) (hv : ∀ ι κ v', R ι v v' → R κ v v')
    {ι : Emb} {s : St HI} {w : World} {vs : List Value} (hr : Rs ι args vs) (hs : Sim ι s w) :
    Calls P f ⟨vs⟩ w fun e w' => ∃ v' κ, e = .returned v' ∧ Stp ι s w κ s w' ∧ Sim κ s w' ∧ R κ v v' := by
  refine (hc f args s0 v s1 hev embNone w vs (hargs ι vs hr) (sim_empty h0)).mono fun e w' he => ?_
  obtain ⟨v', κ, rfl, h1, h2, h3⟩ := he
  have off : ∀ cb, Off embNone s0 cb := fun cb b x base hb => by rw [h0] at hb; cases hb
  have kept : ∀ cb, cb < w.heap.size → w'.heap[cb]? = w.heap[cb]? := fun cb hl => h1.kept cb hl (off cb)
  refine ⟨v', ι, rfl, ⟨.refl _, h1.grow, fun cb hl _ => kept cb hl, fun _ _ h => h, fun _ _ _ h _ _ => h, fun _ _ => rfl, Nat.le_refl _, h1.os, h1.output, h1.tape⟩, ⟨fun b x hb => ?_, hs.inj, fun cb o y hy => ?_, hs.fresh, fun b cb base h => Nat.lt_of_lt_of_le (hs.bmap b cb base h) h1.grow, fun cb n h => Nat.lt_of_lt_of_le (hs.bsize cb n h) h1.grow⟩, hv _ _ _ h3⟩
  · obtain ⟨cb, base, p1, p2, p3⟩ := hs.live b x hb
    exact ⟨cb, base, p1, p2.mono (.refl _) (kept cb p2.lt), p3⟩
  · have := hs.frz cb o y hy
    unfold World.cell? at this ⊢
    rw [kept cb (hs.bfrz hy)]
    exact this
end Go.Am
