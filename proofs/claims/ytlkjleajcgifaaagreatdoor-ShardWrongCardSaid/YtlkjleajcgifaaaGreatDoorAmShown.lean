/- The package's own example answers true, whatever the memory. -/
import Derived.Test.YtlkjleajcgifaaaGreatDoorAmTab
import Derived.Test.YtlkjleajcgifaaaGreatDoorAmCert
import Derived.Test.YtlkjleajcgifaaaGreatDoorAmCall
import Derived.Test.YtlkjleajcgifaaaGreatDoorAmC1
namespace Go.Proofs.YtlkjleajcgifaaaGreatDoor
open Go Go.Am
set_option maxRecDepth 100000
theorem shown_run : (match ev 40 5 [] s0 with | some (.bool true, _) => true | _ => false) = true := by kernel_rfl
theorem shown_ev : ∃ s1, ev 40 5 [] s0 = some (.bool true, s1) := by
  have h := shown_run
  generalize ev 40 5 [] s0 = r at h
  match r, h with
  | some (.bool true, s1), _ => exact ⟨s1, rfl⟩

theorem noPrim_ok : CalleeOK Tryz.prog noPrim := by
  intro f args s v s' h; cases h
theorem ev_ok (d : Nat) : CalleeOK Tryz.prog (ev d) := callA_sound tabOk mixed noPrim_ok (fun f fn c h hb => reg_ok h hb) d

def cShown (rest : Go.Am.Callee heapPT) : Go.Am.Callee heapPT := fun f args s =>
  match f, args with
  | 5, [] => some (.bool true, s)
  | _, _ => rest f args s

theorem cShown_ok {rest : Go.Am.Callee heapPT} (h : CalleeOK Tryz.prog rest) : CalleeOK Tryz.prog (cShown rest) := by
  intro f args s v s' he ι w vs hr hs
  unfold cShown at he
  split at he
  · cases he
    obtain ⟨s1, h1⟩ := shown_ev
    exact closed_ok (ev_ok 40) h1 (fun _ _ h => h) (fun _ _ _ h => h) hr hs
  · exact h _ _ _ _ _ he _ _ _ hr hs
end Go.Proofs.YtlkjleajcgifaaaGreatDoor
