/- Facts of the types that the Match laws meet. -/
import Derived.Test.YtbjkfbcladkfcaaGreatDoorAmC1
import Derived.Test.YtbjkfbcladkfcaaGreatDoorAmRows
set_option linter.unusedSimpArgs false
set_option linter.unusedVariables false
namespace Go.Proofs.YtbjkfbcladkfcaaGreatDoor
open Go Go.Am
set_option maxRecDepth 100000
noncomputable def fl (t i : Nat) : Field := (fieldOf tab t i).getD default
theorem sz3 : tab.size 3 = some 1 := by kernel_rfl
theorem ag3 : tab.isAgg 3 = some false := by kernel_rfl
theorem z3 : tab.zero 3 = some (.int .i64 0) := by kernel_rfl
theorem und3 : tab.und 3 = some (.int .i64) := by kernel_rfl
theorem gp3 : growPre tab 3 = true := by kernel_rfl
theorem sz4 : tab.size 4 = some 1 := by kernel_rfl
theorem ag4 : tab.isAgg 4 = some false := by kernel_rfl
theorem z4 : tab.zero 4 = some (.bool false) := by kernel_rfl
theorem und4 : tab.und 4 = some (.bool) := by kernel_rfl
theorem gp4 : growPre tab 4 = true := by kernel_rfl
theorem sz5 : tab.size 5 = some 1 := by kernel_rfl
theorem ag5 : tab.isAgg 5 = some false := by kernel_rfl
theorem z5 : tab.zero 5 = some (.int .u8 0) := by kernel_rfl
theorem und5 : tab.und 5 = some (.int .u8) := by kernel_rfl
theorem gp5 : growPre tab 5 = true := by kernel_rfl
theorem sz9 : tab.size 9 = some 1 := by kernel_rfl
theorem ag9 : tab.isAgg 9 = some false := by kernel_rfl
theorem z9 : tab.zero 9 = some (.string ⟨#[]⟩) := by kernel_rfl
theorem und9 : tab.und 9 = some (.string) := by kernel_rfl
theorem gp9 : growPre tab 9 = true := by kernel_rfl
theorem sz22 : tab.size 22 = some 1 := by kernel_rfl
theorem ag22 : tab.isAgg 22 = some false := by kernel_rfl
theorem z22 : tab.zero 22 = some (.nsl) := by kernel_rfl
theorem und22 : tab.und 22 = some (.slice 29) := by kernel_rfl
theorem gp22 : growPre tab 22 = true := by kernel_rfl
theorem sz27 : tab.size 27 = some 1 := by kernel_rfl
theorem ag27 : tab.isAgg 27 = some false := by kernel_rfl
theorem z27 : tab.zero 27 = some (.nsl) := by kernel_rfl
theorem und27 : tab.und 27 = some (.slice 5) := by kernel_rfl
theorem gp27 : growPre tab 27 = true := by kernel_rfl
theorem sz29 : tab.size 29 = some 4 := by kernel_rfl
theorem ag29 : tab.isAgg 29 = some true := by kernel_rfl
theorem z29 : tab.zero 29 = some (.agg [.int .i64 0, .int .i64 0, .int .i64 0, .nsl]) := by kernel_rfl
noncomputable def fs29 : Array Field := match tab.und 29 with
  | some (.struct fs) => fs
  | _ => #[]
theorem und29 : tab.und 29 = some (.struct fs29) := by kernel_rfl
theorem fa29 : fs29.toList.all (fun f => (tab.info f.type).isSome) = true := by kernel_rfl
theorem fl29_0 : fieldOf tab 29 0 = some (fl 29 0) ∧ (fl 29 0).type = 3 ∧ (fl 29 0).offset = 0 := ⟨by kernel_rfl, by kernel_rfl, by kernel_rfl⟩
theorem sp29_0 : structPlace tab fs29 0 = some (0, 1) := by kernel_rfl
theorem fl29_1 : fieldOf tab 29 1 = some (fl 29 1) ∧ (fl 29 1).type = 3 ∧ (fl 29 1).offset = 1 := ⟨by kernel_rfl, by kernel_rfl, by kernel_rfl⟩
theorem sp29_1 : structPlace tab fs29 1 = some (1, 1) := by kernel_rfl
theorem fl29_2 : fieldOf tab 29 2 = some (fl 29 2) ∧ (fl 29 2).type = 3 ∧ (fl 29 2).offset = 2 := ⟨by kernel_rfl, by kernel_rfl, by kernel_rfl⟩
theorem sp29_2 : structPlace tab fs29 2 = some (2, 1) := by kernel_rfl
theorem fl29_3 : fieldOf tab 29 3 = some (fl 29 3) ∧ (fl 29 3).type = 27 ∧ (fl 29 3).offset = 3 := ⟨by kernel_rfl, by kernel_rfl, by kernel_rfl⟩
theorem sp29_3 : structPlace tab fs29 3 = some (3, 1) := by kernel_rfl
theorem gp29 : growPre tab 29 = true := by kernel_rfl
theorem sz30 : tab.size 30 = some 2 := by kernel_rfl
theorem ag30 : tab.isAgg 30 = some true := by kernel_rfl
theorem z30 : tab.zero 30 = some (.agg [.int .i64 0, .int .i64 0]) := by kernel_rfl
theorem und30 : tab.und 30 = some (.array 2 3) := by kernel_rfl
theorem gp30 : growPre tab 30 = true := by kernel_rfl
theorem sz56 : tab.size 56 = some 1 := by kernel_rfl
theorem ag56 : tab.isAgg 56 = some false := by kernel_rfl
theorem z56 : tab.zero 56 = some (.nfunc) := by kernel_rfl
noncomputable def ud56 : TypeDesc := (tab.und 56).getD default
theorem und56 : tab.und 56 = some ud56 := by kernel_rfl
theorem nkF56 : nilKind ud56 .nfunc = true := by kernel_rfl
theorem gp56 : growPre tab 56 = true := by kernel_rfl
-- NAMES sz3 ag3 z3 und3 sz4 ag4 z4 und4 sz5 ag5 z5 und5 sz9 ag9 z9 und9 sz22 ag22 z22 und22 sz27 ag27 z27 und27 sz29 ag29 z29 und29 fa29 fl29_0 sp29_0 fl29_1 sp29_1 fl29_2 sp29_2 fl29_3 sp29_3 sz30 ag30 z30 und30 sz56 ag56 z56 und56 nkF56

end Go.Proofs.YtbjkfbcladkfcaaGreatDoor
