/- The rest of ShardWrong's code, at every class of its numbers. -/
import Derived.Test.YtlkjleajcgifaaaGreatDoorAmW0
namespace Go.Proofs.YtlkjleajcgifaaaGreatDoor
open Go Go.Am
set_option maxRecDepth 100000
theorem r1n (m : Nat) (c : List AV) (x y z g : Int) : restRuns 1 (.negSucc m) c x y z g = true := by kernel_rfl
theorem r1m (m : Nat) (c : List AV) (x y z g : Int) : restRuns 1 (.ofNat (m + 9)) c x y z g = true := by kernel_rfl
theorem r1_0 (c : List AV) (x y z g : Int) : restRuns 1 (.ofNat 0) c x y z g = true := by kernel_rfl
theorem r1_1n (k : Nat) (c : List AV) (x y g : Int) : restRuns 1 (.ofNat 1) c x y (.negSucc k) g = true := by kernel_rfl
theorem r1_1z (c : List AV) (x y g : Int) : restRuns 1 (.ofNat 1) c x y (.ofNat 0) g = true := by kernel_rfl
theorem r1_1p (k : Nat) (c : List AV) (x y g : Int) : restRuns 1 (.ofNat 1) c x y (.ofNat (k + 1)) g = true := by kernel_rfl
theorem r1_1 (c : List AV) (x y z g : Int) : restRuns 1 (.ofNat 1) c x y z g = true := by
  cases z with
  | negSucc k => exact r1_1n k c x y g
  | ofNat k => cases k with
    | zero => exact r1_1z c x y g
    | succ k => exact r1_1p k c x y g
theorem r1_2 (c : List AV) (x y z g : Int) : restRuns 1 (.ofNat 2) c x y z g = true := by kernel_rfl
theorem r1_3 (c : List AV) (x y z g : Int) : restRuns 1 (.ofNat 3) c x y z g = true := by kernel_rfl
theorem r1_4n (k : Nat) (c : List AV) (x y g : Int) : restRuns 1 (.ofNat 4) c x y (.negSucc k) g = true := by kernel_rfl
theorem r1_4z (c : List AV) (x y g : Int) : restRuns 1 (.ofNat 4) c x y (.ofNat 0) g = true := by kernel_rfl
theorem r1_4p (k : Nat) (c : List AV) (x y g : Int) : restRuns 1 (.ofNat 4) c x y (.ofNat (k + 1)) g = true := by kernel_rfl
theorem r1_4 (c : List AV) (x y z g : Int) : restRuns 1 (.ofNat 4) c x y z g = true := by
  cases z with
  | negSucc k => exact r1_4n k c x y g
  | ofNat k => cases k with
    | zero => exact r1_4z c x y g
    | succ k => exact r1_4p k c x y g
theorem r1_5 (c : List AV) (x y z g : Int) : restRuns 1 (.ofNat 5) c x y z g = true := by kernel_rfl
theorem r1_6 (c : List AV) (x y z g : Int) : restRuns 1 (.ofNat 6) c x y z g = true := by kernel_rfl
theorem r1_7n (k : Nat) (c : List AV) (x y g : Int) : restRuns 1 (.ofNat 7) c x y (.negSucc k) g = true := by kernel_rfl
theorem r1_7z (c : List AV) (x y g : Int) : restRuns 1 (.ofNat 7) c x y (.ofNat 0) g = true := by kernel_rfl
theorem r1_7p (k : Nat) (c : List AV) (x y g : Int) : restRuns 1 (.ofNat 7) c x y (.ofNat (k + 1)) g = true := by kernel_rfl
theorem r1_7 (c : List AV) (x y z g : Int) : restRuns 1 (.ofNat 7) c x y z g = true := by
  cases z with
  | negSucc k => exact r1_7n k c x y g
  | ofNat k => cases k with
    | zero => exact r1_7z c x y g
    | succ k => exact r1_7p k c x y g
theorem r1_8 (c : List AV) (x y z g : Int) : restRuns 1 (.ofNat 8) c x y z g = true := by kernel_rfl
theorem r1 (source : Int) (c : List AV) (x y z g : Int) : restRuns 1 source c x y z g = true := by
  cases source with
  | negSucc m => exact r1n m c x y z g
  | ofNat n => match n with
    | 0 => exact r1_0 c x y z g
    | 1 => exact r1_1 c x y z g
    | 2 => exact r1_2 c x y z g
    | 3 => exact r1_3 c x y z g
    | 4 => exact r1_4 c x y z g
    | 5 => exact r1_5 c x y z g
    | 6 => exact r1_6 c x y z g
    | 7 => exact r1_7 c x y z g
    | 8 => exact r1_8 c x y z g
    | m + 9 => exact r1m m c x y z g
theorem r5n (m : Nat) (c : List AV) (x y z g : Int) : restRuns 5 (.negSucc m) c x y z g = true := by kernel_rfl
theorem r5m (m : Nat) (c : List AV) (x y z g : Int) : restRuns 5 (.ofNat (m + 9)) c x y z g = true := by kernel_rfl
theorem r5_0 (c : List AV) (x y z g : Int) : restRuns 5 (.ofNat 0) c x y z g = true := by kernel_rfl
theorem r5_1n (k : Nat) (c : List AV) (x y g : Int) : restRuns 5 (.ofNat 1) c x y (.negSucc k) g = true := by kernel_rfl
theorem r5_1z (c : List AV) (x y g : Int) : restRuns 5 (.ofNat 1) c x y (.ofNat 0) g = true := by kernel_rfl
theorem r5_1p (k : Nat) (c : List AV) (x y g : Int) : restRuns 5 (.ofNat 1) c x y (.ofNat (k + 1)) g = true := by kernel_rfl
theorem r5_1 (c : List AV) (x y z g : Int) : restRuns 5 (.ofNat 1) c x y z g = true := by
  cases z with
  | negSucc k => exact r5_1n k c x y g
  | ofNat k => cases k with
    | zero => exact r5_1z c x y g
    | succ k => exact r5_1p k c x y g
theorem r5_2 (c : List AV) (x y z g : Int) : restRuns 5 (.ofNat 2) c x y z g = true := by kernel_rfl
theorem r5_3 (c : List AV) (x y z g : Int) : restRuns 5 (.ofNat 3) c x y z g = true := by kernel_rfl
theorem r5_4n (k : Nat) (c : List AV) (x y g : Int) : restRuns 5 (.ofNat 4) c x y (.negSucc k) g = true := by kernel_rfl
theorem r5_4z (c : List AV) (x y g : Int) : restRuns 5 (.ofNat 4) c x y (.ofNat 0) g = true := by kernel_rfl
theorem r5_4p (k : Nat) (c : List AV) (x y g : Int) : restRuns 5 (.ofNat 4) c x y (.ofNat (k + 1)) g = true := by kernel_rfl
theorem r5_4 (c : List AV) (x y z g : Int) : restRuns 5 (.ofNat 4) c x y z g = true := by
  cases z with
  | negSucc k => exact r5_4n k c x y g
  | ofNat k => cases k with
    | zero => exact r5_4z c x y g
    | succ k => exact r5_4p k c x y g
theorem r5_5 (c : List AV) (x y z g : Int) : restRuns 5 (.ofNat 5) c x y z g = true := by kernel_rfl
theorem r5_6 (c : List AV) (x y z g : Int) : restRuns 5 (.ofNat 6) c x y z g = true := by kernel_rfl
theorem r5_7n (k : Nat) (c : List AV) (x y g : Int) : restRuns 5 (.ofNat 7) c x y (.negSucc k) g = true := by kernel_rfl
theorem r5_7z (c : List AV) (x y g : Int) : restRuns 5 (.ofNat 7) c x y (.ofNat 0) g = true := by kernel_rfl
theorem r5_7p (k : Nat) (c : List AV) (x y g : Int) : restRuns 5 (.ofNat 7) c x y (.ofNat (k + 1)) g = true := by kernel_rfl
theorem r5_7 (c : List AV) (x y z g : Int) : restRuns 5 (.ofNat 7) c x y z g = true := by
  cases z with
  | negSucc k => exact r5_7n k c x y g
  | ofNat k => cases k with
    | zero => exact r5_7z c x y g
    | succ k => exact r5_7p k c x y g
theorem r5_8 (c : List AV) (x y z g : Int) : restRuns 5 (.ofNat 8) c x y z g = true := by kernel_rfl
theorem r5 (source : Int) (c : List AV) (x y z g : Int) : restRuns 5 source c x y z g = true := by
  cases source with
  | negSucc m => exact r5n m c x y z g
  | ofNat n => match n with
    | 0 => exact r5_0 c x y z g
    | 1 => exact r5_1 c x y z g
    | 2 => exact r5_2 c x y z g
    | 3 => exact r5_3 c x y z g
    | 4 => exact r5_4 c x y z g
    | 5 => exact r5_5 c x y z g
    | 6 => exact r5_6 c x y z g
    | 7 => exact r5_7 c x y z g
    | 8 => exact r5_8 c x y z g
    | m + 9 => exact r5m m c x y z g
end Go.Proofs.YtlkjleajcgifaaaGreatDoor
