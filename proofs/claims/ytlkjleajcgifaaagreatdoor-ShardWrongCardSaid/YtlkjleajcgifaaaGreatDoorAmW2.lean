/- ShardWrong answers true, whatever the numbers. -/
import Derived.Test.YtlkjleajcgifaaaGreatDoorAmW0
import Derived.Tactics
namespace Go.Proofs.YtlkjleajcgifaaaGreatDoor
open Go Go.Am
set_option maxRecDepth 100000

/-- One piece of code, then the rest from less of what is known. -/
theorem seq_step {P : Program} {T : Tab} {callee : Go.Am.Callee heapPT} {N : Nat} {cert : Nat → Option (List Nat)} {fuel : Nat} (hT : TabOK P T) (hc : CalleeOK P callee) (hmix : P.follows .mixedOrders = true) {x y : Code} (hr : regsOk cert x = true) {env env1 env2 : Env} {s s1 : St heapPT}
    (hev : evCode P T callee N cert fuel x env s = some (.normal, env1, s1)) (hsub : ∀ t v, env2.get t = some v → env1.get t = some v) {a : Act} {w : World} {ι : Emb} (hs : Sim ι s w) (ha : RelAct ι env N a) {Q : Exit → Act → World → Prop}
    (hK : ∀ κ a' w', Stp ι s w κ s1 w' → Sim κ s1 w' → RelAct κ env2 N a' → y.wp P Q a' w') : (Code.seq x y).wp P Q a w := by
  refine wp_seq (code_sound hT hc hmix x hr hev hs ha (fun κ a' w' p1 p2 p3 => ?_))
  exact hK κ a' w' p1 p2 ⟨p3.size, p3.defers, fun t v hv => p3.env t v (hsub t v hv)⟩

theorem tf4 : tab.func 4 = some Tryz.f4 := by kernel_rfl
theorem tf5 : (tab.func 5).isSome = true := by kernel_rfl

def piece : Nat → Code → Code
  | 0, .seq a _ => a
  | n + 1, .seq _ b => piece n b
  | _, c => c
noncomputable def pc (n : Nat) : Code := piece n (Tryz.f4.body.getD .skip)

theorem body4 : Tryz.f4.body = some (.seq (pc 0) (.seq (pc 1) (.seq (pc 2) (.seq (pc 3) (.seq (pc 4) rest4))))) := by kernel_rfl

def cfg (a b c d e : Int) : List AV := [.int .i64 a, .int .i64 b, .int .i64 c, .int .i64 d, .int .i64 e]
def cel (x y z g : Int) : List AV := [.int .i64 x, .int .i64 y, .int .i64 z, .int .u32 g]
noncomputable def stA (a b c d e x y z g : Int) : St heapPT := (s0.new (.cells (cfg a b c d e))).new (.cells (cel x y z g))

theorem callW5 (args : List AV) (s : St heapPT) : callF tab cW 5 [] s = some (.bool true, s) := by
  unfold callF
  cases e : tab.func 5 with
  | none => have := tf5; rw [e] at this; cases this
  | some _ => rfl
theorem callW7 (a b c d e n : Int) (s : St heapPT) : callF tab cW 7 [.agg [.int .i64 a, .int .i64 b, .int .i64 c, .int .i64 d, .int .i64 e], .int .i64 n, .nptr] s = some (.tuple [.nptr, .int .i64 (newI a b c d e n)], { h := s.h, next := s.next + 2 }) := by
  unfold callF
  rw [tf7]
  rfl
theorem callW14 (a b c d e : Int) (s : St heapPT) : callF tab cW 14 [.agg [.int .i64 a, .int .i64 b, .int .i64 c, .int .i64 d, .int .i64 e]] s = some (.bool (mayI a b c d e), { h := s.h, next := s.next + 1 }) := by
  unfold callF
  rw [tf14]
  rfl

def envA (n source : Int) : Env := Env.put (Env.put (Env.put (Env.put (Env.put .leaf 1 (.int .i64 n)) 2 (.int .i64 source)) 4 (.hptr 0 0)) 7 (.hptr 1 0)) 8 (.bool false)
def envB (n source err : Int) : Env := Env.put (envA n source) 10 (.int .i64 err)
def envC (n source err : Int) : Env := Env.put (envB n source err) 11 (.int .i64 1)
theorem env_leaf (t : Nat) : Env.get (.leaf : Env) t = none := PT.get_leaf _

theorem p0 (a b c d e n source x y z g : Int) : ∃ env1, evCode Tryz.prog tab cW 147 (certs 4) 100000 (pc 0) (argsEnv [.agg (cfg a b c d e), .int .i64 n, .int .i64 source, .agg (cel x y z g)]) s0 = some (.normal, env1, stA a b c d e x y z g) ∧ ∀ t v, (envA n source).get t = some v → env1.get t = some v := by
  refine ⟨_, by simp [pc, piece, Tryz.f4, evCode, evRegion, evOps, evOp, opd, dstOk, wantedA, Env.putO, env_get_put, args_get, ofV, AV.cells]; exact ⟨rfl, rfl⟩, fun t v h => ?_⟩
  simp only [envA, env_get_put, env_leaf] at h ⊢
  repeat (split at h; · (rename_i e; subst e; cases h; simp [args_get, s0]; done))
  cases h

theorem p1 (n source : Int) (s : St heapPT) : ∃ env1, evCode Tryz.prog tab cW 147 (certs 4) 100000 (pc 1) (envA n source) s = some (.normal, env1, s) ∧ ∀ t v, (envA n source).get t = some v → env1.get t = some v := by
  refine ⟨_, by simp [pc, piece, Tryz.f4, evCode, evRegion, evOps, evOp, opd, dstOk, wantedA, Env.putO, env_get_put, envA, env_leaf, ofV, evCall, evList, callW5]; exact rfl, fun t v h => ?_⟩
  simp only [envA, env_get_put, env_leaf] at h ⊢
  repeat (split at h; · (rename_i e; subst e; cases h; simp; done))
  cases h

theorem cellsA0 (a b c d e x y z g : Int) (k : Nat) : St.cells { h := (stA a b c d e x y z g).h, next := k } 0 = some (cfg a b c d e) := by
  have h1 : St.get { h := (stA a b c d e x y z g).h, next := k } 0 = some (.cells (cfg a b c d e)) := by
    have := St.get_new (s0.new (.cells (cfg a b c d e))) (.cells (cel x y z g)) 0
    have hne : ¬ (0 : Nat) = (s0.new (Blk.cells (cfg a b c d e))).next := by
      show ¬ (0 : Nat) = 1
      decide
    rw [if_neg hne] at this
    have h2 := St.get_new s0 (.cells (cfg a b c d e)) 0
    rw [if_pos (show (0 : Nat) = s0.next from rfl)] at h2
    exact this.trans h2
  unfold St.cells
  rw [h1]

theorem cellsA0' (a b c d e x y z g : Int) : St.cells (stA a b c d e x y z g) 0 = some (cfg a b c d e) := cellsA0 a b c d e x y z g 2

theorem p2 (a b c d e n source x y z g : Int) : ∃ env1, evCode Tryz.prog tab cW 147 (certs 4) 100000 (pc 2) (envA n source) (stA a b c d e x y z g) = some (.normal, env1, { h := (stA a b c d e x y z g).h, next := 4 }) ∧ ∀ t v, (envB n source (newI a b c d e n)).get t = some v → env1.get t = some v := by
  refine ⟨_, by simp [pc, piece, Tryz.f4, evCode, evRegion, evOps, evOp, opd, dstOk, wantedA, Env.putO, env_get_put, envA, env_leaf, ofV, evCall, evList, loadV, cellsA0', readV, ag31, sz31, cfg, callW7]; exact ⟨rfl, rfl⟩, fun t v h => ?_⟩
  simp only [envA, envB, env_get_put, env_leaf] at h ⊢
  repeat (split at h; · (rename_i e; subst e; cases h; simp; done))
  cases h

theorem p3 (n source err : Int) (s : St heapPT) : ∃ env1, evCode Tryz.prog tab cW 147 (certs 4) 100000 (pc 3) (envB n source err) s = some (.normal, env1, s) ∧ ∀ t v, (envC n source err).get t = some v → env1.get t = some v := by
  refine ⟨_, by simp [pc, piece, Tryz.f4, evCode, evRegion, evOps, evOp, opd, dstOk, wantedA, Env.putO, env_get_put, ofV]; exact rfl, fun t v h => ?_⟩
  simp only [envA, envB, envC, env_get_put, env_leaf] at h ⊢
  repeat (split at h; · (rename_i e; subst e; cases h; simp; done))
  cases h

/-- What the law wants of New, said as it says it. -/
theorem want_eq (a b c d e n : Int) : newI a b c d e n = if !mayI a b c d e || ltI n 0 || !ltI n a then 5 else 1 := by
  unfold newI
  cases h : mayI a b c d e with
  | false => simp
  | true =>
    have h1 : inI a 1 64 = true := by
      unfold mayI at h
      simp only [Bool.and_eq_true] at h
      exact h.1.1.1.1
    simp only [inI, ltI_eq, Bool.and_eq_true, Bool.not_eq_true', decide_eq_false_iff_not] at h1
    have h2 : IntKind.i64.wrap (a - 1) = a - 1 := by
      unfold IntKind.wrap
      simp [IntKind.bits, IntKind.signed]
      omega
    rw [h2]
    simp only [inI, ltI_eq]
    by_cases h3 : n < 0 <;> by_cases h4 : n < a <;> simp [h3, h4] <;> omega

theorem p4 (a b c d e n source x y z g : Int) : ∃ env1, evCode Tryz.prog tab cW 147 (certs 4) 100000 (pc 4) (envC n source (newI a b c d e n)) { h := (stA a b c d e x y z g).h, next := 4 } = some (.normal, env1, st4 (cfg a b c d e) x y z g) ∧ ∀ t v, (env4 (newI a b c d e n) source).get t = some v → env1.get t = some v := by
  rw [want_eq]
  have hst : ({ h := (stA a b c d e x y z g).h, next := 5 } : St heapPT) = st4 (cfg a b c d e) x y z g := rfl
  cases h1 : mayI a b c d e <;> cases h2 : ltI n 0 <;> cases h3 : ltI n a
  all_goals
    refine ⟨_, by simp [pc, piece, Tryz.f4, evCode, evRegion, evOps, evOp, opd, dstOk, wantedA, Env.putO, env_get_put, envA, envB, envC, env_leaf, ofV, evCall, evList, loadV, cellsA0, readV, ag31, sz31, ag3, sz3, fl310, cfg, callW14, h1, h2, h3, intOp, isShift]; first | exact ⟨rfl, rfl⟩ | exact rfl, fun t v h => ?_⟩
    simp only [env4, env_get_put, env_leaf] at h ⊢
    repeat (split at h; · (rename_i e; subst e; cases h; simp [envA, envB, envC, env_get_put]; done))
    cases h

theorem reg4 : regsOk (certs 4) (pc 0) = true ∧ regsOk (certs 4) (pc 1) = true ∧ regsOk (certs 4) (pc 2) = true ∧ regsOk (certs 4) (pc 3) = true ∧ regsOk (certs 4) (pc 4) = true ∧ regsOk (certs 4) rest4 = true :=
  ⟨by kernel_rfl, by kernel_rfl, by kernel_rfl, by kernel_rfl, by kernel_rfl, by kernel_rfl⟩

/-- THE CONTRACT OF ShardWrong. -/
theorem wrong_ok (hrest : ∀ err, err = 1 ∨ err = 5 → ∀ source c x y z g, restRuns err source c x y z g = true) (a b c d e n source x y z g : Int) (w : World) :
    Calls Tryz.prog 4 #[.agg #[.int .i64 a, .int .i64 b, .int .i64 c, .int .i64 d, .int .i64 e], .int .i64 n, .int .i64 source, .agg #[.int .i64 x, .int .i64 y, .int .i64 z, .int .u32 g]] w
      fun e w' => e = .returned (.bool true) ∧ w.heap.size ≤ w'.heap.size ∧ (∀ cb, cb < w.heap.size → w'.heap[cb]? = w.heap[cb]?) ∧ w'.os = w.os ∧ w'.output = w.output ∧ w'.tape = w.tape := by
  have hR : Rs embNone [.agg (cfg a b c d e), .int .i64 n, .int .i64 source, .agg (cel x y z g)] [.agg #[.int .i64 a, .int .i64 b, .int .i64 c, .int .i64 d, .int .i64 e], .int .i64 n, .int .i64 source, .agg #[.int .i64 x, .int .i64 y, .int .i64 z, .int .u32 g]] := by
    simp [Rs, R, cfg, cel]
  have hsim : Sim (HI := heapPT) embNone s0 w := sim_none
  have hT := tabOk
  obtain ⟨g0, g1, g2, g3, g4, g5⟩ := reg4
  refine calls_of_wp (hT.func _ _ tf4).1 body4 ?_
  have ha : RelAct embNone (argsEnv [.agg (cfg a b c d e), .int .i64 n, .int .i64 source, .agg (cel x y z g)]) 147 { tmps := #[.agg #[.int .i64 a, .int .i64 b, .int .i64 c, .int .i64 d, .int .i64 e], .int .i64 n, .int .i64 source, .agg #[.int .i64 x, .int .i64 y, .int .i64 z, .int .u32 g]] ++ Array.replicate (Tryz.f4.ntmps - 4) undef, defers := [] } := by
    refine ⟨by rw [show Tryz.f4.ntmps = 147 by kernel_rfl]; simp, rfl, fun t u hu => ?_⟩
    rw [args_get] at hu
    obtain ⟨yv, hy, hyr⟩ := hR.get hu
    have hts := (List.getElem?_eq_some_iff.1 hy).1
    rw [Array.getD_eq_getD_getElem?, Array.getElem?_append_left (by simpa using hts)]
    have : (#[.agg #[.int .i64 a, .int .i64 b, .int .i64 c, .int .i64 d, .int .i64 e], .int .i64 n, .int .i64 source, .agg #[.int .i64 x, .int .i64 y, .int .i64 z, .int .u32 g]] : Array Value)[t]? = some yv := by simpa using hy
    rw [this]
    exact hyr
  obtain ⟨e0, q0, k0⟩ := p0 a b c d e n source x y z g
  obtain ⟨e1, q1, k1⟩ := p1 n source (stA a b c d e x y z g)
  obtain ⟨e2, q2, k2⟩ := p2 a b c d e n source x y z g
  obtain ⟨e3, q3, k3⟩ := p3 n source (newI a b c d e n) { h := (stA a b c d e x y z g).h, next := 4 }
  obtain ⟨e4, q4, k4⟩ := p4 a b c d e n source x y z g
  refine seq_step hT cW_ok mixed g0 q0 k0 hsim ha (fun κ0 a0 w0 m0 i0 r0 => ?_)
  refine seq_step hT cW_ok mixed g1 q1 k1 i0 r0 (fun κ1 a1 w1 m1 i1 r1 => ?_)
  refine seq_step hT cW_ok mixed g2 q2 k2 i1 r1 (fun κ2 a2 w2 m2 i2 r2 => ?_)
  refine seq_step hT cW_ok mixed g3 q3 k3 i2 r2 (fun κ3 a3 w3 m3 i3 r3 => ?_)
  refine seq_step hT cW_ok mixed g4 q4 k4 i3 r3 (fun κ4 a4 w4 m4 i4 r4 => ?_)
  have hrun := hrest (newI a b c d e n) (by unfold newI; split <;> simp) source (cfg a b c d e) x y z g
  unfold restRuns at hrun
  cases hev : evCode Tryz.prog tab cW 147 (certs 4) 100000 rest4 (env4 (newI a b c d e n) source) (st4 (cfg a b c d e) x y z g) with
  | none => rw [hev] at hrun; cases hrun
  | some r =>
    obtain ⟨ex, env', s'⟩ := r
    rw [hev] at hrun
    cases ex with
    | normal => cases hrun
    | exit i => cases hrun
    | ret =>
      have h8 : env'.get 8 = some (.bool true) := by
        simp only at hrun
        split at hrun
        · assumption
        · cases hrun
      refine code_sound hT cW_ok mixed rest4 g5 hev i4 r4 (fun κ5 a5 w5 m5 i5 r5 => ?_)
      have hv := r5.env 8 _ h8
      simp only [R] at hv
      have m := (((m0.trans m1).trans m2).trans m3).trans (m4.trans m5)
      have off : ∀ cb, Off (HI := heapPT) embNone s0 cb := fun cb b x base hb => by
        have : PT.get PT.leaf (Go.Am.bits b) = some x := hb
        rw [PT.get_leaf] at this; cases this
      refine ⟨r5.defers, .bool true, ?_, rfl, m.grow, fun cb hcb => m.kept cb hcb (off cb), m.os, m.output, m.tape⟩
      have := results_tmp (fn := Tryz.f4) (t := 8) (by kernel_rfl) a5.tmps Tryz.prog w5
      rw [hv] at this
      exact this
end Go.Proofs.YtlkjleajcgifaaaGreatDoor
