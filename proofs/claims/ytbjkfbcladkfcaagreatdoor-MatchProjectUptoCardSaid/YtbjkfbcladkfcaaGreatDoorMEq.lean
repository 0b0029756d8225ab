/- What slices.Equal answers of two slices of bytes. -/
import Derived.Test.YtbjkfbcladkfcaaGreatDoorMFacts
set_option linter.unusedSimpArgs false
set_option linter.unusedVariables false
namespace Go.Proofs.YtbjkfbcladkfcaaGreatDoor
open Go Go.Am
set_option maxRecDepth 100000

theorem tf20 : tab.func 20 = some Tryz.f20 := by kernel_rfl
theorem certs20 : certs 20 6 = some [0, 0, 3, 7, 0, 0, 48, 112, 255] := by kernel_rfl

noncomputable def eq20 (n : Nat) : Code := match Tryz.f20.body with
  | some (.seq a (.seq b (.seq (.seq c (.block 0 (.loop d))) (.seq e .ret)))) => if n = 0 then a else if n = 1 then b else if n = 2 then c else if n = 3 then d else e
  | _ => .skip
theorem body20 : Tryz.f20.body = some (.seq (eq20 0) (.seq (eq20 1) (.seq (.seq (eq20 2) (.block 0 (.loop (eq20 3)))) (.seq (eq20 4) .ret)))) := by kernel_rfl

theorem env_leaf (t : Nat) : Env.get (.leaf : Env) t = none := PT.get_leaf _
def eA (x y : AV) : Env := Env.put (Env.put (Env.put .leaf 0 x) 1 y) 4 (.bool false)
def eL (x y : AV) (n i : Int) : Env := Env.put (Env.put (eA x y) 12 (.int .i64 n)) 13 (.int .i64 i)
theorem upN_eq (s : St heapPT) (k : Nat) : ({ h := s.h, next := s.next + k } : St heapPT) = upN s k := rfl

theorem wrap_succ {i : Nat} (h : i + 1 < 2 ^ 63) : IntKind.i64.wrap ((i : Int) + 1) = ((i + 1 : Nat) : Int) := by
  unfold IntKind.wrap
  simp [IntKind.bits, IntKind.signed]
  omega

theorem eq_round (callee : Go.Am.Callee heapPT) (fuel : Nat) (cs1 cs2 : List AV) (o1 o2 n i c1 c2 : Nat) (x1 x2 : Bool) (u : UInt8) (s : St heapPT) (hi : i < n) (hn : n < 2 ^ 63) (h1 : cs1[o1 + i]? = some (.int .u8 (u.toNat : Int))) (h2 : cs2[o2 + i]? = some (.int .u8 (u.toNat : Int))) :
    ∃ env1, evCode Tryz.prog tab callee 26 (certs 20) fuel (eq20 3) (eL (.fsl cs1 o1 1 n c1 x1) (.fsl cs2 o2 1 n c2 x2) n i) s = some (.normal, env1, upN s 9) ∧ (eL (.fsl cs1 o1 1 n c1 x1) (.fsl cs2 o2 1 n c2 x2) n (i + 1 : Nat)).le env1 := by
  have hlt : ltI (i : Int) (n : Int) = true := by rw [ltI_eq]; simpa using hi
  have he : eqI (u.toNat : Int) (u.toNat : Int) = true := by rw [u8_eq.2]; simp
  have hw := wrap_succ (i := i) (by omega)
  refine ⟨_, by simp [eq20, Tryz.f20, evCode, evRegion, evOps, evOp, opd, dstOk, wantedA, Env.putO, env_get_put, env_leaf, eL, eA, ofV, intOp, isShift, hlt, he, hw, certs20, evDraw, runD, stepD, clsOf, indexAddrV, und27, sz5, ag5, loadV, readV, hi, h1, h2, readsBack, commit, upN_eq]; first | exact ⟨rfl, rfl⟩ | exact rfl, fun t v h => ?_⟩
  simp only [eL, eA, env_get_put, env_leaf] at h ⊢
  repeat (split at h; · (rename_i e; subst e; cases h; simp; done))
  cases h

theorem eq_differs (callee : Go.Am.Callee heapPT) (fuel : Nat) (cs1 cs2 : List AV) (o1 o2 n i c1 c2 : Nat) (x1 x2 : Bool) (u v : UInt8) (huv : u ≠ v) (s : St heapPT) (hi : i < n) (h1 : cs1[o1 + i]? = some (.int .u8 (u.toNat : Int))) (h2 : cs2[o2 + i]? = some (.int .u8 (v.toNat : Int))) :
    ∃ env1, evCode Tryz.prog tab callee 26 (certs 20) fuel (eq20 3) (eL (.fsl cs1 o1 1 n c1 x1) (.fsl cs2 o2 1 n c2 x2) n i) s = some (.ret, env1, upN s 9) ∧ (Env.put .leaf 4 (.bool false)).le env1 := by
  have hlt : ltI (i : Int) (n : Int) = true := by rw [ltI_eq]; simpa using hi
  have he : eqI (u.toNat : Int) (v.toNat : Int) = false := by rw [u8_eq.2]; simp [huv]
  refine ⟨_, by simp [eq20, Tryz.f20, evCode, evRegion, evOps, evOp, opd, dstOk, wantedA, Env.putO, env_get_put, env_leaf, eL, eA, ofV, intOp, isShift, hlt, he, certs20, evDraw, runD, stepD, clsOf, indexAddrV, und27, sz5, ag5, loadV, readV, hi, h1, h2, readsBack, commit, upN_eq]; first | exact ⟨rfl, rfl⟩ | exact rfl, fun t v h => ?_⟩
  simp only [env_get_put, env_leaf] at h ⊢
  repeat (split at h; · (rename_i e; subst e; cases h; simp; done))
  cases h

theorem eq_end (callee : Go.Am.Callee heapPT) (fuel : Nat) (B1 B2 : AV) (n : Nat) (s : St heapPT) :
    ∃ env1, evCode Tryz.prog tab callee 26 (certs 20) fuel (eq20 3) (eL B1 B2 n n) s = some (.exit 0, env1, s) := by
  have hlt : ltI (n : Int) (n : Int) = false := by rw [ltI_eq]; simp
  exact ⟨_, by simp [eq20, Tryz.f20, evCode, evRegion, evOps, evOp, opd, dstOk, wantedA, Env.putO, env_get_put, env_leaf, eL, eA, ofV, intOp, isShift, hlt]; exact rfl⟩

theorem eq_start (callee : Go.Am.Callee heapPT) (fuel : Nat) (B1 B2 : AV) (s : St heapPT) :
    ∃ env1, evCode Tryz.prog tab callee 26 (certs 20) fuel (eq20 0) (argsEnv [B1, B2]) s = some (.normal, env1, s) ∧ (eA B1 B2).le env1 := by
  refine ⟨_, by simp [eq20, Tryz.f20, evCode, evRegion, evOps, evOp, opd, dstOk, wantedA, Env.putO, env_get_put, args_get, ofV]; exact rfl, fun t v h => ?_⟩
  simp only [eA, env_get_put, env_leaf] at h ⊢
  repeat (split at h; · (rename_i e; subst e; cases h; simp [args_get]; done))
  cases h

theorem eq_lens (callee : Go.Am.Callee heapPT) (fuel : Nat) (B1 B2 : AV) (n : Nat) (h1 : sliceLen B1 = some n) (h2 : sliceLen B2 = some n) (s : St heapPT) :
    ∃ env1, evCode Tryz.prog tab callee 26 (certs 20) fuel (eq20 1) (eA B1 B2) s = some (.normal, env1, s) ∧ (eA B1 B2).le env1 := by
  have he : eqI (n : Int) (n : Int) = true := by rw [eqI_eq]; simp
  refine ⟨_, by simp [eq20, Tryz.f20, evCode, evRegion, evOps, evOp, opd, dstOk, wantedA, Env.putO, env_get_put, env_leaf, eA, ofV, evCall, evList, evBuiltin, und27, h1, h2, intOp, isShift, he]; exact rfl, fun t v h => ?_⟩
  simp only [eA, env_get_put, env_leaf] at h ⊢
  repeat (split at h; · (rename_i e; subst e; cases h; simp; done))
  cases h

theorem eq_lens_not (callee : Go.Am.Callee heapPT) (fuel : Nat) (B1 B2 : AV) (n m : Nat) (hnm : n ≠ m) (h1 : sliceLen B1 = some n) (h2 : sliceLen B2 = some m) (s : St heapPT) :
    ∃ env1, evCode Tryz.prog tab callee 26 (certs 20) fuel (eq20 1) (eA B1 B2) s = some (.ret, env1, s) ∧ (Env.put .leaf 4 (.bool false)).le env1 := by
  have he : eqI (n : Int) (m : Int) = false := by rw [eqI_eq, beq_eq_false_iff_ne]; intro e; exact hnm (by omega)
  refine ⟨_, by simp [eq20, Tryz.f20, evCode, evRegion, evOps, evOp, opd, dstOk, wantedA, Env.putO, env_get_put, env_leaf, eA, ofV, evCall, evList, evBuiltin, und27, h1, h2, intOp, isShift, he]; exact rfl, fun t v h => ?_⟩
  simp only [eA, env_get_put, env_leaf] at h ⊢
  repeat (split at h; · (rename_i e; subst e; cases h; simp; done))
  cases h

theorem eq_first (callee : Go.Am.Callee heapPT) (fuel : Nat) (B1 B2 : AV) (n : Nat) (h1 : sliceLen B1 = some n) (s : St heapPT) :
    ∃ env1, evCode Tryz.prog tab callee 26 (certs 20) fuel (eq20 2) (eA B1 B2) s = some (.normal, env1, s) ∧ (eL B1 B2 n 0).le env1 := by
  refine ⟨_, by simp [eq20, Tryz.f20, evCode, evRegion, evOps, evOp, opd, dstOk, wantedA, Env.putO, env_get_put, env_leaf, eA, ofV, evCall, evList, evBuiltin, und27, h1]; exact rfl, fun t v h => ?_⟩
  simp only [eL, eA, env_get_put, env_leaf] at h ⊢
  repeat (split at h; · (rename_i e; subst e; cases h; simp; done))
  cases h

theorem eq_true (callee : Go.Am.Callee heapPT) (fuel : Nat) (env : Env) (s : St heapPT) :
    ∃ env1, evCode Tryz.prog tab callee 26 (certs 20) fuel (eq20 4) env s = some (.normal, env1, s) ∧ (Env.put .leaf 4 (.bool true)).le env1 := by
  refine ⟨_, by simp [eq20, Tryz.f20, evCode, evRegion, evOps, evOp, opd, dstOk, wantedA, Env.putO, ofV]; exact rfl, fun t v h => ?_⟩
  simp only [env_get_put, env_leaf] at h ⊢
  repeat (split at h; · (rename_i e; subst e; cases h; simp; done))
  cases h

theorem reg20 : regsOk (certs 20) (eq20 0) = true ∧ regsOk (certs 20) (eq20 1) = true ∧ regsOk (certs 20) (eq20 2) = true ∧ regsOk (certs 20) (eq20 3) = true ∧ regsOk (certs 20) (eq20 4) = true :=
  ⟨by kernel_rfl, by kernel_rfl, by kernel_rfl, by kernel_rfl, by kernel_rfl⟩

/-- slices.Equal: whether the bytes are the same. -/
theorem equal_runs {callee : Go.Am.Callee heapPT} (hc : CalleeOK Tryz.prog callee) {B1 B2 : AV} {b1 b2 : List UInt8} (h1 : IsBytes B1 b1) (h2 : IsBytes B2 b2) (s : St heapPT) :
    Runs Tryz.prog 26 (.seq (eq20 0) (.seq (eq20 1) (.seq (.seq (eq20 2) (.block 0 (.loop (eq20 3)))) (.seq (eq20 4) .ret)))) (argsEnv [B1, B2]) s .ret (Env.put .leaf 4 (.bool (decide (b1 = b2)))) (upN s (9 * b1.length + 9)) := by
  obtain ⟨g0, g1, g2, g3, g4⟩ := reg20
  have l1 := h1.len
  have l2 := h2.len
  obtain ⟨hb, h1⟩ := h1
  obtain ⟨_, h2⟩ := h2
  obtain ⟨_, q0, k0⟩ := eq_start callee 100000 B1 B2 s
  refine Runs.seq (Runs.ev tabOk hc mixed g0 q0 k0) ?_
  by_cases hl : b1.length = b2.length
  · rw [← hl] at l2
    obtain ⟨_, q1, k1⟩ := eq_lens callee 100000 B1 B2 _ l1 l2 s
    obtain ⟨_, q2, k2⟩ := eq_first callee 100000 B1 B2 _ l1 s
    refine Runs.seq (Runs.ev tabOk hc mixed g1 q1 k1) ?_
    have round : ∀ (k i : Nat), i < k → k ≤ b1.length → (∀ j, j < k → b1[j]? = b2[j]?) → Runs Tryz.prog 26 (eq20 3) (eL B1 B2 b1.length i) (upN s (9 * i)) .normal (eL B1 B2 b1.length (i + 1 : Nat)) (upN s (9 * (i + 1))) := by
      intro k i hi hk hsame
      rcases h1 with ⟨rfl, rfl⟩ | ⟨cs1, o1, c1, x1, rfl, m1⟩
      · simp at hk; omega
      · rcases h2 with ⟨rfl, rfl⟩ | ⟨cs2, o2, c2, x2, rfl, m2⟩
        · simp only [List.length_nil] at hl; omega
        · have hget : ∃ u, b1[i]? = some u := ⟨b1[i]'(by omega), by simp [show i < b1.length by omega]⟩
          obtain ⟨u, hu⟩ := hget
          have hv : b2[i]? = some u := by rw [← hsame i hi]; exact hu
          rw [← hl]
          obtain ⟨_, q, kq⟩ := eq_round callee 100000 cs1 cs2 o1 o2 b1.length i c1 c2 x1 x2 u (upN s (9 * i)) (by omega) hb (m1 i u hu) (m2 i u hv)
          rw [upN_up] at q
          exact Runs.ev tabOk hc mixed g3 q kq
    rcases first_diff b1 b2 hl with rfl | ⟨i, u, v, hu, hv, huv, hsame⟩
    · obtain ⟨_, q3⟩ := eq_end callee 100000 B1 B2 b1.length (upN s (9 * b1.length))
      obtain ⟨_, q4, k4⟩ := eq_true callee 100000 (eL B1 B2 b1.length b1.length) (upN s (9 * b1.length))
      rw [decide_eq_true rfl]
      refine Runs.more (s' := upN s (9 * b1.length)) ?_ (by simp [upN])
      refine Runs.seq (Runs.seq (Runs.ev tabOk hc mixed g2 q2 k2) (Runs.block (x := .exit 0) (Runs.loop (fun i : Nat => eL B1 B2 b1.length i) (fun i => upN s (9 * i)) (n := b1.length) (by intro e; cases e) (fun i hi => round b1.length i hi (Nat.le_refl _) (fun _ _ => rfl)) (Runs.ev tabOk hc mixed g3 q3 (Env.le.refl _))))) ?_
      refine Runs.less ?_ (e1 := .leaf) (fun t v h => by rw [env_leaf] at h; cases h) (Env.le.refl _)
      obtain ⟨_, q4, k4⟩ := eq_true callee 100000 .leaf (upN s (9 * b1.length))
      exact Runs.seq (Runs.ev tabOk hc mixed g4 q4 k4) (Runs.ev (cert := certs 20) (fuel := 0) tabOk hc mixed rfl (by simp [evCode]) (Env.le.refl _))
    · have hil : i < b1.length := (List.getElem?_eq_some_iff.1 hu).1
      have hne : b1 ≠ b2 := fun e => huv (by rw [e] at hu; rw [hu] at hv; exact Option.some.inj hv)
      rw [decide_eq_false hne]
      have leave : ∃ env1, evCode Tryz.prog tab callee 26 (certs 20) 100000 (eq20 3) (eL B1 B2 b1.length i) (upN s (9 * i)) = some (.ret, env1, upN (upN s (9 * i)) 9) ∧ (Env.put .leaf 4 (.bool false)).le env1 := by
        rcases h1 with ⟨rfl, rfl⟩ | ⟨cs1, o1, c1, x1, rfl, m1⟩
        · simp at hil
        · rcases h2 with ⟨rfl, rfl⟩ | ⟨cs2, o2, c2, x2, rfl, m2⟩
          · simp only [List.length_nil] at hl; omega
          · rw [← hl]
            exact eq_differs callee 100000 cs1 cs2 o1 o2 b1.length i c1 c2 x1 x2 u v huv (upN s (9 * i)) hil (m1 i u hu) (m2 i v hv)
      obtain ⟨_, q3, k3⟩ := leave
      refine Runs.more (s' := upN (upN s (9 * i)) 9) ?_ (by simp [upN]; omega)
      refine Runs.seqOut (by intro e; cases e) (Runs.seq (Runs.ev tabOk hc mixed g2 q2 k2) (Runs.block (x := .ret) (Runs.loop (fun i : Nat => eL B1 B2 b1.length i) (fun i => upN s (9 * i)) (n := i) (by intro e; cases e) (fun j hj => round i j hj (by omega) hsame) (Runs.ev tabOk hc mixed g3 q3 k3))))
  · obtain ⟨_, q1, k1⟩ := eq_lens_not callee 100000 B1 B2 _ _ hl l1 l2 s
    rw [decide_eq_false (fun e => hl (by rw [e]))]
    refine Runs.more (s' := s) ?_ (by simp [upN])
    exact Runs.seqOut (by intro e; cases e) (Runs.ev tabOk hc mixed g1 q1 k1)

open Classical in
/-- What slices.Equal answers, as a callee. -/
noncomputable def cEq : Go.Am.Callee heapPT := fun f args s =>
  match f, args with
  | 20, [B1, B2] => if h : ∃ b1 b2, IsBytes B1 b1 ∧ IsBytes B2 b2 then some (.bool (decide (h.choose = h.choose_spec.choose)), upN s (9 * h.choose.length + 9)) else none
  | _, _ => none

theorem cEq_ok : CalleeOK Tryz.prog cEq := by
  intro f args s v s' h ι w vs hr hs
  unfold cEq at h
  split at h
  · rename_i B1 B2
    split at h
    · rename_i hb
      simp only [Option.some.injEq, Prod.mk.injEq] at h
      obtain ⟨rfl, rfl⟩ := h
      obtain ⟨h1, h2⟩ := hb.choose_spec.choose_spec
      have hrun := equal_runs none_ok h1 h2 s
      have := Runs.call (rs := [.bool (decide (hb.choose = hb.choose_spec.choose))]) tabOk tf20 body20 (args := [B1, B2]) (Nat.le_of_ble_eq_true (by kernel_rfl)) (.inr rfl) hrun (by rw [show Tryz.f20.results.toList = [.tmp 4] by kernel_rfl]; simp [resA, env_get_put]) hr hs
      simpa [Am.single] using this
    · cases h
  · cases h

theorem cEq_eq {B1 B2 : AV} {b1 b2 : List UInt8} (h1 : IsBytes B1 b1) (h2 : IsBytes B2 b2) (s : St heapPT) : cEq 20 [B1, B2] s = some (.bool (decide (b1 = b2)), upN s (9 * b1.length + 9)) := by
  have hb : ∃ b1 b2, IsBytes B1 b1 ∧ IsBytes B2 b2 := ⟨b1, b2, h1, h2⟩
  simp only [cEq]
  rw [dif_pos hb]
  obtain ⟨k1, k2⟩ := hb.choose_spec.choose_spec
  have e1 := k1.one h1
  have e2 := k2.one h2
  rw [e2]
  simp only [e1]
end Go.Proofs.YtbjkfbcladkfcaaGreatDoor
