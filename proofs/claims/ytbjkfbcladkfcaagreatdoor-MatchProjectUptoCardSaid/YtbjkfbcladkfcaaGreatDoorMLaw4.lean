/- MatchSame answers true, whatever the two lists. -/
import Derived.Test.YtbjkfbcladkfcaaGreatDoorMRef
import Derived.Test.YtbjkfbcladkfcaaGreatDoorAmShown
set_option linter.unusedSimpArgs false
set_option linter.unusedVariables false
namespace Go.Proofs.YtbjkfbcladkfcaaGreatDoor
open Go Go.Am
set_option maxRecDepth 100000

theorem tf4 : tab.func 4 = some Tryz.f4 := by kernel_rfl
theorem tf6 : tab.func 6 = some Tryz.f6 := by kernel_rfl
theorem evB_bool (x y : Operand) (a b : Bool) : evB Tryz.prog .eql 4 x y (.bool a) (.bool b) = some (.bool (a == b)) := by
  cases a <;> cases b <;> kernel_rfl

theorem pure6 : Pure Tryz.prog heapPT 6 [] (.bool true) := fun s => ⟨0, Sound.ev (cShown_ok none_ok) rfl⟩

/-- What the law calls, by what the lists hold. -/
noncomputable def V4 : FuncId → List AV → Option AV := fun f args => match args with
  | [] => if f = 6 then some (.bool true) else none
  | [A, B] => if f = 10 ∨ f = 8 then match rowsOf A, rowsOf B with
      | some L, some M => some (.bool (sameL L M))
      | _, _ => none
    else none
  | _ => none

noncomputable def R4 : Array Oper := match cd Tryz.f4 [1, 1, 0] with
  | .region _ ops _ => ops
  | _ => #[]
theorem R4_eq : cd Tryz.f4 [1, 1, 0] = .region 3 R4 false := by kernel_rfl
theorem R4_len : R4.toList.length = 22 := by kernel_rfl
def Part4 (a n : Nat) (e : Env) (s : St heapPT) (L' : List (Nat × AV)) (s' : St heapPT) : Prop :=
  ∃ e', evOps Tryz.prog tab (cSpec Tryz.prog (pureD V4)) 28 R4 ((R4.toList.drop a).take n) e s = some (e', s') ∧ Has e' L'

theorem law4 {A B : AV} {L M : List Row4} (h1 : IsRows A L) (h2 : IsRows B M) : Pure Tryz.prog heapPT 4 [A, B] (.bool true) := by
  refine SoundP.pure fun s => ?_
  have hcal := cSpec_ok (P := Tryz.prog) (HI := heapPT) (pureD V4)
  obtain ⟨k6, h6⟩ := pure_call (T := tab) (HI := heapPT) (V := V4) (f := 6) (by rw [tf6]; rfl) (args := []) rfl pure6
  have v {A B : AV} {L M : List Row4} (f : Nat) (hf : f = 10 ∨ f = 8) (h1 : IsRows A L) (h2 : IsRows B M) : V4 f [A, B] = some (.bool (sameL L M)) := by
    simp only [V4, if_pos hf, rowsOf_eq h1, rowsOf_eq h2]
  obtain ⟨ka, ha⟩ := pure_call (T := tab) (HI := heapPT) (V := V4) (f := 10) (by rw [tf10]; rfl) (v 10 (.inl rfl) h1 h2) (pure10 h1 h2)
  obtain ⟨kb, hb⟩ := pure_call (T := tab) (HI := heapPT) (V := V4) (f := 8) (by rw [tf8]; rfl) (v 8 (.inr rfl) h1 h2) (pure8 h1 h2)
  obtain ⟨kc, hc⟩ := pure_call (T := tab) (HI := heapPT) (V := V4) (f := 10) (by rw [tf10]; rfl) (v 10 (.inl rfl) h2 h1) (pure10 h2 h1)
  obtain ⟨kd, hd⟩ := pure_call (T := tab) (HI := heapPT) (V := V4) (f := 10) (by rw [tf10]; rfl) (v 10 (.inl rfl) h1 h1) (pure10 h1 h1)
  rw [sameL_comm M L] at hc
  rw [sameL_refl] at hd
  refine RunP.sound (rs := [.bool true]) tabOk tf4 (c := .seq (cd Tryz.f4 [0]) (.seq (cd Tryz.f4 [1, 0]) (.seq (cd Tryz.f4 [1, 1, 0]) .ret))) (by kernel_rfl) (Nat.le_of_ble_eq_true (by kernel_rfl)) (L := [(4, .bool true)]) (.inr rfl) ?_ (fun k => by rw [show Tryz.f4.results.toList = [.tmp 4] by kernel_rfl]; simp [resA, mk_cons])
  refine RunP.seq (L2 := [(4, .bool false), (0, A), (1, B)]) (s2 := s) (RunP.ev (cert := certs 4) (fuel := 0) tabOk hcal mixed (by kernel_rfl) fun k0 hw => ⟨_, ⟨_, by simp [evCode, evRegion, evOps, evOp, opd, dstOk, wantedA, Env.putO, env_get_put, mk_cons, mk_nil, ofV, ofVa, ofVs, intOp, isShift, evDraw, runD, stepD, clsOf, readsBack, reads1, AV.beq_self, commit, loadV_h, storeV, setAll, cells_agg, single_bool, cells_bool, single_int, cells_int, single_string, cells_string, single_nptr, cells_nptr, single_hptr, cells_hptr, single_fptr, cells_fptr, single_nsl, cells_nsl, single_hsl, cells_hsl, single_fsl, cells_fsl, single_nmap, cells_nmap, single_map, cells_map, single_func, cells_func, single_nfunc, cells_nfunc, single_iface, cells_iface, single_niface, cells_niface, St.cells, St.get_new, St.get_put, mk_get, evCall, evList, evBuiltin, sliceLen_n, sliceLen_h, sliceLen_f, nilEq, sub, numbered, upN_get, upN_next, upN_cells, readV, Tryz.f4, cd,  sz3, ag3, z3, und3, sz4, ag4, z4, und4, sz22, ag22, z22, und22]; first | with_reducible exact ⟨rfl, rfl⟩ | with_reducible exact rfl, by simp [Has, env_get_put, mk_cons, mk_nil, numbered, Tryz.f4, cd,  sz3, ag3, z3, und3, sz4, ag4, z4, und4, sz22, ag22, z22, und22]⟩, (by have hbl := hw.below; repeat' (first | exact Sub.refl _ | exact Sub.up (Sub.refl _) _ | refine Sub.new hbl ?_ ?_ _ | refine Sub.put hbl ?_ ?_ _ | refine Sub.up ?_ _ | refine Sub.mk ?_ _ | (simp; done) | (simp; omega)))⟩) ?_
  refine RunP.seq (L2 := [(4, .bool false), (0, A), (1, B)]) (s2 := s) (RunP.ev (cert := certs 4) (fuel := 0) tabOk hcal mixed (by kernel_rfl) fun k0 hw => ⟨_, ⟨_, by simp [evCode, evRegion, evOps, evOp, opd, dstOk, wantedA, Env.putO, env_get_put, mk_cons, mk_nil, ofV, ofVa, ofVs, intOp, isShift, evDraw, runD, stepD, clsOf, readsBack, reads1, AV.beq_self, commit, loadV_h, storeV, setAll, cells_agg, single_bool, cells_bool, single_int, cells_int, single_string, cells_string, single_nptr, cells_nptr, single_hptr, cells_hptr, single_fptr, cells_fptr, single_nsl, cells_nsl, single_hsl, cells_hsl, single_fsl, cells_fsl, single_nmap, cells_nmap, single_map, cells_map, single_func, cells_func, single_nfunc, cells_nfunc, single_iface, cells_iface, single_niface, cells_niface, St.cells, St.get_new, St.get_put, mk_get, evCall, evList, evBuiltin, sliceLen_n, sliceLen_h, sliceLen_f, nilEq, sub, numbered, upN_get, upN_next, upN_cells, readV, Tryz.f4, cd,  h6, sz3, ag3, z3, und3, sz4, ag4, z4, und4, sz22, ag22, z22, und22]; first | with_reducible exact ⟨rfl, rfl⟩ | with_reducible exact rfl, by simp [Has, env_get_put, mk_cons, mk_nil, numbered, Tryz.f4, cd,  h6, sz3, ag3, z3, und3, sz4, ag4, z4, und4, sz22, ag22, z22, und22]⟩, (by have hbl := hw.below; repeat' (first | exact Sub.refl _ | exact Sub.up (Sub.refl _) _ | refine Sub.new hbl ?_ ?_ _ | refine Sub.put hbl ?_ ?_ _ | refine Sub.up ?_ _ | refine Sub.mk ?_ _ | (simp; done) | (simp; omega)))⟩) ?_
  refine RunP.seq (L2 := [(4, .bool true)]) (s2 := s) ?_ RunP.ret
  refine RunP.plain tabOk hcal mixed R4_eq fun k0 hw => ?_
  have c1 : ∀ {e : Env} {s : St heapPT}, e.get 0 = some A → e.get 1 = some B → ∃ k, Part4 0 8 e s [(14, .bool true), (0, A), (1, B)] (upN s k) := fun {e} {s} g0 g1 =>
    ⟨_, _, by simp [evCode, evRegion, evOps, evOp, opd, dstOk, wantedA, Env.putO, env_get_put, mk_cons, mk_nil, ofV, ofVa, ofVs, intOp, isShift, evDraw, runD, stepD, clsOf, readsBack, reads1, AV.beq_self, commit, loadV_h, storeV, setAll, cells_agg, single_bool, cells_bool, single_int, cells_int, single_string, cells_string, single_nptr, cells_nptr, single_hptr, cells_hptr, single_fptr, cells_fptr, single_nsl, cells_nsl, single_hsl, cells_hsl, single_fsl, cells_fsl, single_nmap, cells_nmap, single_map, cells_map, single_func, cells_func, single_nfunc, cells_nfunc, single_iface, cells_iface, single_niface, cells_niface, St.cells, St.get_new, St.get_put, mk_get, evCall, evList, evBuiltin, sliceLen_n, sliceLen_h, sliceLen_f, nilEq, sub, numbered, upN_get, upN_next, upN_cells, readV, R4, cd, Tryz.f4, g0, g1, ha, hb, evQ_evB, evB_bool, upN_up, sz3, ag3, z3, und3, sz4, ag4, z4, und4, sz22, ag22, z22, und22]; first | with_reducible exact ⟨rfl, rfl⟩ | with_reducible exact rfl, by simp [Has, env_get_put, g0, g1]⟩
  have c2 : ∀ {e : Env} {s : St heapPT}, e.get 0 = some A → e.get 1 = some B → e.get 14 = some (.bool true) → ∃ k, Part4 8 9 e s [(23, .bool true), (0, A), (1, B)] (upN s k) := fun {e} {s} g0 g1 g14 =>
    ⟨_, _, by simp [evCode, evRegion, evOps, evOp, opd, dstOk, wantedA, Env.putO, env_get_put, mk_cons, mk_nil, ofV, ofVa, ofVs, intOp, isShift, evDraw, runD, stepD, clsOf, readsBack, reads1, AV.beq_self, commit, loadV_h, storeV, setAll, cells_agg, single_bool, cells_bool, single_int, cells_int, single_string, cells_string, single_nptr, cells_nptr, single_hptr, cells_hptr, single_fptr, cells_fptr, single_nsl, cells_nsl, single_hsl, cells_hsl, single_fsl, cells_fsl, single_nmap, cells_nmap, single_map, cells_map, single_func, cells_func, single_nfunc, cells_nfunc, single_iface, cells_iface, single_niface, cells_niface, St.cells, St.get_new, St.get_put, mk_get, evCall, evList, evBuiltin, sliceLen_n, sliceLen_h, sliceLen_f, nilEq, sub, numbered, upN_get, upN_next, upN_cells, readV, R4, cd, Tryz.f4, g0, g1, g14, ha, hc, evQ_evB, evB_bool, upN_up, sz3, ag3, z3, und3, sz4, ag4, z4, und4, sz22, ag22, z22, und22]; first | with_reducible exact ⟨rfl, rfl⟩ | with_reducible exact rfl, by simp [Has, env_get_put, g0, g1]⟩
  have c3 : ∀ {e : Env} {s : St heapPT}, e.get 0 = some A → e.get 1 = some B → e.get 23 = some (.bool true) → ∃ k, Part4 17 5 e s [(4, .bool true)] (upN s k) := fun {e} {s} g0 g1 g14 =>
    ⟨_, _, by simp [evCode, evRegion, evOps, evOp, opd, dstOk, wantedA, Env.putO, env_get_put, mk_cons, mk_nil, ofV, ofVa, ofVs, intOp, isShift, evDraw, runD, stepD, clsOf, readsBack, reads1, AV.beq_self, commit, loadV_h, storeV, setAll, cells_agg, single_bool, cells_bool, single_int, cells_int, single_string, cells_string, single_nptr, cells_nptr, single_hptr, cells_hptr, single_fptr, cells_fptr, single_nsl, cells_nsl, single_hsl, cells_hsl, single_fsl, cells_fsl, single_nmap, cells_nmap, single_map, cells_map, single_func, cells_func, single_nfunc, cells_nfunc, single_iface, cells_iface, single_niface, cells_niface, St.cells, St.get_new, St.get_put, mk_get, evCall, evList, evBuiltin, sliceLen_n, sliceLen_h, sliceLen_f, nilEq, sub, numbered, upN_get, upN_next, upN_cells, readV, R4, cd, Tryz.f4, g0, g1, g14, hd, evQ_evB, evB_bool, upN_up, sz3, ag3, z3, und3, sz4, ag4, z4, und4, sz22, ag22, z22, und22]; first | with_reducible exact ⟨rfl, rfl⟩ | with_reducible exact rfl, by simp [Has, env_get_put, g0, g1]⟩
  obtain ⟨l1, e1, q1, a0, a1, a2, _⟩ := c1 (e := mk [(4, .bool false), (0, A), (1, B)]) (s := upN s k0) (by simp [mk_cons]) (by simp [mk_cons])
  obtain ⟨l2, e2, q2, b0, b1, b2, _⟩ := c2 (s := upN (upN s k0) l1) a1 a2 a0
  obtain ⟨l3, e3, q3, c0, _⟩ := c3 (s := upN (upN (upN s k0) l1) l2) b1 b2 b0
  rw [List.drop_zero] at q1
  have qq := evOps_split 8 _ _ _ _ _ q1
  rw [evOps_split 9 _ _ _ _ _ q2, List.drop_drop, evOps_split 5 _ _ _ _ _ q3, List.drop_drop, List.drop_eq_nil_of_le (by rw [R4_len]; decide)] at qq
  exact ⟨e3, _, qq, ⟨c0, trivial⟩, Sub.up (Sub.up (Sub.up (Sub.up (Sub.refl _) _) _) _) _⟩
end Go.Proofs.YtbjkfbcladkfcaaGreatDoor
