/- The rows for one peer and one source: the loops of For and Project. -/
import Derived.Test.YtbjkfbcladkfcaaGreatDoorMRef
import Derived.Test.YtbjkfbcladkfcaaGreatDoorAmHoAll
import Derived.Test.YtbjkfbcladkfcaaGreatDoorMLaw4
set_option linter.unusedSimpArgs false
set_option linter.unusedVariables false
namespace Go.Proofs.YtbjkfbcladkfcaaGreatDoor
open Go Go.Am
set_option maxRecDepth 100000
def ePr (A : AV) (p q : Int) (n i : Nat) (O : AV) : List (Nat × AV) := [(1, .int .i64 p), (2, .int .i64 q), (7, O), (10, A), (11, .int .i64 n), (12, .int .i64 i)]
/-- What the slice holds that is being made. -/
def OutIs (s : St heapPT) (acc : List Row4) (O : AV) (t : St heapPT) : Prop :=
  (acc = [] ∧ O = .nsl ∧ ∃ k, t = upN s k) ∨ (acc ≠ [] ∧ ∃ b n, s.next ≤ b ∧ b < n ∧ O = .hsl b 0 4 acc.length acc.length false ∧ t = with1 s b (.cells (flat acc)) n)
theorem OutIs.up {s : St heapPT} {acc : List Row4} {O : AV} {t : St heapPT} (h : OutIs s acc O t) (k : Nat) : OutIs s acc O (upN t k) := by
  rcases h with ⟨h1, h2, k0, rfl⟩ | ⟨h1, b, n, h2, h3, h4, rfl⟩
  · exact .inl ⟨h1, h2, k0 + k, upN_up _ _ _⟩
  · exact .inr ⟨h1, b, n + k, h2, by omega, h4, rfl⟩
def IPr (s : St heapPT) (A : AV) (p q : Int) (n : Nat) (acc : List Row4) (i : Nat) : Cond heapPT := fun L' t => ∃ O, L' = ePr A p q n i O ∧ OutIs s acc O t
theorem filter_take {α : Type} (f : α → Bool) (l : List α) (i : Nat) (x : α) (h : l[i]? = some x) : (l.take (i + 1)).filter f = (l.take i).filter f ++ (if f x then [x] else []) := by
  rw [List.take_add_one, h, List.filter_append]
  simp only [Option.toList, List.filter_cons, List.filter_nil]

/-! ### For -/
theorem tf9 : tab.func 9 = some Tryz.f9 := by kernel_rfl
noncomputable def lb9 : Code := cd Tryz.f9 [1, 1, 0, 1, 0, 0]
theorem round9 {s : St heapPT} (hs : WF s) {cs : List AV} {o cap : Nat} {ex : Bool} {L : List Row4} (h1 : IsRows (.fsl cs o 4 L.length cap ex) L) (hlen : L.length ≤ 2 ^ 20) {p q : Int} {acc : List Row4} (hacc : acc.length ≤ 2 ^ 20) {i : Nat} {x : Row4} (hx : L[i]? = some x) :
    Hoare Tryz.prog Tryz.f9.ntmps lb9 (IPr s (.fsl cs o 4 L.length cap ex) p q L.length acc i) .normal (IPr s (.fsl cs o 4 L.length cap ex) p q L.length (acc ++ (if selRow p q x then [x] else [])) (i + 1)) := by
  have hi := (List.getElem?_eq_some_iff.1 hx).1
  have hB := h1.1.2 x (List.mem_of_getElem? hx)
  have sx := hB.single
  have ra := (h1.at (HI := heapPT) ag29 sz29 ag3 ag27 hx).all
  have hlt := ltI_cast hi
  have hw1 := wrap_one (i := i) (by omega)
  have hg : growOk tab 29 1 = true := growOk_of gp29 (by omega)
  have hg2 : growOk tab 29 (acc.length + 1) = true := growOk_of gp29 (by omega)
  refine Hoare.ev (cert := certs 9) (fuel := 0) tabOk none_ok mixed (by kernel_rfl) ?_
  rintro _ t hw ⟨O, rfl, hO⟩
  cases e1 : eqI x.p p
  · have hsel : selRow p q x = false := by simp [selRow, e1]
    refine ⟨ePr (.fsl cs o 4 L.length cap ex) p q L.length (i + 1) O, _, upN t 1, ⟨_, by simp [evCode, evRegion, evOps, evOp, opd, dstOk, wantedA, Env.putO, env_get_put, mk_cons, mk_nil, ofV, ofVa, ofVs, intOp, isShift, evDraw, runD, stepD, clsOf, readsBack, reads1, AV.beq_self, commit, loadV_h, storeV, setAll, cells_agg, single_bool, cells_bool, single_int, cells_int, single_string, cells_string, single_nptr, cells_nptr, single_hptr, cells_hptr, single_fptr, cells_fptr, single_nsl, cells_nsl, single_hsl, cells_hsl, single_fsl, cells_fsl, single_nmap, cells_nmap, single_map, cells_map, single_func, cells_func, single_nfunc, cells_nfunc, single_iface, cells_iface, single_niface, cells_niface, St.cells, St.get_new, St.get_put, mk_get, evCall, evList, evBuiltin, sliceLen_n, sliceLen_h, sliceLen_f, nilEq, sub, numbered, upN_get, upN_next, upN_cells, readV, Tryz.f9, lb9, cd, ePr, hlt, hi, indexAddrV, ra, sx, hw1, e1, sz3, ag3, z3, und3, sz4, ag4, z4, und4, sz22, ag22, z22, und22, sz27, ag27, z27, und27, sz29, ag29, z29, und29, fa29, fl29_0, sp29_0, fl29_1, sp29_1, fl29_2, sp29_2, fl29_3, sp29_3]; first | with_reducible exact ⟨rfl, rfl⟩ | with_reducible exact rfl, by simp [Has, env_get_put, mk_cons, mk_nil, ePr]⟩, ?_, by simp, hw.up 1, O, rfl, ?_⟩
    · exact Sub.put hw.self (Sub.new hw.self (Sub.refl _) (Nat.le_refl _) _) (Nat.le_refl _) _
    · rw [hsel]; simpa using hO.up 1
  · cases e2 : eqI x.s q
    · have hsel : selRow p q x = false := by simp [selRow, e2]
      refine ⟨ePr (.fsl cs o 4 L.length cap ex) p q L.length (i + 1) O, _, upN t 1, ⟨_, by simp [evCode, evRegion, evOps, evOp, opd, dstOk, wantedA, Env.putO, env_get_put, mk_cons, mk_nil, ofV, ofVa, ofVs, intOp, isShift, evDraw, runD, stepD, clsOf, readsBack, reads1, AV.beq_self, commit, loadV_h, storeV, setAll, cells_agg, single_bool, cells_bool, single_int, cells_int, single_string, cells_string, single_nptr, cells_nptr, single_hptr, cells_hptr, single_fptr, cells_fptr, single_nsl, cells_nsl, single_hsl, cells_hsl, single_fsl, cells_fsl, single_nmap, cells_nmap, single_map, cells_map, single_func, cells_func, single_nfunc, cells_nfunc, single_iface, cells_iface, single_niface, cells_niface, St.cells, St.get_new, St.get_put, mk_get, evCall, evList, evBuiltin, sliceLen_n, sliceLen_h, sliceLen_f, nilEq, sub, numbered, upN_get, upN_next, upN_cells, readV, Tryz.f9, lb9, cd, ePr, hlt, hi, indexAddrV, ra, sx, hw1, e1, e2, sz3, ag3, z3, und3, sz4, ag4, z4, und4, sz22, ag22, z22, und22, sz27, ag27, z27, und27, sz29, ag29, z29, und29, fa29, fl29_0, sp29_0, fl29_1, sp29_1, fl29_2, sp29_2, fl29_3, sp29_3]; first | with_reducible exact ⟨rfl, rfl⟩ | with_reducible exact rfl, by simp [Has, env_get_put, mk_cons, mk_nil, ePr]⟩, ?_, by simp, hw.up 1, O, rfl, ?_⟩
      · exact Sub.put hw.self (Sub.new hw.self (Sub.refl _) (Nat.le_refl _) _) (Nat.le_refl _) _
      · rw [hsel]; simpa using hO.up 1
    · have hsel : selRow p q x = true := by simp [selRow, e1, e2]
      rw [hsel]
      rcases hO with ⟨rfl, rfl, k0, rfl⟩ | ⟨hne, b, n, hb1, hb2, rfl, rfl⟩
      · refine ⟨ePr (.fsl cs o 4 L.length cap ex) p q L.length (i + 1) (.hsl (s.next + k0 + 2) 0 4 1 1 false), _, with1 s (s.next + k0 + 2) (.cells (row4 x)) (s.next + k0 + 3), ⟨_, by simp [evCode, evRegion, evOps, evOp, opd, dstOk, wantedA, Env.putO, env_get_put, mk_cons, mk_nil, ofV, ofVa, ofVs, intOp, isShift, evDraw, runD, stepD, clsOf, readsBack, reads1, AV.beq_self, commit, loadV_h, storeV, setAll, cells_agg, single_bool, cells_bool, single_int, cells_int, single_string, cells_string, single_nptr, cells_nptr, single_hptr, cells_hptr, single_fptr, cells_fptr, single_nsl, cells_nsl, single_hsl, cells_hsl, single_fsl, cells_fsl, single_nmap, cells_nmap, single_map, cells_map, single_func, cells_func, single_nfunc, cells_nfunc, single_iface, cells_iface, single_niface, cells_niface, St.cells, St.get_new, St.get_put, mk_get, evCall, evList, evBuiltin, sliceLen_n, sliceLen_h, sliceLen_f, nilEq, sub, numbered, upN_get, upN_next, upN_cells, readV, Tryz.f9, lb9, cd, ePr, hlt, hi, indexAddrV, ra, sx, hw1, e1, e2, hg, appendV, appended, sliceCells, evParts, fillA, sz3, ag3, z3, und3, sz4, ag4, z4, und4, sz22, ag22, z22, und22, sz27, ag27, z27, und27, sz29, ag29, z29, und29, fa29, fl29_0, sp29_0, fl29_1, sp29_1, fl29_2, sp29_2, fl29_3, sp29_3]; first | with_reducible exact ⟨rfl, rfl⟩ | with_reducible exact rfl, by simp [Has, env_get_put, mk_cons, mk_nil, ePr]⟩, ?_, by simp, with1_wf hs (by omega) (by omega) _, _, rfl, ?_⟩
        · refine with1_sub (fun c y hc _ => ?_) ?_
          · have := hs.lt hc
            simp [St.get_new, St.get_put, hc, show c ≠ s.next + k0 by omega, show c ≠ s.next + k0 + 1 by omega, show c ≠ s.next + k0 + 1 + 1 by omega]
          · simp [St.get_new, St.get_put, row4]
        · exact .inr ⟨by simp, s.next + k0 + 2, s.next + k0 + 3, by omega, by omega, rfl, by simp [flat_one]⟩
      · have hl0 : acc.length ≠ 0 := fun e => hne (List.eq_nil_of_length_eq_zero e)
        refine ⟨ePr (.fsl cs o 4 L.length cap ex) p q L.length (i + 1) (.hsl (n + 2) 0 4 (acc.length + 1) (acc.length + 1) false), _, with1 s (n + 2) (.cells (flat acc ++ row4 x)) (n + 3), ⟨_, by simp [evCode, evRegion, evOps, evOp, opd, dstOk, wantedA, Env.putO, env_get_put, mk_cons, mk_nil, ofV, ofVa, ofVs, intOp, isShift, evDraw, runD, stepD, clsOf, readsBack, reads1, AV.beq_self, commit, loadV_h, storeV, setAll, cells_agg, single_bool, cells_bool, single_int, cells_int, single_string, cells_string, single_nptr, cells_nptr, single_hptr, cells_hptr, single_fptr, cells_fptr, single_nsl, cells_nsl, single_hsl, cells_hsl, single_fsl, cells_fsl, single_nmap, cells_nmap, single_map, cells_map, single_func, cells_func, single_nfunc, cells_nfunc, single_iface, cells_iface, single_niface, cells_niface, St.cells, St.get_new, St.get_put, mk_get, evCall, evList, evBuiltin, sliceLen_n, sliceLen_h, sliceLen_f, nilEq, sub, numbered, upN_get, upN_next, upN_cells, readV, Tryz.f9, lb9, cd, ePr, hlt, hi, indexAddrV, ra, sx, hw1, e1, e2, hg2, hl0, hne, appendV, appended, sliceCells, evParts, fillA, with1_get, show ¬ (acc.length + 1 ≤ acc.length) by omega, show b ≠ n by omega, show b ≠ n + 1 by omega, flat_take, flat_len, sz3, ag3, z3, und3, sz4, ag4, z4, und4, sz22, ag22, z22, und22, sz27, ag27, z27, und27, sz29, ag29, z29, und29, fa29, fl29_0, sp29_0, fl29_1, sp29_1, fl29_2, sp29_2, fl29_3, sp29_3]; first | with_reducible exact ⟨rfl, rfl⟩ | with_reducible exact rfl, by simp [Has, env_get_put, mk_cons, mk_nil, ePr]⟩, ?_, by simp, with1_wf hs (by omega) (by omega) _, _, rfl, ?_⟩
        · refine with1_sub (fun c y hc _ => ?_) ?_
          · have := hs.lt hc
            simp [St.get_new, St.get_put, with1_get, hc, show c ≠ b by omega, show c ≠ n by omega, show c ≠ n + 1 by omega, show c ≠ n + 1 + 1 by omega]
          · simp [St.get_new, St.get_put, row4]
        · exact .inr ⟨by simp, n + 2, n + 3, by omega, by omega, by simp, by simp [flat_append, flat_one]⟩


theorem body9 : Tryz.f9.body = some (.seq (cd Tryz.f9 [0]) (.seq (cd Tryz.f9 [1, 0]) (.seq (.seq (cd Tryz.f9 [1, 1, 0, 0]) (.block 0 (.loop lb9))) (.seq (cd Tryz.f9 [1, 1, 1, 0]) .ret)))) := by kernel_rfl
theorem res9 : Tryz.f9.results.toList = [.tmp 6] := by kernel_rfl
theorem loop9 {s : St heapPT} (hs : WF s) {A : AV} {L : List Row4} (h1 : IsRows A L) (hlen : L.length ≤ 2 ^ 20) (p q : Int)
    {e : Code} {x : Ex} {B C : Cond heapPT} (htell : ∀ L' t, WF t → (∃ O, L' = [(7, O)] ∧ OutIs s (L.filter (selRow p q)) O t) → ∃ L2 s2, B L2 s2 ∧ WF s2 ∧ ∀ e s0, Runs Tryz.prog Tryz.f9.ntmps (.seq (cd Tryz.f9 [1, 1, 0, 0]) (.block 0 (.loop lb9))) e s0 .normal (mk L') t → Runs Tryz.prog Tryz.f9.ntmps (.seq (cd Tryz.f9 [1, 1, 0, 0]) (.block 0 (.loop lb9))) e s0 .normal (mk L2) s2) (hk : Hoare Tryz.prog Tryz.f9.ntmps e B x C) :
    Hoare Tryz.prog Tryz.f9.ntmps (.seq (cd Tryz.f9 [0]) (.seq (cd Tryz.f9 [1, 0]) (.seq (.seq (cd Tryz.f9 [1, 1, 0, 0]) (.block 0 (.loop lb9))) e))) (fun L' t => L' = numbered [A, .int .i64 p, .int .i64 q] 0 ∧ ∃ k, t = upN s k) x C := by
  have hcal := none_ok
  have l1 := h1.len
  have p0 : RunP Tryz.prog Tryz.f9.ntmps (cd Tryz.f9 [0]) (numbered [A, .int .i64 p, .int .i64 q] 0) s .normal [(0, A), (1, .int .i64 p), (2, .int .i64 q)] s := (RunP.ev (cert := certs 9) (fuel := 0) tabOk hcal mixed (by kernel_rfl) fun k0 hw => ⟨_, ⟨_, by simp [evCode, evRegion, evOps, evOp, opd, dstOk, wantedA, Env.putO, env_get_put, mk_cons, mk_nil, ofV, ofVa, ofVs, intOp, isShift, evDraw, runD, stepD, clsOf, readsBack, reads1, AV.beq_self, commit, loadV_h, storeV, setAll, cells_agg, single_bool, cells_bool, single_int, cells_int, single_string, cells_string, single_nptr, cells_nptr, single_hptr, cells_hptr, single_fptr, cells_fptr, single_nsl, cells_nsl, single_hsl, cells_hsl, single_fsl, cells_fsl, single_nmap, cells_nmap, single_map, cells_map, single_func, cells_func, single_nfunc, cells_nfunc, single_iface, cells_iface, single_niface, cells_niface, St.cells, St.get_new, St.get_put, mk_get, evCall, evList, evBuiltin, sliceLen_n, sliceLen_h, sliceLen_f, nilEq, sub, numbered, upN_get, upN_next, upN_cells, readV, Tryz.f9, cd,  sz3, ag3, z3, und3, sz4, ag4, z4, und4, sz22, ag22, z22, und22]; first | with_reducible exact ⟨rfl, rfl⟩ | with_reducible exact rfl, by simp [Has, env_get_put, mk_cons, mk_nil, numbered, Tryz.f9, cd,  sz3, ag3, z3, und3, sz4, ag4, z4, und4, sz22, ag22, z22, und22]⟩, (by have hbl := hw.below; repeat' (first | exact Sub.refl _ | exact Sub.up (Sub.refl _) _ | refine Sub.new hbl ?_ ?_ _ | refine Sub.put hbl ?_ ?_ _ | refine Sub.up ?_ _ | refine Sub.mk ?_ _ | (simp; done) | (simp; omega)))⟩)
  have p1 : RunP Tryz.prog Tryz.f9.ntmps (cd Tryz.f9 [1, 0]) [(0, A), (1, .int .i64 p), (2, .int .i64 q)] s .normal [(0, A), (1, .int .i64 p), (2, .int .i64 q), (7, .nsl)] s := (RunP.ev (cert := certs 9) (fuel := 0) tabOk hcal mixed (by kernel_rfl) fun k0 hw => ⟨_, ⟨_, by simp [evCode, evRegion, evOps, evOp, opd, dstOk, wantedA, Env.putO, env_get_put, mk_cons, mk_nil, ofV, ofVa, ofVs, intOp, isShift, evDraw, runD, stepD, clsOf, readsBack, reads1, AV.beq_self, commit, loadV_h, storeV, setAll, cells_agg, single_bool, cells_bool, single_int, cells_int, single_string, cells_string, single_nptr, cells_nptr, single_hptr, cells_hptr, single_fptr, cells_fptr, single_nsl, cells_nsl, single_hsl, cells_hsl, single_fsl, cells_fsl, single_nmap, cells_nmap, single_map, cells_map, single_func, cells_func, single_nfunc, cells_nfunc, single_iface, cells_iface, single_niface, cells_niface, St.cells, St.get_new, St.get_put, mk_get, evCall, evList, evBuiltin, sliceLen_n, sliceLen_h, sliceLen_f, nilEq, sub, numbered, upN_get, upN_next, upN_cells, readV, Tryz.f9, cd,  sz3, ag3, z3, und3, sz4, ag4, z4, und4, sz22, ag22, z22, und22]; first | with_reducible exact ⟨rfl, rfl⟩ | with_reducible exact rfl, by simp [Has, env_get_put, mk_cons, mk_nil, numbered, Tryz.f9, cd,  sz3, ag3, z3, und3, sz4, ag4, z4, und4, sz22, ag22, z22, und22]⟩, (by have hbl := hw.below; repeat' (first | exact Sub.refl _ | exact Sub.up (Sub.refl _) _ | refine Sub.new hbl ?_ ?_ _ | refine Sub.put hbl ?_ ?_ _ | refine Sub.up ?_ _ | refine Sub.mk ?_ _ | (simp; done) | (simp; omega)))⟩)
  have p2 : RunP Tryz.prog Tryz.f9.ntmps (cd Tryz.f9 [1, 1, 0, 0]) [(0, A), (1, .int .i64 p), (2, .int .i64 q), (7, .nsl)] s .normal (ePr A p q L.length 0 .nsl) s := (RunP.ev (cert := certs 9) (fuel := 0) tabOk hcal mixed (by kernel_rfl) fun k0 hw => ⟨_, ⟨_, by simp [evCode, evRegion, evOps, evOp, opd, dstOk, wantedA, Env.putO, env_get_put, mk_cons, mk_nil, ofV, ofVa, ofVs, intOp, isShift, evDraw, runD, stepD, clsOf, readsBack, reads1, AV.beq_self, commit, loadV_h, storeV, setAll, cells_agg, single_bool, cells_bool, single_int, cells_int, single_string, cells_string, single_nptr, cells_nptr, single_hptr, cells_hptr, single_fptr, cells_fptr, single_nsl, cells_nsl, single_hsl, cells_hsl, single_fsl, cells_fsl, single_nmap, cells_nmap, single_map, cells_map, single_func, cells_func, single_nfunc, cells_nfunc, single_iface, cells_iface, single_niface, cells_niface, St.cells, St.get_new, St.get_put, mk_get, evCall, evList, evBuiltin, sliceLen_n, sliceLen_h, sliceLen_f, nilEq, sub, numbered, upN_get, upN_next, upN_cells, readV, Tryz.f9, cd,  ePr, l1, sz3, ag3, z3, und3, sz4, ag4, z4, und4, sz22, ag22, z22, und22]; first | with_reducible exact ⟨rfl, rfl⟩ | with_reducible exact rfl, by simp [Has, env_get_put, mk_cons, mk_nil, numbered, Tryz.f9, cd,  ePr, l1, sz3, ag3, z3, und3, sz4, ag4, z4, und4, sz22, ag22, z22, und22]⟩, (by have hbl := hw.below; repeat' (first | exact Sub.refl _ | exact Sub.up (Sub.refl _) _ | refine Sub.new hbl ?_ ?_ _ | refine Sub.put hbl ?_ ?_ _ | refine Sub.up ?_ _ | refine Sub.mk ?_ _ | (simp; done) | (simp; omega)))⟩)
  refine Hoare.seq (p0.hoare hs) (Hoare.seq (p1.hoare hs) (Hoare.seq ((Hoare.seq ((p2.hoare hs).weak (B' := IPr s A p q L.length ((L.take 0).filter (selRow p q)) 0) (fun _ _ h => h) ?_) (Hoare.block (x := .exit 0) (B := fun L' t => ∃ O, L' = [(7, O)] ∧ OutIs s (L.filter (selRow p q)) O t) ?_)).tell htell) hk))
  · rintro _ t ⟨rfl, k, rfl⟩
    exact ⟨.nsl, rfl, .inl ⟨by simp, rfl, k, rfl⟩⟩
  · have last : Hoare Tryz.prog Tryz.f9.ntmps lb9 (IPr s A p q L.length ((L.take L.length).filter (selRow p q)) L.length) (.exit 0) (fun L' t => ∃ O, L' = [(7, O)] ∧ OutIs s (L.filter (selRow p q)) O t) := by
      refine Hoare.ev (cert := certs 9) (fuel := 0) tabOk none_ok mixed (by kernel_rfl) ?_
      rintro _ t hw ⟨O, rfl, hO⟩
      rw [List.take_length] at hO
      exact ⟨[(7, O)], _, t, ⟨_, by simp [evCode, evRegion, evOps, evOp, opd, dstOk, wantedA, Env.putO, env_get_put, mk_cons, mk_nil, ofV, ofVa, ofVs, intOp, isShift, evDraw, runD, stepD, clsOf, readsBack, reads1, AV.beq_self, commit, loadV_h, storeV, setAll, cells_agg, single_bool, cells_bool, single_int, cells_int, single_string, cells_string, single_nptr, cells_nptr, single_hptr, cells_hptr, single_fptr, cells_fptr, single_nsl, cells_nsl, single_hsl, cells_hsl, single_fsl, cells_fsl, single_nmap, cells_nmap, single_map, cells_map, single_func, cells_func, single_nfunc, cells_nfunc, single_iface, cells_iface, single_niface, cells_niface, St.cells, St.get_new, St.get_put, mk_get, evCall, evList, evBuiltin, sliceLen_n, sliceLen_h, sliceLen_f, nilEq, sub, numbered, upN_get, upN_next, upN_cells, readV, Tryz.f9, lb9, cd, ePr, ltI_self, sz3, ag3, z3, und3, sz4, ag4, z4, und4, sz22, ag22, z22, und22]; first | with_reducible exact ⟨rfl, rfl⟩ | with_reducible exact rfl, by simp [Has, env_get_put, mk_cons, mk_nil, ePr]⟩, Sub.refl _, Nat.le_refl _, hw, O, rfl, hO⟩
    refine Hoare.loop (n := L.length) (fun i => IPr s A p q L.length ((L.take i).filter (selRow p q)) i) (by intro e; cases e) (fun i hi => ?_) last
    have hx : L[i]? = some L[i] := by simp [hi]
    rcases h1.2 with ⟨rfl, rfl⟩ | ⟨cs, o, cap, ex, rfl, _⟩
    · simp at hi
    · have := round9 hs h1 hlen (p := p) (q := q) (acc := (L.take i).filter (selRow p q)) (Nat.le_trans (List.length_filter_le _ _) (by rw [List.length_take]; omega)) hx
      rw [← filter_take _ _ _ _ hx] at this
      exact this
/-- What is made is taken by value. -/
theorem out_freeze {s : St heapPT} (hs : WF s) {acc : List Row4} {O : AV} {t : St heapPT} (h : OutIs s acc O t) : (O = rowsV acc ∧ ∃ k, t = upN s k) ∨ ∃ b cs, t.get b = some (.cells cs) ∧ s.next ≤ b ∧ O = .hsl b 0 4 acc.length acc.length false ∧ rowsV acc = .fsl cs 0 4 acc.length acc.length false ∧ Sub (upN s t.next) (t.put b none) := by
  rcases h with ⟨rfl, rfl, k, rfl⟩ | ⟨hne, b, n, hb1, hb2, rfl, rfl⟩
  · exact .inl ⟨rfl, k, rfl⟩
  · refine .inr ⟨b, flat acc, by simp [with1_get], hb1, rfl, by rw [rowsV, if_neg (fun e => hne (List.eq_nil_of_length_eq_zero e))], fun c y hc => ?_⟩
    have := hs.lt (s := s) hc
    rw [St.get_put, if_neg (by omega), with1_get, if_neg (by omega)]
    exact hc

theorem pure9 {A : AV} {L : List Row4} (h1 : IsRows A L) (hlen : L.length ≤ 2 ^ 20) (p q : Int) : Pure Tryz.prog heapPT 9 [A, .int .i64 p, .int .i64 q] (rowsV (L.filter (selRow p q))) := by
  refine Pure.of fun s hs => ?_
  have hcal := none_ok
  have fin : Hoare Tryz.prog Tryz.f9.ntmps (cd Tryz.f9 [1, 1, 1, 0]) (fun L' t => ∃ O, L' = [(7, O)] ∧ OutIs s (L.filter (selRow p q)) O t) .normal (fun L' t => ∃ O, L' = [(6, O)] ∧ OutIs s (L.filter (selRow p q)) O t) := by
    refine Hoare.ev (cert := certs 9) (fuel := 0) tabOk none_ok mixed (by kernel_rfl) ?_
    rintro _ t hw ⟨O, rfl, hO⟩
    exact ⟨[(6, O)], _, t, ⟨_, by simp [evCode, evRegion, evOps, evOp, opd, dstOk, wantedA, Env.putO, env_get_put, mk_cons, mk_nil, ofV, ofVa, ofVs, intOp, isShift, evDraw, runD, stepD, clsOf, readsBack, reads1, AV.beq_self, commit, loadV_h, storeV, setAll, cells_agg, single_bool, cells_bool, single_int, cells_int, single_string, cells_string, single_nptr, cells_nptr, single_hptr, cells_hptr, single_fptr, cells_fptr, single_nsl, cells_nsl, single_hsl, cells_hsl, single_fsl, cells_fsl, single_nmap, cells_nmap, single_map, cells_map, single_func, cells_func, single_nfunc, cells_nfunc, single_iface, cells_iface, single_niface, cells_niface, St.cells, St.get_new, St.get_put, mk_get, evCall, evList, evBuiltin, sliceLen_n, sliceLen_h, sliceLen_f, nilEq, sub, numbered, upN_get, upN_next, upN_cells, readV, Tryz.f9, cd, sz3, ag3, z3, und3, sz4, ag4, z4, und4, sz22, ag22, z22, und22]; first | with_reducible exact ⟨rfl, rfl⟩ | with_reducible exact rfl, by simp [Has, env_get_put, mk_cons, mk_nil]⟩, Sub.refl _, Nat.le_refl _, hw, O, rfl, hO⟩
  have body : Hoare Tryz.prog Tryz.f9.ntmps (.seq (cd Tryz.f9 [0]) (.seq (cd Tryz.f9 [1, 0]) (.seq (.seq (cd Tryz.f9 [1, 1, 0, 0]) (.block 0 (.loop lb9))) (.seq (cd Tryz.f9 [1, 1, 1, 0]) .ret)))) (fun L' t => L' = numbered [A, .int .i64 p, .int .i64 q] 0 ∧ ∃ k, t = upN s k) .ret (fun L' t => ∃ O, L' = [(6, O)] ∧ OutIs s (L.filter (selRow p q)) O t) :=
    loop9 hs h1 hlen p q (fun L' t hw h => ⟨L', t, h, hw, fun _ _ h => h⟩) (Hoare.seq fin Hoare.ret)
  obtain ⟨L2, s1, hq, hsnd⟩ := Hoare.sound tabOk tf9 body9 (args := [A, .int .i64 p, .int .i64 q]) (Nat.le_of_ble_eq_true (by kernel_rfl)) (.inr rfl) body (s := s) (fun _ => ⟨rfl, 0, rfl⟩)
  obtain ⟨⟨O, rfl, hO⟩, hw1⟩ := hq hs
  have hfin := hsnd [O] (by rw [res9]; simp [resA, mk_cons])
  rcases out_freeze hs hO with ⟨rfl, k, rfl⟩ | ⟨b, cs, g1, g2, rfl, g4, g5⟩
  · exact ⟨k, hfin⟩
  · exact ⟨s1.next, by rw [g4]; exact hfin.freeze g1 g5 (by simp)⟩

end Go.Proofs.YtbjkfbcladkfcaaGreatDoor
namespace Go.Proofs.YtbjkfbcladkfcaaGreatDoor
open Go Go.Am
set_option maxRecDepth 100000
theorem tf39 : tab.func 39 = some Tryz.f39 := by kernel_rfl
theorem tf38 : tab.func 38 = some Tryz.f38 := by kernel_rfl
theorem tf17 : tab.func 17 = some Tryz.f17 := by kernel_rfl
theorem res39 : Tryz.f39.results.toList = [.tmp 2] := by kernel_rfl
theorem res38 : Tryz.f38.results.toList = [.tmp 2] := by kernel_rfl
theorem body39 : Tryz.f39.body = some (cd Tryz.f39 []) := by kernel_rfl
theorem body38 : Tryz.f38.body = some (cd Tryz.f38 []) := by kernel_rfl

theorem cells1 {B : AV} {b : List UInt8} (h : IsBytes B b) : AV.cells B = [B] := by
  rcases h.2 with ⟨rfl, _⟩ | ⟨_, _, _, _, rfl, _⟩ <;> rfl

/-- A copy of bytes. -/
theorem pure39 {B : AV} {bs : List UInt8} (h : IsBytes B bs) (hl : bs.length ≤ 2 ^ 20) : ∃ B', IsBytes B' bs ∧ Pure Tryz.prog heapPT 39 [B] B' := by
  have cB := fun s : St heapPT => h.cells s
  have lB := h.len
  rcases h.2 with ⟨rfl, rfl⟩ | ⟨cs, o, cap, ex, rfl, _⟩
  · refine ⟨.nsl, h, Pure.of fun s hw => ⟨0, ?_⟩⟩
    exact Sound.ofEv (rs := [.nsl]) (L' := [(2, .nsl)]) (cert := certs 39) (fuel := 0) tabOk none_ok mixed tf39 body39 (by kernel_rfl) (Nat.le_of_ble_eq_true (by kernel_rfl)) (.inr rfl)
      ⟨_, by simp [evCode, evRegion, evOps, evOp, opd, dstOk, wantedA, Env.putO, env_get_put, mk_cons, mk_nil, ofV, ofVa, ofVs, intOp, isShift, evDraw, runD, stepD, clsOf, readsBack, reads1, AV.beq_self, commit, loadV_h, storeV, setAll, cells_agg, single_bool, cells_bool, single_int, cells_int, single_string, cells_string, single_nptr, cells_nptr, single_hptr, cells_hptr, single_fptr, cells_fptr, single_nsl, cells_nsl, single_hsl, cells_hsl, single_fsl, cells_fsl, single_nmap, cells_nmap, single_map, cells_map, single_func, cells_func, single_nfunc, cells_nfunc, single_iface, cells_iface, single_niface, cells_niface, St.cells, St.get_new, St.get_put, mk_get, evCall, evList, evBuiltin, sliceLen_n, sliceLen_h, sliceLen_f, nilEq, sub, numbered, upN_get, upN_next, upN_cells, readV, Tryz.f39, cd, nilKind, sz4, ag4, z4, und4, sz5, ag5, z5, und5, sz27, ag27, z27, und27]; first | with_reducible exact ⟨rfl, rfl⟩ | with_reducible exact rfl, by simp [Has, env_get_put, mk_cons, mk_nil]⟩ (by rw [res39]; simp [resA, mk_cons])
  · by_cases hn : bs.length = 0
    · have hb : bs = [] := List.eq_nil_of_length_eq_zero hn
      subst hb
      refine ⟨.fsl [] 0 1 0 0 true, ⟨by simp, .inr ⟨_, _, _, _, rfl, by simp⟩⟩, Pure.of fun s hw => ⟨1, ?_⟩⟩
      have hs : Sound Tryz.prog 39 [.fsl cs o 1 0 cap ex] s (.hsl s.next 0 1 0 0 true) (s.new (.cells [])) :=
        Sound.ofEv (rs := [.hsl s.next 0 1 0 0 true]) (L' := [(2, .hsl s.next 0 1 0 0 true)]) (cert := certs 39) (fuel := 0) tabOk none_ok mixed tf39 body39 (by kernel_rfl) (Nat.le_of_ble_eq_true (by kernel_rfl)) (.inr rfl)
          ⟨_, by simp [evCode, evRegion, evOps, evOp, opd, dstOk, wantedA, Env.putO, env_get_put, mk_cons, mk_nil, ofV, ofVa, ofVs, intOp, isShift, evDraw, runD, stepD, clsOf, readsBack, reads1, AV.beq_self, commit, loadV_h, storeV, setAll, cells_agg, single_bool, cells_bool, single_int, cells_int, single_string, cells_string, single_nptr, cells_nptr, single_hptr, cells_hptr, single_fptr, cells_fptr, single_nsl, cells_nsl, single_hsl, cells_hsl, single_fsl, cells_fsl, single_nmap, cells_nmap, single_map, cells_map, single_func, cells_func, single_nfunc, cells_nfunc, single_iface, cells_iface, single_niface, cells_niface, St.cells, St.get_new, St.get_put, mk_get, evCall, evList, evBuiltin, sliceLen_n, sliceLen_h, sliceLen_f, nilEq, sub, numbered, upN_get, upN_next, upN_cells, readV, Tryz.f39, cd, nilKind, appendV, appended, sliceCells, evParts, fillA, sz4, ag4, z4, und4, sz5, ag5, z5, und5, sz27, ag27, z27, und27]; first | with_reducible exact ⟨rfl, rfl⟩ | with_reducible exact rfl, by simp [Has, env_get_put, mk_cons, mk_nil]⟩ (by rw [res39]; simp [resA, mk_cons])
      refine hs.freeze (cs := []) (by simp [St.get_new]) (fun b y hb => ?_) (Nat.le_refl _)
      have hlt := hw.lt (s := s) hb
      rw [St.get_put, St.get_new, if_neg (by omega), if_neg (by omega)]
      exact hb
    · have hg : growOk tab 5 bs.length = true := growOk_of gp5 (by omega)
      refine ⟨.fsl (bs.map fun b => .int .u8 (b.toNat : Int)) 0 1 bs.length bs.length false, ⟨h.1, .inr ⟨_, _, _, _, rfl, fun i b hb => by simp [hb]⟩⟩, Pure.of fun s hw => ⟨2, ?_⟩⟩
      have hs : Sound Tryz.prog 39 [.fsl cs o 1 bs.length cap ex] s (.hsl (s.next + 1) 0 1 bs.length bs.length false) ((s.new (.cells [])).new (.cells (bs.map fun b => .int .u8 (b.toNat : Int)))) :=
        Sound.ofEv (rs := [.hsl (s.next + 1) 0 1 bs.length bs.length false]) (L' := [(2, .hsl (s.next + 1) 0 1 bs.length bs.length false)]) (cert := certs 39) (fuel := 0) tabOk none_ok mixed tf39 body39 (by kernel_rfl) (Nat.le_of_ble_eq_true (by kernel_rfl)) (.inr rfl)
          ⟨_, by simp [evCode, evRegion, evOps, evOp, opd, dstOk, wantedA, Env.putO, env_get_put, mk_cons, mk_nil, ofV, ofVa, ofVs, intOp, isShift, evDraw, runD, stepD, clsOf, readsBack, reads1, AV.beq_self, commit, loadV_h, storeV, setAll, cells_agg, single_bool, cells_bool, single_int, cells_int, single_string, cells_string, single_nptr, cells_nptr, single_hptr, cells_hptr, single_fptr, cells_fptr, single_nsl, cells_nsl, single_hsl, cells_hsl, single_fsl, cells_fsl, single_nmap, cells_nmap, single_map, cells_map, single_func, cells_func, single_nfunc, cells_nfunc, single_iface, cells_iface, single_niface, cells_niface, St.cells, St.get_new, St.get_put, mk_get, evCall, evList, evBuiltin, sliceLen_n, sliceLen_h, sliceLen_f, nilEq, sub, numbered, upN_get, upN_next, upN_cells, readV, Tryz.f39, cd, nilKind, appendV, appended, evParts, fillA, cB, hn, hg, sz4, ag4, z4, und4, sz5, ag5, z5, und5, sz27, ag27, z27, und27]; first | with_reducible exact ⟨rfl, rfl⟩ | with_reducible exact rfl, by simp [Has, env_get_put, mk_cons, mk_nil]⟩ (by rw [res39]; simp [resA, mk_cons])
      refine hs.freeze (s1 := upN s 2) (cs := bs.map fun b => .int .u8 (b.toNat : Int)) (by simp [St.get_new]) (fun b y hb => ?_) (Nat.le_refl _)
      have hlt := hw.lt (s := s) hb
      rw [St.get_put, St.get_new, St.get_new, if_neg (by omega), if_neg (by simp; omega), if_neg (by omega)]
      exact hb

/-- A copy of rows. -/
theorem sound38 {L : List Row4} (hne : L.length ≠ 0) (hl : L.length ≤ 2 ^ 20) {s : St heapPT} (hw : WF s) :
    Sound Tryz.prog 38 [.fsl (flat L) 0 4 L.length L.length false] s (.hsl (s.next + 1) 0 4 L.length L.length false) (with1 s (s.next + 1) (.cells (flat L)) (s.next + 2)) := by
  have hg : growOk tab 29 L.length = true := growOk_of gp29 (by omega)
  have hs : Sound Tryz.prog 38 [.fsl (flat L) 0 4 L.length L.length false] s (.hsl (s.next + 1) 0 4 L.length L.length false) ((s.new (.cells [])).new (.cells (flat L))) :=
    Sound.ofEv (rs := [.hsl (s.next + 1) 0 4 L.length L.length false]) (L' := [(2, .hsl (s.next + 1) 0 4 L.length L.length false)]) (cert := certs 38) (fuel := 0) tabOk none_ok mixed tf38 body38 (by kernel_rfl) (Nat.le_of_ble_eq_true (by kernel_rfl)) (.inr rfl)
      ⟨_, by simp [evCode, evRegion, evOps, evOp, opd, dstOk, wantedA, Env.putO, env_get_put, mk_cons, mk_nil, ofV, ofVa, ofVs, intOp, isShift, evDraw, runD, stepD, clsOf, readsBack, reads1, AV.beq_self, commit, loadV_h, storeV, setAll, cells_agg, single_bool, cells_bool, single_int, cells_int, single_string, cells_string, single_nptr, cells_nptr, single_hptr, cells_hptr, single_fptr, cells_fptr, single_nsl, cells_nsl, single_hsl, cells_hsl, single_fsl, cells_fsl, single_nmap, cells_nmap, single_map, cells_map, single_func, cells_func, single_nfunc, cells_nfunc, single_iface, cells_iface, single_niface, cells_niface, St.cells, St.get_new, St.get_put, mk_get, evCall, evList, evBuiltin, sliceLen_n, sliceLen_h, sliceLen_f, nilEq, sub, numbered, upN_get, upN_next, upN_cells, readV, Tryz.f38, cd, nilKind, appendV, appended, sliceCells, evParts, fillA, hne, hg, flat_take, flat_len, sz4, ag4, z4, und4, sz22, ag22, z22, und22, sz29, ag29, z29, und29, fa29, fl29_0, sp29_0, fl29_1, sp29_1, fl29_2, sp29_2, fl29_3, sp29_3]; first | with_reducible exact ⟨rfl, rfl⟩ | with_reducible exact rfl, by simp [Has, env_get_put, mk_cons, mk_nil]⟩ (by rw [res38]; simp [resA, mk_cons])
  refine hs.forget (with1_sub (fun c y hc _ => ?_) ?_) (by simp)
  · have := hw.lt hc
    simp [St.get_new, hc, show c ≠ s.next by omega, show c ≠ s.next + 1 by omega]
  · simp [St.get_new]
theorem pure38n : Pure Tryz.prog heapPT 38 [.nsl] .nsl := Pure.of fun s hw => ⟨0,
    Sound.ofEv (rs := [.nsl]) (L' := [(2, .nsl)]) (cert := certs 38) (fuel := 0) tabOk none_ok mixed tf38 body38 (by kernel_rfl) (Nat.le_of_ble_eq_true (by kernel_rfl)) (.inr rfl)
      ⟨_, by simp [evCode, evRegion, evOps, evOp, opd, dstOk, wantedA, Env.putO, env_get_put, mk_cons, mk_nil, ofV, ofVa, ofVs, intOp, isShift, evDraw, runD, stepD, clsOf, readsBack, reads1, AV.beq_self, commit, loadV_h, storeV, setAll, cells_agg, single_bool, cells_bool, single_int, cells_int, single_string, cells_string, single_nptr, cells_nptr, single_hptr, cells_hptr, single_fptr, cells_fptr, single_nsl, cells_nsl, single_hsl, cells_hsl, single_fsl, cells_fsl, single_nmap, cells_nmap, single_map, cells_map, single_func, cells_func, single_nfunc, cells_nfunc, single_iface, cells_iface, single_niface, cells_niface, St.cells, St.get_new, St.get_put, mk_get, evCall, evList, evBuiltin, sliceLen_n, sliceLen_h, sliceLen_f, nilEq, sub, numbered, upN_get, upN_next, upN_cells, readV, Tryz.f38, cd, nilKind, sz4, ag4, z4, und4, sz22, ag22, z22, und22, sz29, ag29, z29, und29, fa29, fl29_0, sp29_0, fl29_1, sp29_1, fl29_2, sp29_2, fl29_3, sp29_3]; first | with_reducible exact ⟨rfl, rfl⟩ | with_reducible exact rfl, by simp [Has, env_get_put, mk_cons, mk_nil]⟩ (by rw [res38]; simp [resA, mk_cons])⟩

/-- The copy of a row: its bytes are copied. -/
noncomputable def clB (B : AV) : AV := open Classical in if h : ∃ B' bs, IsBytes B bs ∧ IsBytes B' bs ∧ Pure Tryz.prog heapPT 39 [B] B' then h.choose else B
theorem clB_ok {B : AV} {bs : List UInt8} (h : IsBytes B bs) (hl : bs.length ≤ 2 ^ 20) : IsBytes (clB B) bs ∧ Pure Tryz.prog heapPT 39 [B] (clB B) := by
  obtain ⟨B', h1, h2⟩ := pure39 h hl
  have he : ∃ B' bs, IsBytes B bs ∧ IsBytes B' bs ∧ Pure Tryz.prog heapPT 39 [B] B' := ⟨B', bs, h, h1, h2⟩
  unfold clB
  rw [dif_pos he]
  obtain ⟨bs', q1, q2, q3⟩ := he.choose_spec
  rw [h.one q1]
  exact ⟨q2, q3⟩
noncomputable def cl (x : Row4) : Row4 := { x with B := clB x.B }
noncomputable def half (L : List Row4) (i : Nat) : List Row4 := (L.take i).map cl ++ L.drop i
theorem half_len (L : List Row4) (i : Nat) : (half L i).length = L.length := by simp [half]; omega
theorem half_zero (L : List Row4) : half L 0 = L := by simp [half]
theorem half_all (L : List Row4) : half L L.length = L.map cl := by simp [half]
theorem half_get {L : List Row4} {i : Nat} {x : Row4} (h : L[i]? = some x) : (half L i)[i]? = some x := by
  have hi := (List.getElem?_eq_some_iff.1 h).1
  rw [half, List.getElem?_append_right (by simp; omega)]
  simp only [List.length_map, List.length_take, List.getElem?_drop]
  rw [show i + (i - min i L.length) = i by omega, h]
theorem half_set {L : List Row4} {i : Nat} {x : Row4} (h : L[i]? = some x) : (half L i).set i { x with B := clB x.B, bs := x.bs } = half L (i + 1) := by
  have hi := (List.getElem?_eq_some_iff.1 h).1
  have hx : L[i] = x := (List.getElem?_eq_some_iff.1 h).2
  refine List.ext_getElem? (fun j => ?_)
  rw [List.getElem?_set]
  by_cases e : i = j
  · subst e
    rw [if_pos rfl, if_pos (by rw [half_len]; exact hi), half, List.getElem?_append_left (by simp; omega)]
    simp [cl, hx, hi]
  · rw [if_neg e]
    simp only [half]
    by_cases hlt : j < i
    · rw [List.getElem?_append_left (by simp; omega), List.getElem?_append_left (by simp; omega)]
      simp only [List.getElem?_map, List.getElem?_take]
      rw [if_pos hlt, if_pos (by omega)]
    · rw [List.getElem?_append_right (by simp; omega), List.getElem?_append_right (by simp; omega)]
      simp only [List.length_map, List.length_take, List.getElem?_drop]
      congr 1
      omega

theorem body17 : Tryz.f17.body = some (.seq (cd Tryz.f17 [0]) (.seq (cd Tryz.f17 [1, 0]) (.seq (.seq (cd Tryz.f17 [1, 1, 0, 0]) (.block 0 (.loop (cd Tryz.f17 [1, 1, 0, 1, 0, 0])))) (.seq (cd Tryz.f17 [1, 1, 1, 0]) .ret)))) := by kernel_rfl
theorem res17 : Tryz.f17.results.toList = [.tmp 2] := by kernel_rfl

def I17 (s : St heapPT) (L : List Row4) (b : Nat) (i : Nat) : Cond heapPT := fun L' t => L' = [(0, .hsl b 0 4 L.length L.length false), (7, .int .i64 L.length), (8, .int .i64 i)] ∧ ∃ n, s.next ≤ b ∧ b < n ∧ t = with1 s b (.cells (flat (half L i))) n

/-- own.Sents -/
theorem pure17 {L : List Row4} (hl : L.length ≤ 2 ^ 20) (hb : ∀ x ∈ L, IsBytes x.B x.bs ∧ x.bs.length ≤ 2 ^ 20) : Pure Tryz.prog heapPT 17 [rowsV L] (rowsV (L.map cl)) := by
  by_cases hne : L.length = 0
  · have : L = [] := List.eq_nil_of_length_eq_zero hne
    subst this
    obtain ⟨kk, h38⟩ := pure_call (T := tab) (HI := heapPT) (V := one 38 [.nsl] .nsl) (f := 38) (by rw [tf38]; rfl) (one_eq _ _ _) pure38n
    have hcal := cSpec_ok (P := Tryz.prog) (HI := heapPT) (pureD (one 38 [.nsl] .nsl))
    refine SoundP.pure fun s => ?_
    refine RunP.sound (rs := [.nsl]) tabOk tf17 body17 (Nat.le_of_ble_eq_true (by kernel_rfl)) (L := [(2, .nsl)]) (.inr rfl) ?_ (fun k => by rw [res17]; simp [resA, mk_cons])
    refine RunP.seq (L2 := [(0, .nsl)]) (s2 := s) (RunP.ev (cert := certs 17) (fuel := 0) tabOk hcal mixed (by kernel_rfl) fun k0 hw => ⟨_, ⟨_, by simp [evCode, evRegion, evOps, evOp, opd, dstOk, wantedA, Env.putO, env_get_put, mk_cons, mk_nil, ofV, ofVa, ofVs, intOp, isShift, evDraw, runD, stepD, clsOf, readsBack, reads1, AV.beq_self, commit, loadV_h, storeV, setAll, cells_agg, single_bool, cells_bool, single_int, cells_int, single_string, cells_string, single_nptr, cells_nptr, single_hptr, cells_hptr, single_fptr, cells_fptr, single_nsl, cells_nsl, single_hsl, cells_hsl, single_fsl, cells_fsl, single_nmap, cells_nmap, single_map, cells_map, single_func, cells_func, single_nfunc, cells_nfunc, single_iface, cells_iface, single_niface, cells_niface, St.cells, St.get_new, St.get_put, mk_get, evCall, evList, evBuiltin, sliceLen_n, sliceLen_h, sliceLen_f, nilEq, sub, numbered, upN_get, upN_next, upN_cells, readV, Tryz.f17, cd,  rowsV, sz3, ag3, z3, und3, sz4, ag4, z4, und4, sz22, ag22, z22, und22]; first | with_reducible exact ⟨rfl, rfl⟩ | with_reducible exact rfl, by simp [Has, env_get_put, mk_cons, mk_nil, numbered, Tryz.f17, cd,  rowsV, sz3, ag3, z3, und3, sz4, ag4, z4, und4, sz22, ag22, z22, und22]⟩, (by have hbl := hw.below; repeat' (first | exact Sub.refl _ | exact Sub.up (Sub.refl _) _ | refine Sub.new hbl ?_ ?_ _ | refine Sub.put hbl ?_ ?_ _ | refine Sub.up ?_ _ | refine Sub.mk ?_ _ | (simp; done) | (simp; omega)))⟩) ?_
    refine RunP.seq (L2 := [(0, .nsl)]) (s2 := s) (RunP.ev (cert := certs 17) (fuel := 0) tabOk hcal mixed (by kernel_rfl) fun k0 hw => ⟨_, ⟨_, by simp [evCode, evRegion, evOps, evOp, opd, dstOk, wantedA, Env.putO, env_get_put, mk_cons, mk_nil, ofV, ofVa, ofVs, intOp, isShift, evDraw, runD, stepD, clsOf, readsBack, reads1, AV.beq_self, commit, loadV_h, storeV, setAll, cells_agg, single_bool, cells_bool, single_int, cells_int, single_string, cells_string, single_nptr, cells_nptr, single_hptr, cells_hptr, single_fptr, cells_fptr, single_nsl, cells_nsl, single_hsl, cells_hsl, single_fsl, cells_fsl, single_nmap, cells_nmap, single_map, cells_map, single_func, cells_func, single_nfunc, cells_nfunc, single_iface, cells_iface, single_niface, cells_niface, St.cells, St.get_new, St.get_put, mk_get, evCall, evList, evBuiltin, sliceLen_n, sliceLen_h, sliceLen_f, nilEq, sub, numbered, upN_get, upN_next, upN_cells, readV, Tryz.f17, cd,  h38, sz3, ag3, z3, und3, sz4, ag4, z4, und4, sz22, ag22, z22, und22]; first | with_reducible exact ⟨rfl, rfl⟩ | with_reducible exact rfl, by simp [Has, env_get_put, mk_cons, mk_nil, numbered, Tryz.f17, cd,  h38, sz3, ag3, z3, und3, sz4, ag4, z4, und4, sz22, ag22, z22, und22]⟩, (by have hbl := hw.below; repeat' (first | exact Sub.refl _ | exact Sub.up (Sub.refl _) _ | refine Sub.new hbl ?_ ?_ _ | refine Sub.put hbl ?_ ?_ _ | refine Sub.up ?_ _ | refine Sub.mk ?_ _ | (simp; done) | (simp; omega)))⟩) ?_
    have last : RunP Tryz.prog Tryz.f17.ntmps (cd Tryz.f17 [1, 1, 0, 1, 0, 0]) [(0, .nsl), (7, .int .i64 (0 : Nat)), (8, .int .i64 (0 : Nat))] s (.exit 0) [(0, .nsl)] s := (RunP.ev (cert := certs 17) (fuel := 0) tabOk hcal mixed (by kernel_rfl) fun k0 hw => ⟨_, ⟨_, by simp [evCode, evRegion, evOps, evOp, opd, dstOk, wantedA, Env.putO, env_get_put, mk_cons, mk_nil, ofV, ofVa, ofVs, intOp, isShift, evDraw, runD, stepD, clsOf, readsBack, reads1, AV.beq_self, commit, loadV_h, storeV, setAll, cells_agg, single_bool, cells_bool, single_int, cells_int, single_string, cells_string, single_nptr, cells_nptr, single_hptr, cells_hptr, single_fptr, cells_fptr, single_nsl, cells_nsl, single_hsl, cells_hsl, single_fsl, cells_fsl, single_nmap, cells_nmap, single_map, cells_map, single_func, cells_func, single_nfunc, cells_nfunc, single_iface, cells_iface, single_niface, cells_niface, St.cells, St.get_new, St.get_put, mk_get, evCall, evList, evBuiltin, sliceLen_n, sliceLen_h, sliceLen_f, nilEq, sub, numbered, upN_get, upN_next, upN_cells, readV, Tryz.f17, cd,  ltI_self, sz3, ag3, z3, und3, sz4, ag4, z4, und4, sz22, ag22, z22, und22]; first | with_reducible exact ⟨rfl, rfl⟩ | with_reducible exact rfl, by simp [Has, env_get_put, mk_cons, mk_nil, numbered, Tryz.f17, cd,  ltI_self, sz3, ag3, z3, und3, sz4, ag4, z4, und4, sz22, ag22, z22, und22]⟩, (by have hbl := hw.below; repeat' (first | exact Sub.refl _ | exact Sub.up (Sub.refl _) _ | refine Sub.new hbl ?_ ?_ _ | refine Sub.put hbl ?_ ?_ _ | refine Sub.up ?_ _ | refine Sub.mk ?_ _ | (simp; done) | (simp; omega)))⟩)
    refine RunP.seq (RunP.seq (L2 := [(0, .nsl), (7, .int .i64 (0 : Nat)), (8, .int .i64 (0 : Nat))]) (s2 := s) (RunP.ev (cert := certs 17) (fuel := 0) tabOk hcal mixed (by kernel_rfl) fun k0 hw => ⟨_, ⟨_, by simp [evCode, evRegion, evOps, evOp, opd, dstOk, wantedA, Env.putO, env_get_put, mk_cons, mk_nil, ofV, ofVa, ofVs, intOp, isShift, evDraw, runD, stepD, clsOf, readsBack, reads1, AV.beq_self, commit, loadV_h, storeV, setAll, cells_agg, single_bool, cells_bool, single_int, cells_int, single_string, cells_string, single_nptr, cells_nptr, single_hptr, cells_hptr, single_fptr, cells_fptr, single_nsl, cells_nsl, single_hsl, cells_hsl, single_fsl, cells_fsl, single_nmap, cells_nmap, single_map, cells_map, single_func, cells_func, single_nfunc, cells_nfunc, single_iface, cells_iface, single_niface, cells_niface, St.cells, St.get_new, St.get_put, mk_get, evCall, evList, evBuiltin, sliceLen_n, sliceLen_h, sliceLen_f, nilEq, sub, numbered, upN_get, upN_next, upN_cells, readV, Tryz.f17, cd,  sz3, ag3, z3, und3, sz4, ag4, z4, und4, sz22, ag22, z22, und22]; first | with_reducible exact ⟨rfl, rfl⟩ | with_reducible exact rfl, by simp [Has, env_get_put, mk_cons, mk_nil, numbered, Tryz.f17, cd,  sz3, ag3, z3, und3, sz4, ag4, z4, und4, sz22, ag22, z22, und22]⟩, (by have hbl := hw.below; repeat' (first | exact Sub.refl _ | exact Sub.up (Sub.refl _) _ | refine Sub.new hbl ?_ ?_ _ | refine Sub.put hbl ?_ ?_ _ | refine Sub.up ?_ _ | refine Sub.mk ?_ _ | (simp; done) | (simp; omega)))⟩) (RunP.block (x := .exit 0) (RunP.loop (n := 0) (fun _ => [(0, .nsl), (7, .int .i64 (0 : Nat)), (8, .int .i64 (0 : Nat))]) (fun _ => s) (by intro e; cases e) (fun i hi => absurd hi (Nat.not_lt_zero i)) last))) (RunP.seq (L2 := [(2, .nsl)]) (s2 := s) (RunP.ev (cert := certs 17) (fuel := 0) tabOk hcal mixed (by kernel_rfl) fun k0 hw => ⟨_, ⟨_, by simp [evCode, evRegion, evOps, evOp, opd, dstOk, wantedA, Env.putO, env_get_put, mk_cons, mk_nil, ofV, ofVa, ofVs, intOp, isShift, evDraw, runD, stepD, clsOf, readsBack, reads1, AV.beq_self, commit, loadV_h, storeV, setAll, cells_agg, single_bool, cells_bool, single_int, cells_int, single_string, cells_string, single_nptr, cells_nptr, single_hptr, cells_hptr, single_fptr, cells_fptr, single_nsl, cells_nsl, single_hsl, cells_hsl, single_fsl, cells_fsl, single_nmap, cells_nmap, single_map, cells_map, single_func, cells_func, single_nfunc, cells_nfunc, single_iface, cells_iface, single_niface, cells_niface, St.cells, St.get_new, St.get_put, mk_get, evCall, evList, evBuiltin, sliceLen_n, sliceLen_h, sliceLen_f, nilEq, sub, numbered, upN_get, upN_next, upN_cells, readV, Tryz.f17, cd,  sz3, ag3, z3, und3, sz4, ag4, z4, und4, sz22, ag22, z22, und22]; first | with_reducible exact ⟨rfl, rfl⟩ | with_reducible exact rfl, by simp [Has, env_get_put, mk_cons, mk_nil, numbered, Tryz.f17, cd,  sz3, ag3, z3, und3, sz4, ag4, z4, und4, sz22, ag22, z22, und22]⟩, (by have hbl := hw.below; repeat' (first | exact Sub.refl _ | exact Sub.up (Sub.refl _) _ | refine Sub.new hbl ?_ ?_ _ | refine Sub.put hbl ?_ ?_ _ | refine Sub.up ?_ _ | refine Sub.mk ?_ _ | (simp; done) | (simp; omega)))⟩) RunP.ret)
  · refine Pure.of fun s hs => ?_
    have e1 : rowsV L = .fsl (flat L) 0 4 L.length L.length false := by rw [rowsV, if_neg hne]
    have e2 : rowsV (L.map cl) = .fsl (flat (L.map cl)) 0 4 L.length L.length false := by rw [rowsV, List.length_map, if_neg hne]
    rw [e1, e2]
    obtain ⟨kk, h38⟩ := oneS_call (T := tab) (f := 38) (by rw [tf38]; rfl) (sound38 hne hl hs)
    have round : ∀ i, i < L.length → Hoare Tryz.prog Tryz.f17.ntmps (cd Tryz.f17 [1, 1, 0, 1, 0, 0]) (I17 s L (s.next + 1) i) .normal (I17 s L (s.next + 1) (i + 1)) := by
      intro i hi
      have hx : L[i]? = some L[i] := by simp [hi]
      generalize L[i] = x at hx
      obtain ⟨hB, hBl⟩ := hb x (List.mem_of_getElem? hx)
      obtain ⟨k1, k2⟩ := clB_ok hB hBl
      obtain ⟨kq, h39⟩ := pure_call (T := tab) (HI := heapPT) (V := one 39 [x.B] (clB x.B)) (f := 39) (by rw [tf39]; rfl) (one_eq _ _ _) k2
      have hcal := cSpec_ok (P := Tryz.prog) (HI := heapPT) (pureD (one 39 [x.B] (clB x.B)))
      have hg := flat_get _ _ _ (half_get hx) 3 (by decide)
      have hst := flat_set _ _ _ (clB x.B) x.bs (half_get hx)
      rw [half_set hx] at hst
      have sB := k1.single
      have cB1 := cells1 k1
      have hle2 : i * 4 + 3 + 1 ≤ L.length * 4 := by omega
      have hlt := ltI_cast hi
      have hw1 := wrap_one (i := i) (by omega)
      have hle : i * 4 + 3 < L.length * 4 := by omega
      have hfl : (flat (half L i)).length = L.length * 4 := by rw [flat_len, half_len]
      simp only [Row4.pick, show (3 : Nat) ≠ 0 by decide, show (3 : Nat) ≠ 1 by decide, show (3 : Nat) ≠ 2 by decide, if_false] at hg
      have hg2 : ∀ h : i * 4 + 3 < (flat (half L i)).length, (flat (half L i))[i * 4 + 3]'h = x.B := fun h => (List.getElem?_eq_some_iff.1 hg).2
      refine Hoare.ev (cert := certs 17) (fuel := 0) tabOk hcal mixed (by kernel_rfl) ?_
      rintro _ t hw ⟨rfl, n, hb1, hb2, rfl⟩
      refine ⟨[(0, .hsl (s.next + 1) 0 4 L.length L.length false), (7, .int .i64 L.length), (8, .int .i64 (i + 1 : Nat))], _, with1 s (s.next + 1) (.cells (flat (half L (i + 1)))) (n + kq (with1 s (s.next + 1) (.cells (flat (half L i))) n)), ⟨_, by simp [evCode, evRegion, evOps, evOp, opd, dstOk, wantedA, Env.putO, env_get_put, mk_cons, mk_nil, ofV, ofVa, ofVs, intOp, isShift, evDraw, runD, stepD, clsOf, readsBack, reads1, AV.beq_self, commit, loadV_h, storeV, setAll, cells_agg, single_bool, cells_bool, single_int, cells_int, single_string, cells_string, single_nptr, cells_nptr, single_hptr, cells_hptr, single_fptr, cells_fptr, single_nsl, cells_nsl, single_hsl, cells_hsl, single_fsl, cells_fsl, single_nmap, cells_nmap, single_map, cells_map, single_func, cells_func, single_nfunc, cells_nfunc, single_iface, cells_iface, single_niface, cells_niface, St.cells, St.get_new, St.get_put, mk_get, evCall, evList, evBuiltin, sliceLen_n, sliceLen_h, sliceLen_f, nilEq, sub, numbered, upN_get, upN_next, upN_cells, readV, Tryz.f17, cd, hlt, hi, indexAddrV, with1_get, h39, hg, hg2, hst, cB1, hle2, hle, hfl, sB, hw1, sz3, ag3, z3, und3, sz4, ag4, z4, und4, sz22, ag22, z22, und22, sz27, ag27, z27, und27, sz29, ag29, z29, und29, fa29, fl29_0, sp29_0, fl29_1, sp29_1, fl29_2, sp29_2, fl29_3, sp29_3]; first | with_reducible exact ⟨rfl, rfl⟩ | with_reducible exact rfl, by simp [Has, env_get_put, mk_cons, mk_nil]⟩, ?_, by simp, with1_wf hs (by omega) (by omega) _, rfl, _, hb1, by omega, rfl⟩
      refine with1_sub (fun c y hc hne => ?_) (by simp [St.get_put])
      have := hs.lt hc
      simp [St.get_put, with1_get, hc, show c ≠ s.next + 1 by omega]
    have hcal := cSpec_ok (P := Tryz.prog) (HI := heapPT) (oneS 38 [.fsl (flat L) 0 4 L.length L.length false] s (.hsl (s.next + 1) 0 4 L.length L.length false) (with1 s (s.next + 1) (.cells (flat L)) (s.next + 2)))
    have first : Hoare Tryz.prog Tryz.f17.ntmps (cd Tryz.f17 [0]) (fun L' t => L' = numbered [.fsl (flat L) 0 4 L.length L.length false] 0 ∧ t = s) .normal (fun L' t => L' = [(0, .fsl (flat L) 0 4 L.length L.length false)] ∧ t = s) := by
      refine Hoare.ev (cert := certs 17) (fuel := 0) tabOk hcal mixed (by kernel_rfl) ?_
      rintro _ t hw ⟨rfl, rfl⟩
      exact ⟨[(0, .fsl (flat L) 0 4 L.length L.length false)], _, t, ⟨_, by simp [evCode, evRegion, evOps, evOp, opd, dstOk, wantedA, Env.putO, env_get_put, mk_cons, mk_nil, ofV, ofVa, ofVs, intOp, isShift, evDraw, runD, stepD, clsOf, readsBack, reads1, AV.beq_self, commit, loadV_h, storeV, setAll, cells_agg, single_bool, cells_bool, single_int, cells_int, single_string, cells_string, single_nptr, cells_nptr, single_hptr, cells_hptr, single_fptr, cells_fptr, single_nsl, cells_nsl, single_hsl, cells_hsl, single_fsl, cells_fsl, single_nmap, cells_nmap, single_map, cells_map, single_func, cells_func, single_nfunc, cells_nfunc, single_iface, cells_iface, single_niface, cells_niface, St.cells, St.get_new, St.get_put, mk_get, evCall, evList, evBuiltin, sliceLen_n, sliceLen_h, sliceLen_f, nilEq, sub, numbered, upN_get, upN_next, upN_cells, readV, Tryz.f17, cd, sz3, ag3, z3, und3, sz4, ag4, z4, und4, sz22, ag22, z22, und22]; first | with_reducible exact ⟨rfl, rfl⟩ | with_reducible exact rfl, by simp [Has, env_get_put, mk_cons, mk_nil, numbered]⟩, Sub.refl _, Nat.le_refl _, hw, rfl, rfl⟩
    have second : Hoare Tryz.prog Tryz.f17.ntmps (cd Tryz.f17 [1, 0]) (fun L' t => L' = [(0, .fsl (flat L) 0 4 L.length L.length false)] ∧ t = s) .normal (fun L' t => L' = [(0, .hsl (s.next + 1) 0 4 L.length L.length false)] ∧ ∃ n, s.next + 1 < n ∧ t = with1 s (s.next + 1) (.cells (flat L)) n) := by
      refine Hoare.ev (cert := certs 17) (fuel := 0) tabOk hcal mixed (by kernel_rfl) ?_
      rintro _ t hw ⟨rfl, rfl⟩
      exact ⟨[(0, .hsl (t.next + 1) 0 4 L.length L.length false)], _, with1 t (t.next + 1) (.cells (flat L)) (t.next + 2 + kk), ⟨_, by simp [evCode, evRegion, evOps, evOp, opd, dstOk, wantedA, Env.putO, env_get_put, mk_cons, mk_nil, ofV, ofVa, ofVs, intOp, isShift, evDraw, runD, stepD, clsOf, readsBack, reads1, AV.beq_self, commit, loadV_h, storeV, setAll, cells_agg, single_bool, cells_bool, single_int, cells_int, single_string, cells_string, single_nptr, cells_nptr, single_hptr, cells_hptr, single_fptr, cells_fptr, single_nsl, cells_nsl, single_hsl, cells_hsl, single_fsl, cells_fsl, single_nmap, cells_nmap, single_map, cells_map, single_func, cells_func, single_nfunc, cells_nfunc, single_iface, cells_iface, single_niface, cells_niface, St.cells, St.get_new, St.get_put, mk_get, evCall, evList, evBuiltin, sliceLen_n, sliceLen_h, sliceLen_f, nilEq, sub, numbered, upN_get, upN_next, upN_cells, readV, Tryz.f17, cd, h38, sz3, ag3, z3, und3, sz4, ag4, z4, und4, sz22, ag22, z22, und22]; first | with_reducible exact ⟨rfl, rfl⟩ | with_reducible exact rfl, by simp [Has, env_get_put, mk_cons, mk_nil]⟩, fun _ _ h => h, by simp, with1_wf hs (by omega) (by omega) _, rfl, _, by omega, rfl⟩
    have third : Hoare Tryz.prog Tryz.f17.ntmps (cd Tryz.f17 [1, 1, 0, 0]) (fun L' t => L' = [(0, .hsl (s.next + 1) 0 4 L.length L.length false)] ∧ ∃ n, s.next + 1 < n ∧ t = with1 s (s.next + 1) (.cells (flat L)) n) .normal (I17 s L (s.next + 1) 0) := by
      refine Hoare.ev (cert := certs 17) (fuel := 0) tabOk hcal mixed (by kernel_rfl) ?_
      rintro _ t hw ⟨rfl, n, hn, rfl⟩
      exact ⟨[(0, .hsl (s.next + 1) 0 4 L.length L.length false), (7, .int .i64 L.length), (8, .int .i64 (0 : Nat))], _, with1 s (s.next + 1) (.cells (flat L)) n, ⟨_, by simp [evCode, evRegion, evOps, evOp, opd, dstOk, wantedA, Env.putO, env_get_put, mk_cons, mk_nil, ofV, ofVa, ofVs, intOp, isShift, evDraw, runD, stepD, clsOf, readsBack, reads1, AV.beq_self, commit, loadV_h, storeV, setAll, cells_agg, single_bool, cells_bool, single_int, cells_int, single_string, cells_string, single_nptr, cells_nptr, single_hptr, cells_hptr, single_fptr, cells_fptr, single_nsl, cells_nsl, single_hsl, cells_hsl, single_fsl, cells_fsl, single_nmap, cells_nmap, single_map, cells_map, single_func, cells_func, single_nfunc, cells_nfunc, single_iface, cells_iface, single_niface, cells_niface, St.cells, St.get_new, St.get_put, mk_get, evCall, evList, evBuiltin, sliceLen_n, sliceLen_h, sliceLen_f, nilEq, sub, numbered, upN_get, upN_next, upN_cells, readV, Tryz.f17, cd, sz3, ag3, z3, und3, sz4, ag4, z4, und4, sz22, ag22, z22, und22]; first | with_reducible exact ⟨rfl, rfl⟩ | with_reducible exact rfl, by simp [Has, env_get_put, mk_cons, mk_nil]⟩, Sub.refl _, Nat.le_refl _, hw, rfl, n, by omega, hn, by rw [half_zero]⟩
    have last : Hoare Tryz.prog Tryz.f17.ntmps (cd Tryz.f17 [1, 1, 0, 1, 0, 0]) (I17 s L (s.next + 1) L.length) (.exit 0) (fun L' t => L' = [(0, .hsl (s.next + 1) 0 4 L.length L.length false)] ∧ ∃ n, s.next + 1 < n ∧ t = with1 s (s.next + 1) (.cells (flat (L.map cl))) n) := by
      refine Hoare.ev (cert := certs 17) (fuel := 0) tabOk hcal mixed (by kernel_rfl) ?_
      rintro _ t hw ⟨rfl, n, hn, hn2, rfl⟩
      rw [half_all] at hw ⊢
      exact ⟨[(0, .hsl (s.next + 1) 0 4 L.length L.length false)], _, with1 s (s.next + 1) (.cells (flat (L.map cl))) n, ⟨_, by simp [evCode, evRegion, evOps, evOp, opd, dstOk, wantedA, Env.putO, env_get_put, mk_cons, mk_nil, ofV, ofVa, ofVs, intOp, isShift, evDraw, runD, stepD, clsOf, readsBack, reads1, AV.beq_self, commit, loadV_h, storeV, setAll, cells_agg, single_bool, cells_bool, single_int, cells_int, single_string, cells_string, single_nptr, cells_nptr, single_hptr, cells_hptr, single_fptr, cells_fptr, single_nsl, cells_nsl, single_hsl, cells_hsl, single_fsl, cells_fsl, single_nmap, cells_nmap, single_map, cells_map, single_func, cells_func, single_nfunc, cells_nfunc, single_iface, cells_iface, single_niface, cells_niface, St.cells, St.get_new, St.get_put, mk_get, evCall, evList, evBuiltin, sliceLen_n, sliceLen_h, sliceLen_f, nilEq, sub, numbered, upN_get, upN_next, upN_cells, readV, Tryz.f17, cd, ltI_self, sz3, ag3, z3, und3, sz4, ag4, z4, und4, sz22, ag22, z22, und22]; first | with_reducible exact ⟨rfl, rfl⟩ | with_reducible exact rfl, by simp [Has, env_get_put, mk_cons, mk_nil]⟩, Sub.refl _, Nat.le_refl _, hw, rfl, n, hn2, rfl⟩
    have fin : Hoare Tryz.prog Tryz.f17.ntmps (cd Tryz.f17 [1, 1, 1, 0]) (fun L' t => L' = [(0, .hsl (s.next + 1) 0 4 L.length L.length false)] ∧ ∃ n, s.next + 1 < n ∧ t = with1 s (s.next + 1) (.cells (flat (L.map cl))) n) .normal (fun L' t => L' = [(2, .hsl (s.next + 1) 0 4 L.length L.length false)] ∧ ∃ n, s.next + 1 < n ∧ t = with1 s (s.next + 1) (.cells (flat (L.map cl))) n) := by
      refine Hoare.ev (cert := certs 17) (fuel := 0) tabOk hcal mixed (by kernel_rfl) ?_
      rintro _ t hw ⟨rfl, n, hn, rfl⟩
      exact ⟨[(2, .hsl (s.next + 1) 0 4 L.length L.length false)], _, with1 s (s.next + 1) (.cells (flat (L.map cl))) n, ⟨_, by simp [evCode, evRegion, evOps, evOp, opd, dstOk, wantedA, Env.putO, env_get_put, mk_cons, mk_nil, ofV, ofVa, ofVs, intOp, isShift, evDraw, runD, stepD, clsOf, readsBack, reads1, AV.beq_self, commit, loadV_h, storeV, setAll, cells_agg, single_bool, cells_bool, single_int, cells_int, single_string, cells_string, single_nptr, cells_nptr, single_hptr, cells_hptr, single_fptr, cells_fptr, single_nsl, cells_nsl, single_hsl, cells_hsl, single_fsl, cells_fsl, single_nmap, cells_nmap, single_map, cells_map, single_func, cells_func, single_nfunc, cells_nfunc, single_iface, cells_iface, single_niface, cells_niface, St.cells, St.get_new, St.get_put, mk_get, evCall, evList, evBuiltin, sliceLen_n, sliceLen_h, sliceLen_f, nilEq, sub, numbered, upN_get, upN_next, upN_cells, readV, Tryz.f17, cd, sz3, ag3, z3, und3, sz4, ag4, z4, und4, sz22, ag22, z22, und22]; first | with_reducible exact ⟨rfl, rfl⟩ | with_reducible exact rfl, by simp [Has, env_get_put, mk_cons, mk_nil]⟩, Sub.refl _, Nat.le_refl _, hw, rfl, n, hn, rfl⟩
    have all := Hoare.seq first (Hoare.seq second (Hoare.seq (Hoare.seq third (Hoare.block (id := 0) (x := .exit 0) (Hoare.loop (n := L.length) (fun i => I17 s L (s.next + 1) i) (by intro e; cases e) round last))) (Hoare.seq fin Hoare.ret)))
    obtain ⟨L2, s1, hq, hsnd⟩ := Hoare.sound tabOk tf17 body17 (args := [.fsl (flat L) 0 4 L.length L.length false]) (Nat.le_of_ble_eq_true (by kernel_rfl)) (.inr rfl) all (s := s) (fun _ => ⟨rfl, rfl⟩)
    obtain ⟨⟨rfl, n, hn, rfl⟩, _⟩ := hq hs
    have hfin := hsnd [.hsl (s.next + 1) 0 4 L.length L.length false] (by rw [res17]; simp [resA, mk_cons])
    refine ⟨n, hfin.freeze (cs := flat (L.map cl)) (by simp [with1_get]) (fun b y hy => ?_) (by simp)⟩
    have := hs.lt (s := s) hy
    rw [St.get_put, if_neg (by omega), with1_get, if_neg (by omega)]
    exact hy
end Go.Proofs.YtbjkfbcladkfcaaGreatDoor
namespace Go.Proofs.YtbjkfbcladkfcaaGreatDoor
open Go Go.Am
set_option maxRecDepth 100000

/-! ### Project -/
theorem tf7 : tab.func 7 = some Tryz.f7 := by kernel_rfl
noncomputable def lb7 : Code := cd Tryz.f7 [1, 1, 0, 1, 0, 0]
theorem round7 {s : St heapPT} (hs : WF s) {cs : List AV} {o cap : Nat} {ex : Bool} {L : List Row4} (h1 : IsRows (.fsl cs o 4 L.length cap ex) L) (hlen : L.length ≤ 2 ^ 20) {p q : Int} {acc : List Row4} (hacc : acc.length ≤ 2 ^ 20) {i : Nat} {x : Row4} (hx : L[i]? = some x) :
    Hoare Tryz.prog Tryz.f7.ntmps lb7 (IPr s (.fsl cs o 4 L.length cap ex) p q L.length acc i) .normal (IPr s (.fsl cs o 4 L.length cap ex) p q L.length (acc ++ (if selRow p q x then [x] else [])) (i + 1)) := by
  have hi := (List.getElem?_eq_some_iff.1 hx).1
  have hB := h1.1.2 x (List.mem_of_getElem? hx)
  have sx := hB.single
  have ra := (h1.at (HI := heapPT) ag29 sz29 ag3 ag27 hx).all
  have hlt := ltI_cast hi
  have hw1 := wrap_one (i := i) (by omega)
  have hg : growOk tab 29 1 = true := growOk_of gp29 (by omega)
  have hg2 : growOk tab 29 (acc.length + 1) = true := growOk_of gp29 (by omega)
  refine Hoare.ev (cert := certs 7) (fuel := 0) tabOk none_ok mixed (by kernel_rfl) ?_
  rintro _ t hw ⟨O, rfl, hO⟩
  cases e1 : eqI x.p p
  · have hsel : selRow p q x = false := by simp [selRow, e1]
    refine ⟨ePr (.fsl cs o 4 L.length cap ex) p q L.length (i + 1) O, _, upN t 1, ⟨_, by simp [evCode, evRegion, evOps, evOp, opd, dstOk, wantedA, Env.putO, env_get_put, mk_cons, mk_nil, ofV, ofVa, ofVs, intOp, isShift, evDraw, runD, stepD, clsOf, readsBack, reads1, AV.beq_self, commit, loadV_h, storeV, setAll, cells_agg, single_bool, cells_bool, single_int, cells_int, single_string, cells_string, single_nptr, cells_nptr, single_hptr, cells_hptr, single_fptr, cells_fptr, single_nsl, cells_nsl, single_hsl, cells_hsl, single_fsl, cells_fsl, single_nmap, cells_nmap, single_map, cells_map, single_func, cells_func, single_nfunc, cells_nfunc, single_iface, cells_iface, single_niface, cells_niface, St.cells, St.get_new, St.get_put, mk_get, evCall, evList, evBuiltin, sliceLen_n, sliceLen_h, sliceLen_f, nilEq, sub, numbered, upN_get, upN_next, upN_cells, readV, Tryz.f7, lb7, cd, ePr, hlt, hi, indexAddrV, ra, sx, hw1, e1, sz3, ag3, z3, und3, sz4, ag4, z4, und4, sz22, ag22, z22, und22, sz27, ag27, z27, und27, sz29, ag29, z29, und29, fa29, fl29_0, sp29_0, fl29_1, sp29_1, fl29_2, sp29_2, fl29_3, sp29_3]; first | with_reducible exact ⟨rfl, rfl⟩ | with_reducible exact rfl, by simp [Has, env_get_put, mk_cons, mk_nil, ePr]⟩, ?_, by simp, hw.up 1, O, rfl, ?_⟩
    · exact Sub.put hw.self (Sub.new hw.self (Sub.refl _) (Nat.le_refl _) _) (Nat.le_refl _) _
    · rw [hsel]; simpa using hO.up 1
  · cases e2 : eqI x.s q
    · have hsel : selRow p q x = false := by simp [selRow, e2]
      refine ⟨ePr (.fsl cs o 4 L.length cap ex) p q L.length (i + 1) O, _, upN t 1, ⟨_, by simp [evCode, evRegion, evOps, evOp, opd, dstOk, wantedA, Env.putO, env_get_put, mk_cons, mk_nil, ofV, ofVa, ofVs, intOp, isShift, evDraw, runD, stepD, clsOf, readsBack, reads1, AV.beq_self, commit, loadV_h, storeV, setAll, cells_agg, single_bool, cells_bool, single_int, cells_int, single_string, cells_string, single_nptr, cells_nptr, single_hptr, cells_hptr, single_fptr, cells_fptr, single_nsl, cells_nsl, single_hsl, cells_hsl, single_fsl, cells_fsl, single_nmap, cells_nmap, single_map, cells_map, single_func, cells_func, single_nfunc, cells_nfunc, single_iface, cells_iface, single_niface, cells_niface, St.cells, St.get_new, St.get_put, mk_get, evCall, evList, evBuiltin, sliceLen_n, sliceLen_h, sliceLen_f, nilEq, sub, numbered, upN_get, upN_next, upN_cells, readV, Tryz.f7, lb7, cd, ePr, hlt, hi, indexAddrV, ra, sx, hw1, e1, e2, sz3, ag3, z3, und3, sz4, ag4, z4, und4, sz22, ag22, z22, und22, sz27, ag27, z27, und27, sz29, ag29, z29, und29, fa29, fl29_0, sp29_0, fl29_1, sp29_1, fl29_2, sp29_2, fl29_3, sp29_3]; first | with_reducible exact ⟨rfl, rfl⟩ | with_reducible exact rfl, by simp [Has, env_get_put, mk_cons, mk_nil, ePr]⟩, ?_, by simp, hw.up 1, O, rfl, ?_⟩
      · exact Sub.put hw.self (Sub.new hw.self (Sub.refl _) (Nat.le_refl _) _) (Nat.le_refl _) _
      · rw [hsel]; simpa using hO.up 1
    · have hsel : selRow p q x = true := by simp [selRow, e1, e2]
      rw [hsel]
      rcases hO with ⟨rfl, rfl, k0, rfl⟩ | ⟨hne, b, n, hb1, hb2, rfl, rfl⟩
      · refine ⟨ePr (.fsl cs o 4 L.length cap ex) p q L.length (i + 1) (.hsl (s.next + k0 + 2) 0 4 1 1 false), _, with1 s (s.next + k0 + 2) (.cells (row4 x)) (s.next + k0 + 3), ⟨_, by simp [evCode, evRegion, evOps, evOp, opd, dstOk, wantedA, Env.putO, env_get_put, mk_cons, mk_nil, ofV, ofVa, ofVs, intOp, isShift, evDraw, runD, stepD, clsOf, readsBack, reads1, AV.beq_self, commit, loadV_h, storeV, setAll, cells_agg, single_bool, cells_bool, single_int, cells_int, single_string, cells_string, single_nptr, cells_nptr, single_hptr, cells_hptr, single_fptr, cells_fptr, single_nsl, cells_nsl, single_hsl, cells_hsl, single_fsl, cells_fsl, single_nmap, cells_nmap, single_map, cells_map, single_func, cells_func, single_nfunc, cells_nfunc, single_iface, cells_iface, single_niface, cells_niface, St.cells, St.get_new, St.get_put, mk_get, evCall, evList, evBuiltin, sliceLen_n, sliceLen_h, sliceLen_f, nilEq, sub, numbered, upN_get, upN_next, upN_cells, readV, Tryz.f7, lb7, cd, ePr, hlt, hi, indexAddrV, ra, sx, hw1, e1, e2, hg, appendV, appended, sliceCells, evParts, fillA, sz3, ag3, z3, und3, sz4, ag4, z4, und4, sz22, ag22, z22, und22, sz27, ag27, z27, und27, sz29, ag29, z29, und29, fa29, fl29_0, sp29_0, fl29_1, sp29_1, fl29_2, sp29_2, fl29_3, sp29_3]; first | with_reducible exact ⟨rfl, rfl⟩ | with_reducible exact rfl, by simp [Has, env_get_put, mk_cons, mk_nil, ePr]⟩, ?_, by simp, with1_wf hs (by omega) (by omega) _, _, rfl, ?_⟩
        · refine with1_sub (fun c y hc _ => ?_) ?_
          · have := hs.lt hc
            simp [St.get_new, St.get_put, hc, show c ≠ s.next + k0 by omega, show c ≠ s.next + k0 + 1 by omega, show c ≠ s.next + k0 + 1 + 1 by omega]
          · simp [St.get_new, St.get_put, row4]
        · exact .inr ⟨by simp, s.next + k0 + 2, s.next + k0 + 3, by omega, by omega, rfl, by simp [flat_one]⟩
      · have hl0 : acc.length ≠ 0 := fun e => hne (List.eq_nil_of_length_eq_zero e)
        refine ⟨ePr (.fsl cs o 4 L.length cap ex) p q L.length (i + 1) (.hsl (n + 2) 0 4 (acc.length + 1) (acc.length + 1) false), _, with1 s (n + 2) (.cells (flat acc ++ row4 x)) (n + 3), ⟨_, by simp [evCode, evRegion, evOps, evOp, opd, dstOk, wantedA, Env.putO, env_get_put, mk_cons, mk_nil, ofV, ofVa, ofVs, intOp, isShift, evDraw, runD, stepD, clsOf, readsBack, reads1, AV.beq_self, commit, loadV_h, storeV, setAll, cells_agg, single_bool, cells_bool, single_int, cells_int, single_string, cells_string, single_nptr, cells_nptr, single_hptr, cells_hptr, single_fptr, cells_fptr, single_nsl, cells_nsl, single_hsl, cells_hsl, single_fsl, cells_fsl, single_nmap, cells_nmap, single_map, cells_map, single_func, cells_func, single_nfunc, cells_nfunc, single_iface, cells_iface, single_niface, cells_niface, St.cells, St.get_new, St.get_put, mk_get, evCall, evList, evBuiltin, sliceLen_n, sliceLen_h, sliceLen_f, nilEq, sub, numbered, upN_get, upN_next, upN_cells, readV, Tryz.f7, lb7, cd, ePr, hlt, hi, indexAddrV, ra, sx, hw1, e1, e2, hg2, hl0, hne, appendV, appended, sliceCells, evParts, fillA, with1_get, show ¬ (acc.length + 1 ≤ acc.length) by omega, show b ≠ n by omega, show b ≠ n + 1 by omega, flat_take, flat_len, sz3, ag3, z3, und3, sz4, ag4, z4, und4, sz22, ag22, z22, und22, sz27, ag27, z27, und27, sz29, ag29, z29, und29, fa29, fl29_0, sp29_0, fl29_1, sp29_1, fl29_2, sp29_2, fl29_3, sp29_3]; first | with_reducible exact ⟨rfl, rfl⟩ | with_reducible exact rfl, by simp [Has, env_get_put, mk_cons, mk_nil, ePr]⟩, ?_, by simp, with1_wf hs (by omega) (by omega) _, _, rfl, ?_⟩
        · refine with1_sub (fun c y hc _ => ?_) ?_
          · have := hs.lt hc
            simp [St.get_new, St.get_put, with1_get, hc, show c ≠ b by omega, show c ≠ n by omega, show c ≠ n + 1 by omega, show c ≠ n + 1 + 1 by omega]
          · simp [St.get_new, St.get_put, row4]
        · exact .inr ⟨by simp, n + 2, n + 3, by omega, by omega, by simp, by simp [flat_append, flat_one]⟩

theorem body7 : Tryz.f7.body = some (.seq (cd Tryz.f7 [0]) (.seq (cd Tryz.f7 [1, 0]) (.seq (.seq (cd Tryz.f7 [1, 1, 0, 0]) (.block 0 (.loop lb7))) (.seq (cd Tryz.f7 [1, 1, 1, 0]) .ret)))) := by kernel_rfl
theorem res7 : Tryz.f7.results.toList = [.tmp 6] := by kernel_rfl
theorem loop7 {s : St heapPT} (hs : WF s) {A : AV} {L : List Row4} (h1 : IsRows A L) (hlen : L.length ≤ 2 ^ 20) (p q : Int)
    {e : Code} {x : Ex} {B C : Cond heapPT} (htell : ∀ L' t, WF t → (∃ O, L' = [(7, O)] ∧ OutIs s (L.filter (selRow p q)) O t) → ∃ L2 s2, B L2 s2 ∧ WF s2 ∧ ∀ e s0, Runs Tryz.prog Tryz.f7.ntmps (.seq (cd Tryz.f7 [1, 1, 0, 0]) (.block 0 (.loop lb7))) e s0 .normal (mk L') t → Runs Tryz.prog Tryz.f7.ntmps (.seq (cd Tryz.f7 [1, 1, 0, 0]) (.block 0 (.loop lb7))) e s0 .normal (mk L2) s2) (hk : Hoare Tryz.prog Tryz.f7.ntmps e B x C) :
    Hoare Tryz.prog Tryz.f7.ntmps (.seq (cd Tryz.f7 [0]) (.seq (cd Tryz.f7 [1, 0]) (.seq (.seq (cd Tryz.f7 [1, 1, 0, 0]) (.block 0 (.loop lb7))) e))) (fun L' t => L' = numbered [A, .int .i64 p, .int .i64 q] 0 ∧ ∃ k, t = upN s k) x C := by
  have hcal := none_ok
  have l1 := h1.len
  have p0 : RunP Tryz.prog Tryz.f7.ntmps (cd Tryz.f7 [0]) (numbered [A, .int .i64 p, .int .i64 q] 0) s .normal [(0, A), (1, .int .i64 p), (2, .int .i64 q)] s := (RunP.ev (cert := certs 7) (fuel := 0) tabOk hcal mixed (by kernel_rfl) fun k0 hw => ⟨_, ⟨_, by simp [evCode, evRegion, evOps, evOp, opd, dstOk, wantedA, Env.putO, env_get_put, mk_cons, mk_nil, ofV, ofVa, ofVs, intOp, isShift, evDraw, runD, stepD, clsOf, readsBack, reads1, AV.beq_self, commit, loadV_h, storeV, setAll, cells_agg, single_bool, cells_bool, single_int, cells_int, single_string, cells_string, single_nptr, cells_nptr, single_hptr, cells_hptr, single_fptr, cells_fptr, single_nsl, cells_nsl, single_hsl, cells_hsl, single_fsl, cells_fsl, single_nmap, cells_nmap, single_map, cells_map, single_func, cells_func, single_nfunc, cells_nfunc, single_iface, cells_iface, single_niface, cells_niface, St.cells, St.get_new, St.get_put, mk_get, evCall, evList, evBuiltin, sliceLen_n, sliceLen_h, sliceLen_f, nilEq, sub, numbered, upN_get, upN_next, upN_cells, readV, Tryz.f7, cd,  sz3, ag3, z3, und3, sz4, ag4, z4, und4, sz22, ag22, z22, und22]; first | with_reducible exact ⟨rfl, rfl⟩ | with_reducible exact rfl, by simp [Has, env_get_put, mk_cons, mk_nil, numbered, Tryz.f7, cd,  sz3, ag3, z3, und3, sz4, ag4, z4, und4, sz22, ag22, z22, und22]⟩, (by have hbl := hw.below; repeat' (first | exact Sub.refl _ | exact Sub.up (Sub.refl _) _ | refine Sub.new hbl ?_ ?_ _ | refine Sub.put hbl ?_ ?_ _ | refine Sub.up ?_ _ | refine Sub.mk ?_ _ | (simp; done) | (simp; omega)))⟩)
  have p1 : RunP Tryz.prog Tryz.f7.ntmps (cd Tryz.f7 [1, 0]) [(0, A), (1, .int .i64 p), (2, .int .i64 q)] s .normal [(0, A), (1, .int .i64 p), (2, .int .i64 q), (7, .nsl)] s := (RunP.ev (cert := certs 7) (fuel := 0) tabOk hcal mixed (by kernel_rfl) fun k0 hw => ⟨_, ⟨_, by simp [evCode, evRegion, evOps, evOp, opd, dstOk, wantedA, Env.putO, env_get_put, mk_cons, mk_nil, ofV, ofVa, ofVs, intOp, isShift, evDraw, runD, stepD, clsOf, readsBack, reads1, AV.beq_self, commit, loadV_h, storeV, setAll, cells_agg, single_bool, cells_bool, single_int, cells_int, single_string, cells_string, single_nptr, cells_nptr, single_hptr, cells_hptr, single_fptr, cells_fptr, single_nsl, cells_nsl, single_hsl, cells_hsl, single_fsl, cells_fsl, single_nmap, cells_nmap, single_map, cells_map, single_func, cells_func, single_nfunc, cells_nfunc, single_iface, cells_iface, single_niface, cells_niface, St.cells, St.get_new, St.get_put, mk_get, evCall, evList, evBuiltin, sliceLen_n, sliceLen_h, sliceLen_f, nilEq, sub, numbered, upN_get, upN_next, upN_cells, readV, Tryz.f7, cd,  sz3, ag3, z3, und3, sz4, ag4, z4, und4, sz22, ag22, z22, und22]; first | with_reducible exact ⟨rfl, rfl⟩ | with_reducible exact rfl, by simp [Has, env_get_put, mk_cons, mk_nil, numbered, Tryz.f7, cd,  sz3, ag3, z3, und3, sz4, ag4, z4, und4, sz22, ag22, z22, und22]⟩, (by have hbl := hw.below; repeat' (first | exact Sub.refl _ | exact Sub.up (Sub.refl _) _ | refine Sub.new hbl ?_ ?_ _ | refine Sub.put hbl ?_ ?_ _ | refine Sub.up ?_ _ | refine Sub.mk ?_ _ | (simp; done) | (simp; omega)))⟩)
  have p2 : RunP Tryz.prog Tryz.f7.ntmps (cd Tryz.f7 [1, 1, 0, 0]) [(0, A), (1, .int .i64 p), (2, .int .i64 q), (7, .nsl)] s .normal (ePr A p q L.length 0 .nsl) s := (RunP.ev (cert := certs 7) (fuel := 0) tabOk hcal mixed (by kernel_rfl) fun k0 hw => ⟨_, ⟨_, by simp [evCode, evRegion, evOps, evOp, opd, dstOk, wantedA, Env.putO, env_get_put, mk_cons, mk_nil, ofV, ofVa, ofVs, intOp, isShift, evDraw, runD, stepD, clsOf, readsBack, reads1, AV.beq_self, commit, loadV_h, storeV, setAll, cells_agg, single_bool, cells_bool, single_int, cells_int, single_string, cells_string, single_nptr, cells_nptr, single_hptr, cells_hptr, single_fptr, cells_fptr, single_nsl, cells_nsl, single_hsl, cells_hsl, single_fsl, cells_fsl, single_nmap, cells_nmap, single_map, cells_map, single_func, cells_func, single_nfunc, cells_nfunc, single_iface, cells_iface, single_niface, cells_niface, St.cells, St.get_new, St.get_put, mk_get, evCall, evList, evBuiltin, sliceLen_n, sliceLen_h, sliceLen_f, nilEq, sub, numbered, upN_get, upN_next, upN_cells, readV, Tryz.f7, cd,  ePr, l1, sz3, ag3, z3, und3, sz4, ag4, z4, und4, sz22, ag22, z22, und22]; first | with_reducible exact ⟨rfl, rfl⟩ | with_reducible exact rfl, by simp [Has, env_get_put, mk_cons, mk_nil, numbered, Tryz.f7, cd,  ePr, l1, sz3, ag3, z3, und3, sz4, ag4, z4, und4, sz22, ag22, z22, und22]⟩, (by have hbl := hw.below; repeat' (first | exact Sub.refl _ | exact Sub.up (Sub.refl _) _ | refine Sub.new hbl ?_ ?_ _ | refine Sub.put hbl ?_ ?_ _ | refine Sub.up ?_ _ | refine Sub.mk ?_ _ | (simp; done) | (simp; omega)))⟩)
  refine Hoare.seq (p0.hoare hs) (Hoare.seq (p1.hoare hs) (Hoare.seq ((Hoare.seq ((p2.hoare hs).weak (B' := IPr s A p q L.length ((L.take 0).filter (selRow p q)) 0) (fun _ _ h => h) ?_) (Hoare.block (x := .exit 0) (B := fun L' t => ∃ O, L' = [(7, O)] ∧ OutIs s (L.filter (selRow p q)) O t) ?_)).tell htell) hk))
  · rintro _ t ⟨rfl, k, rfl⟩
    exact ⟨.nsl, rfl, .inl ⟨by simp, rfl, k, rfl⟩⟩
  · have last : Hoare Tryz.prog Tryz.f7.ntmps lb7 (IPr s A p q L.length ((L.take L.length).filter (selRow p q)) L.length) (.exit 0) (fun L' t => ∃ O, L' = [(7, O)] ∧ OutIs s (L.filter (selRow p q)) O t) := by
      refine Hoare.ev (cert := certs 7) (fuel := 0) tabOk none_ok mixed (by kernel_rfl) ?_
      rintro _ t hw ⟨O, rfl, hO⟩
      rw [List.take_length] at hO
      exact ⟨[(7, O)], _, t, ⟨_, by simp [evCode, evRegion, evOps, evOp, opd, dstOk, wantedA, Env.putO, env_get_put, mk_cons, mk_nil, ofV, ofVa, ofVs, intOp, isShift, evDraw, runD, stepD, clsOf, readsBack, reads1, AV.beq_self, commit, loadV_h, storeV, setAll, cells_agg, single_bool, cells_bool, single_int, cells_int, single_string, cells_string, single_nptr, cells_nptr, single_hptr, cells_hptr, single_fptr, cells_fptr, single_nsl, cells_nsl, single_hsl, cells_hsl, single_fsl, cells_fsl, single_nmap, cells_nmap, single_map, cells_map, single_func, cells_func, single_nfunc, cells_nfunc, single_iface, cells_iface, single_niface, cells_niface, St.cells, St.get_new, St.get_put, mk_get, evCall, evList, evBuiltin, sliceLen_n, sliceLen_h, sliceLen_f, nilEq, sub, numbered, upN_get, upN_next, upN_cells, readV, Tryz.f7, lb7, cd, ePr, ltI_self, sz3, ag3, z3, und3, sz4, ag4, z4, und4, sz22, ag22, z22, und22]; first | with_reducible exact ⟨rfl, rfl⟩ | with_reducible exact rfl, by simp [Has, env_get_put, mk_cons, mk_nil, ePr]⟩, Sub.refl _, Nat.le_refl _, hw, O, rfl, hO⟩
    refine Hoare.loop (n := L.length) (fun i => IPr s A p q L.length ((L.take i).filter (selRow p q)) i) (by intro e; cases e) (fun i hi => ?_) last
    have hx : L[i]? = some L[i] := by simp [hi]
    rcases h1.2 with ⟨rfl, rfl⟩ | ⟨cs, o, cap, ex, rfl, _⟩
    · simp at hi
    · have := round7 hs h1 hlen (p := p) (q := q) (acc := (L.take i).filter (selRow p q)) (Nat.le_trans (List.length_filter_le _ _) (by rw [List.length_take]; omega)) hx
      rw [← filter_take _ _ _ _ hx] at this
      exact this

theorem pure7 {A : AV} {L : List Row4} (h1 : IsRows A L) (hlen : L.length ≤ 2 ^ 20) (hbs : ∀ x ∈ L, x.bs.length ≤ 2 ^ 20) (p q : Int) : Pure Tryz.prog heapPT 7 [A, .int .i64 p, .int .i64 q] (rowsV ((L.filter (selRow p q)).map cl)) := by
  refine Pure.of fun s hs => ?_
  have hF : (L.filter (selRow p q)).length ≤ 2 ^ 20 := Nat.le_trans (List.length_filter_le _ _) hlen
  have hFb : ∀ x ∈ L.filter (selRow p q), IsBytes x.B x.bs ∧ x.bs.length ≤ 2 ^ 20 := fun x hx => ⟨h1.1.2 x (List.mem_filter.1 hx).1, hbs x (List.mem_filter.1 hx).1⟩
  obtain ⟨kk, h17⟩ := pure_call (T := tab) (HI := heapPT) (V := one 17 [rowsV (L.filter (selRow p q))] (rowsV ((L.filter (selRow p q)).map cl))) (f := 17) (by rw [tf17]; rfl) (one_eq _ _ _) (pure17 hF hFb)
  have hcal := cSpec_ok (P := Tryz.prog) (HI := heapPT) (pureD (one 17 [rowsV (L.filter (selRow p q))] (rowsV ((L.filter (selRow p q)).map cl))))
  have fin : RunP Tryz.prog Tryz.f7.ntmps (cd Tryz.f7 [1, 1, 1, 0]) [(7, rowsV (L.filter (selRow p q)))] s .normal [(6, rowsV ((L.filter (selRow p q)).map cl))] s := (RunP.ev (cert := certs 7) (fuel := 0) tabOk hcal mixed (by kernel_rfl) fun k0 hw => ⟨_, ⟨_, by simp [evCode, evRegion, evOps, evOp, opd, dstOk, wantedA, Env.putO, env_get_put, mk_cons, mk_nil, ofV, ofVa, ofVs, intOp, isShift, evDraw, runD, stepD, clsOf, readsBack, reads1, AV.beq_self, commit, loadV_h, storeV, setAll, cells_agg, single_bool, cells_bool, single_int, cells_int, single_string, cells_string, single_nptr, cells_nptr, single_hptr, cells_hptr, single_fptr, cells_fptr, single_nsl, cells_nsl, single_hsl, cells_hsl, single_fsl, cells_fsl, single_nmap, cells_nmap, single_map, cells_map, single_func, cells_func, single_nfunc, cells_nfunc, single_iface, cells_iface, single_niface, cells_niface, St.cells, St.get_new, St.get_put, mk_get, evCall, evList, evBuiltin, sliceLen_n, sliceLen_h, sliceLen_f, nilEq, sub, numbered, upN_get, upN_next, upN_cells, readV, Tryz.f7, cd,  h17, sz3, ag3, z3, und3, sz4, ag4, z4, und4, sz22, ag22, z22, und22]; first | with_reducible exact ⟨rfl, rfl⟩ | with_reducible exact rfl, by simp [Has, env_get_put, mk_cons, mk_nil, numbered, Tryz.f7, cd,  h17, sz3, ag3, z3, und3, sz4, ag4, z4, und4, sz22, ag22, z22, und22]⟩, (by have hbl := hw.below; repeat' (first | exact Sub.refl _ | exact Sub.up (Sub.refl _) _ | refine Sub.new hbl ?_ ?_ _ | refine Sub.put hbl ?_ ?_ _ | refine Sub.up ?_ _ | refine Sub.mk ?_ _ | (simp; done) | (simp; omega)))⟩)
  have tl : ∀ (c : Code) L' t, WF t → (∃ O, L' = [(7, O)] ∧ OutIs s (L.filter (selRow p q)) O t) → ∃ L2 s2, (L2 = [(7, rowsV (L.filter (selRow p q)))] ∧ ∃ k, s2 = upN s k) ∧ WF s2 ∧ ∀ e s0, Runs Tryz.prog Tryz.f7.ntmps c e s0 .normal (mk L') t → Runs Tryz.prog Tryz.f7.ntmps c e s0 .normal (mk L2) s2 := by
    intro c
    rintro _ t hw ⟨O, rfl, hO⟩
    rcases out_freeze hs hO with ⟨rfl, k, rfl⟩ | ⟨b, cs, g1, g2, rfl, g4, g5⟩
    · exact ⟨_, _, ⟨rfl, k, rfl⟩, hw, fun _ _ h => h⟩
    · refine ⟨_, upN s t.next, ⟨rfl, _, rfl⟩, hs.up _, fun e s0 h => h.freeze g1 g5 (by simp) (fun u v hv => ?_)⟩
      rw [mk_cons] at hv
      split at hv
      · rename_i e1
        cases hv
        subst e1
        exact .inr ⟨_, _, _, _, _, g4, by simp [mk_cons]⟩
      · rw [mk_nil] at hv; cases hv
  have body : Hoare Tryz.prog Tryz.f7.ntmps (.seq (cd Tryz.f7 [0]) (.seq (cd Tryz.f7 [1, 0]) (.seq (.seq (cd Tryz.f7 [1, 1, 0, 0]) (.block 0 (.loop lb7))) (.seq (cd Tryz.f7 [1, 1, 1, 0]) .ret)))) (fun L' t => L' = numbered [A, .int .i64 p, .int .i64 q] 0 ∧ ∃ k, t = upN s k) .ret (fun L' t => L' = [(6, rowsV ((L.filter (selRow p q)).map cl))] ∧ ∃ k, t = upN s k) :=
    loop7 hs h1 hlen p q (tl _) (Hoare.seq (fin.hoare hs) Hoare.ret)
  obtain ⟨L2, s1, hq, hsnd⟩ := Hoare.sound tabOk tf7 body7 (args := [A, .int .i64 p, .int .i64 q]) (Nat.le_of_ble_eq_true (by kernel_rfl)) (.inr rfl) body (s := s) (fun _ => ⟨rfl, 0, rfl⟩)
  obtain ⟨⟨rfl, k, rfl⟩, _⟩ := hq hs
  exact ⟨k, hsnd [rowsV ((L.filter (selRow p q)).map cl)] (by rw [res7]; simp [resA, mk_cons])⟩

end Go.Proofs.YtbjkfbcladkfcaaGreatDoor
namespace Go.Proofs.YtbjkfbcladkfcaaGreatDoor
open Go Go.Am
set_option maxRecDepth 100000

theorem und26 : tab.und 26 = some (.map 30 4) := by kernel_rfl
theorem tf3 : tab.func 3 = some Tryz.f3 := by kernel_rfl
theorem sliceLen_rowsV (M : List Row4) : sliceLen (rowsV M) = some M.length := by
  unfold rowsV
  split
  · rename_i h; rw [h]; rfl
  · rfl
theorem isRows_rowsV {M : List Row4} (hl : M.length < 2 ^ 63) (hb : ∀ x ∈ M, IsBytes x.B x.bs) : IsRows (rowsV M) M := by
  unfold rowsV
  split
  · rename_i h
    have : M = [] := List.eq_nil_of_length_eq_zero h
    subst this
    exact isRows_nil
  · exact isRows_flat hl hb _ _

/-- What the law calls, by what the lists hold. -/
noncomputable def V3 : FuncId → List AV → Option AV := fun f args => match args with
  | [] => if f = 6 then some (.bool true) else none
  | [A, .int .i64 p, .int .i64 q] => match rowsOf A with
    | some L => if f = 7 then some (rowsV ((L.filter (selRow p q)).map cl)) else if f = 9 then some (rowsV (L.filter (selRow p q))) else none
    | none => none
  | [A, B] => if f = 10 ∨ f = 8 then match rowsOf A, rowsOf B with
      | some L, some M => some (.bool (sameL L M))
      | _, _ => none
    else none
  | _ => none

theorem sameL_cl (hb : ∀ x : Row4, (cl x).k = x.k ∧ (cl x).p = x.p ∧ (cl x).s = x.s ∧ (cl x).bs = x.bs) : ∀ (M : List Row4), sameL (M.map cl) M = true
  | [] => rfl
  | x :: xs => by
    obtain ⟨h1, h2, h3, h4⟩ := hb x
    simp only [List.map_cons, sameL, sameRow, h1, h2, h3, h4, eqI_self, sameL_cl hb xs, decide_true, Bool.and_self]
theorem cl_eq (x : Row4) : (cl x).k = x.k ∧ (cl x).p = x.p ∧ (cl x).s = x.s ∧ (cl x).bs = x.bs := ⟨rfl, rfl, rfl, rfl⟩
theorem sel_cl (p q : Int) (x : Row4) : selRow p q (cl x) = selRow p q x := rfl

noncomputable def R3 : Array Oper := match cd Tryz.f3 [1, 1, 1, 1, 0, 0] with
  | .region _ ops _ => ops
  | _ => #[]
theorem R3_eq : cd Tryz.f3 [1, 1, 1, 1, 0, 0] = .region 5 R3 false := by kernel_rfl
theorem R3_len : R3.toList.length = 22 := by kernel_rfl
def Part3 (a n : Nat) (e : Env) (s : St heapPT) (L' : List (Nat × AV)) (s' : St heapPT) : Prop :=
  ∃ e', evOps Tryz.prog tab (cSpec Tryz.prog (pureD V3)) 78 R3 ((R3.toList.drop a).take n) e s = some (e', s') ∧ Has e' L'

noncomputable def lb3 : Code := cd Tryz.f3 [1, 1, 1, 1, 1, 1, 1, 0, 1, 0, 0]
noncomputable def c3 (p : List Nat) : Code := cd Tryz.f3 ([1, 1, 1, 1, 1, 1, 1, 0, 1, 0, 0] ++ p)
theorem lb3_eq : lb3 = .seq (c3 [0]) (.seq (c3 [1, 0]) (.seq (.block 1 (.seq (c3 [1, 1, 0, 0, 0]) (.seq (c3 [1, 1, 0, 0, 1, 0]) (.seq (c3 [1, 1, 0, 0, 1, 1, 0]) (c3 [1, 1, 0, 0, 1, 1, 1]))))) (c3 [1, 1, 1]))) := by kernel_rfl
theorem body3 : Tryz.f3.body = some (.seq (cd Tryz.f3 [0]) (.seq (cd Tryz.f3 [1, 0]) (.seq (cd Tryz.f3 [1, 1, 0]) (.seq (cd Tryz.f3 [1, 1, 1, 0]) (.seq (.seq (cd Tryz.f3 [1, 1, 1, 1, 0, 0]) (cd Tryz.f3 [1, 1, 1, 1, 0, 1])) (.seq (cd Tryz.f3 [1, 1, 1, 1, 1, 0]) (.seq (cd Tryz.f3 [1, 1, 1, 1, 1, 1, 0]) (.seq (.seq (cd Tryz.f3 [1, 1, 1, 1, 1, 1, 1, 0, 0]) (.block 0 (.loop lb3))) (.seq (cd Tryz.f3 [1, 1, 1, 1, 1, 1, 1, 1, 0]) .ret))))))))) := by kernel_rfl

def e3 (A : AV) (n i b c : Nat) : List (Nat × AV) := [(0, A), (8, .map b), (9, .int .i64 c), (47, A), (48, .int .i64 n), (49, .int .i64 i)]
/-- What is so of the state in the loop. -/
def St3 (s : St heapPT) (b : Nat) (es : List (Int × Int)) (t : St heapPT) : Prop := Sub s t ∧ s.next ≤ t.next ∧ s.next ≤ b ∧ b < t.next ∧ t.get b = some (.map (pairsOf es))
def I3 (s : St heapPT) (A : AV) (L : List Row4) (i : Nat) : Cond heapPT := fun L' t => ∃ b, L' = e3 A L.length i b (cntP L i) ∧ St3 s b (seenP (L.take i)) t

theorem info3 : Tryz.prog.info? 3 = some Tryz.t3 := by kernel_rfl
theorem size3 : Tryz.t3.size = 1 := by kernel_rfl
theorem St3.new {s : St heapPT} {b : Nat} {es : List (Int × Int)} {t : St heapPT} (hs : WF s) (h : St3 s b es t) (x : Blk) : St3 s b es (t.new x) := by
  obtain ⟨h1, h2, h3, h4, h5⟩ := h
  exact ⟨Sub.new hs.self h1 h2 x, by simp; omega, h3, by simp; omega, by rw [St.get_new, if_neg (by omega)]; exact h5⟩
theorem St3.put {s : St heapPT} {b c : Nat} {es : List (Int × Int)} {t : St heapPT} (hs : WF s) (h : St3 s b es t) (hc : s.next ≤ c) (hne : c ≠ b) (x : Option Blk) : St3 s b es (t.put c x) := by
  obtain ⟨h1, h2, h3, h4, h5⟩ := h
  exact ⟨Sub.put hs.self h1 hc x, h2, h3, h4, by rw [St.get_put, if_neg (by omega)]; exact h5⟩

theorem round3 {s : St heapPT} (hs : WF s) {A : AV} {L : List Row4} (h1 : IsRows A L) (hlen : L.length ≤ 100) (hbs : ∀ x ∈ L, x.bs.length ≤ 2 ^ 20) {i : Nat} (hi : i < L.length) :
    Hoare Tryz.prog Tryz.f3.ntmps lb3 (I3 s A L i) .normal (I3 s A L (i + 1)) := by
  have hx : L[i]? = some L[i] := by simp [hi]
  generalize L[i] = x at hx
  rcases h1.2 with ⟨rfl, rfl⟩ | ⟨cs, o, cap, ex, rfl, _⟩
  · simp at hi
  have hB := h1.1.2 x (List.mem_of_getElem? hx)
  have sx := hB.single
  have ra := (h1.at (HI := heapPT) ag29 sz29 ag3 ag27 hx).all
  have hlt := ltI_cast hi
  have hw1 := wrap_one (i := i) (by omega)
  have hlen20 : L.length ≤ 2 ^ 20 := by omega
  obtain ⟨k7, h7⟩ := pure_call (T := tab) (HI := heapPT) (V := V3) (f := 7) (by rw [tf7]; rfl) (args := [.fsl cs o 4 L.length cap ex, .int .i64 x.p, .int .i64 x.s]) (v := rowsV ((L.filter (selRow x.p x.s)).map cl)) (by simp only [V3, rowsOf_eq h1]; rfl) (pure7 h1 hlen20 hbs x.p x.s)
  have hcal := cSpec_ok (P := Tryz.prog) (HI := heapPT) (pureD V3)
  have hfind := findA_pair (P := Tryz.prog) (t := 30) (e := 3) Tryz.underlying30 Tryz.underlying3 info3 size3 x.p x.s (seenP (L.take i))
  generalize hA : AV.fsl cs o 4 L.length cap ex = A at *
  rw [lb3_eq]
  refine Hoare.seq (B := fun L' t => ∃ b, L' = (50, .bool true) :: e3 A L.length i b (cntP L i) ∧ St3 s b (seenP (L.take i)) t) ?_ (Hoare.seq (B := fun L' t => ∃ b, L' = e3 A L.length i b (cntP L i) ∧ St3 s b (seenP (L.take i)) t) ?_ (Hoare.seq (B := fun L' t => ∃ b, L' = e3 A L.length i b (cntP L (i + 1)) ∧ St3 s b (seenP (L.take (i + 1))) t) (Hoare.block (x := .normal) ?_) ?_))
  · refine Hoare.ev (cert := certs 3) (fuel := 0) tabOk hcal mixed (by kernel_rfl) ?_
    rintro _ t hw ⟨b, rfl, hS⟩
    exact ⟨_, _, t, ⟨_, by simp [evCode, evRegion, evOps, evOp, opd, dstOk, wantedA, Env.putO, env_get_put, mk_cons, mk_nil, ofV, ofVa, ofVs, intOp, isShift, evDraw, runD, stepD, clsOf, readsBack, reads1, AV.beq_self, commit, loadV_h, storeV, setAll, cells_agg, single_bool, cells_bool, single_int, cells_int, single_string, cells_string, single_nptr, cells_nptr, single_hptr, cells_hptr, single_fptr, cells_fptr, single_nsl, cells_nsl, single_hsl, cells_hsl, single_fsl, cells_fsl, single_nmap, cells_nmap, single_map, cells_map, single_func, cells_func, single_nfunc, cells_nfunc, single_iface, cells_iface, single_niface, cells_niface, St.cells, St.get_new, St.get_put, mk_get, evCall, evList, evBuiltin, sliceLen_n, sliceLen_h, sliceLen_f, nilEq, sub, numbered, upN_get, upN_next, upN_cells, readV, Tryz.f3, c3, cd, e3, hlt, sz3, ag3, z3, und3, sz4, ag4, z4, und4, sz22, ag22, z22, und22]; first | with_reducible exact ⟨rfl, rfl⟩ | with_reducible exact rfl, by simp [Has, env_get_put, mk_cons, mk_nil, e3]⟩, Sub.refl _, Nat.le_refl _, hw, b, rfl, hS⟩
  · refine Hoare.ev (cert := certs 3) (fuel := 0) tabOk hcal mixed (by kernel_rfl) ?_
    rintro _ t hw ⟨b, rfl, hS⟩
    exact ⟨_, _, t, ⟨_, by simp [evCode, evRegion, evOps, evOp, opd, dstOk, wantedA, Env.putO, env_get_put, mk_cons, mk_nil, ofV, ofVa, ofVs, intOp, isShift, evDraw, runD, stepD, clsOf, readsBack, reads1, AV.beq_self, commit, loadV_h, storeV, setAll, cells_agg, single_bool, cells_bool, single_int, cells_int, single_string, cells_string, single_nptr, cells_nptr, single_hptr, cells_hptr, single_fptr, cells_fptr, single_nsl, cells_nsl, single_hsl, cells_hsl, single_fsl, cells_fsl, single_nmap, cells_nmap, single_map, cells_map, single_func, cells_func, single_nfunc, cells_nfunc, single_iface, cells_iface, single_niface, cells_niface, St.cells, St.get_new, St.get_put, mk_get, evCall, evList, evBuiltin, sliceLen_n, sliceLen_h, sliceLen_f, nilEq, sub, numbered, upN_get, upN_next, upN_cells, readV, Tryz.f3, c3, cd, e3, sz3, ag3, z3, und3, sz4, ag4, z4, und4, sz22, ag22, z22, und22]; first | with_reducible exact ⟨rfl, rfl⟩ | with_reducible exact rfl, by simp [Has, env_get_put, mk_cons, mk_nil, e3]⟩, Sub.refl _, Nat.le_refl _, hw, b, rfl, hS⟩
  · refine Hoare.seq (B := fun L' t => ∃ b c, L' = (11, .hptr c 0) :: e3 A L.length i b (cntP L i) ∧ St3 s b (seenP (L.take i)) t ∧ s.next ≤ c ∧ c ≠ b ∧ c < t.next ∧ t.get c = some (.cells [.int .i64 x.k, .int .i64 x.p, .int .i64 x.s, x.B])) ?_ (Hoare.seq (B := fun L' t => ∃ b c d, L' = (12, .hptr d 0) :: (11, .hptr c 0) :: e3 A L.length i b (cntP L i) ∧ St3 s b (seenP (L.take i)) t ∧ s.next ≤ c ∧ c ≠ b ∧ c < t.next ∧ d < t.next ∧ d ≠ b ∧ t.get c = some (.cells [.int .i64 x.k, .int .i64 x.p, .int .i64 x.s, x.B]) ∧ t.get d = some (.cells [.int .i64 x.p, .int .i64 x.s])) ?_ (Hoare.seq (B := fun L' t => ∃ b c d, L' = (61, .bool !inEs (seenP (L.take i)) x) :: (12, .hptr d 0) :: (11, .hptr c 0) :: e3 A L.length i b (cntP L i) ∧ St3 s b (seenP (L.take i)) t ∧ s.next ≤ c ∧ c ≠ b ∧ c < t.next ∧ d < t.next ∧ d ≠ b ∧ t.get c = some (.cells [.int .i64 x.k, .int .i64 x.p, .int .i64 x.s, x.B]) ∧ t.get d = some (.cells [.int .i64 x.p, .int .i64 x.s])) ?_ ?_))
    · refine Hoare.ev (cert := certs 3) (fuel := 0) tabOk hcal mixed (by kernel_rfl) ?_
      rintro _ t hw ⟨b, rfl, hS⟩
      subst hA
      refine ⟨_, (t.new (.cells [.int .i64 0, .int .i64 0, .int .i64 0, .nsl])).put t.next (some (.cells [.int .i64 x.k, .int .i64 x.p, .int .i64 x.s, x.B])), (t.new (.cells [.int .i64 0, .int .i64 0, .int .i64 0, .nsl])).put t.next (some (.cells [.int .i64 x.k, .int .i64 x.p, .int .i64 x.s, x.B])), ⟨_, by simp [evCode, evRegion, evOps, evOp, opd, dstOk, wantedA, Env.putO, env_get_put, mk_cons, mk_nil, ofV, ofVa, ofVs, intOp, isShift, evDraw, runD, stepD, clsOf, readsBack, reads1, AV.beq_self, commit, loadV_h, storeV, setAll, cells_agg, single_bool, cells_bool, single_int, cells_int, single_string, cells_string, single_nptr, cells_nptr, single_hptr, cells_hptr, single_fptr, cells_fptr, single_nsl, cells_nsl, single_hsl, cells_hsl, single_fsl, cells_fsl, single_nmap, cells_nmap, single_map, cells_map, single_func, cells_func, single_nfunc, cells_nfunc, single_iface, cells_iface, single_niface, cells_niface, St.cells, St.get_new, St.get_put, mk_get, evCall, evList, evBuiltin, sliceLen_n, sliceLen_h, sliceLen_f, nilEq, sub, numbered, upN_get, upN_next, upN_cells, readV, Tryz.f3, c3, cd, e3, hi, indexAddrV, ra, sx, sz3, ag3, z3, und3, sz4, ag4, z4, und4, sz22, ag22, z22, und22, sz27, ag27, z27, und27, sz29, ag29, z29, und29, fa29, fl29_0, sp29_0, fl29_1, sp29_1, fl29_2, sp29_2, fl29_3, sp29_3]; first | with_reducible exact ⟨rfl, rfl⟩ | with_reducible exact rfl, by simp [Has, env_get_put, mk_cons, mk_nil, e3]⟩, Sub.refl _, Nat.le_refl _, (hw.new _).put (by simp) _, b, t.next, rfl, ?_, hS.2.1, ?_, by simp, by simp [St.get_put]⟩
      · exact (hS.new hs _).put hs hS.2.1 (by have := hS.2.2.2.1; omega) _
      · have := hS.2.2.2.1; omega
    · refine Hoare.ev (cert := certs 3) (fuel := 0) tabOk hcal mixed (by kernel_rfl) ?_
      rintro _ t hw ⟨b, c, rfl, hS, hc1, hc2, hc3, hc4⟩
      refine ⟨_, (t.new (.cells [.int .i64 0, .int .i64 0])).put t.next (some (.cells [.int .i64 x.p, .int .i64 x.s])), (t.new (.cells [.int .i64 0, .int .i64 0])).put t.next (some (.cells [.int .i64 x.p, .int .i64 x.s])), ⟨_, by simp [evCode, evRegion, evOps, evOp, opd, dstOk, wantedA, Env.putO, env_get_put, mk_cons, mk_nil, ofV, ofVa, ofVs, intOp, isShift, evDraw, runD, stepD, clsOf, readsBack, reads1, AV.beq_self, commit, loadV_h, storeV, setAll, cells_agg, single_bool, cells_bool, single_int, cells_int, single_string, cells_string, single_nptr, cells_nptr, single_hptr, cells_hptr, single_fptr, cells_fptr, single_nsl, cells_nsl, single_hsl, cells_hsl, single_fsl, cells_fsl, single_nmap, cells_nmap, single_map, cells_map, single_func, cells_func, single_nfunc, cells_nfunc, single_iface, cells_iface, single_niface, cells_niface, St.cells, St.get_new, St.get_put, mk_get, evCall, evList, evBuiltin, sliceLen_n, sliceLen_h, sliceLen_f, nilEq, sub, numbered, upN_get, upN_next, upN_cells, readV, Tryz.f3, c3, cd, e3, hc4, evParts, fillA, sz3, ag3, z3, und3, sz4, ag4, z4, und4, sz22, ag22, z22, und22, sz27, ag27, z27, und27, sz29, ag29, z29, und29, fa29, fl29_0, sp29_0, fl29_1, sp29_1, fl29_2, sp29_2, fl29_3, sp29_3, sz30, ag30, z30, und30]; first | with_reducible exact ⟨rfl, rfl⟩ | with_reducible exact rfl, by simp [Has, env_get_put, mk_cons, mk_nil, e3]⟩, Sub.refl _, Nat.le_refl _, (hw.new _).put (by simp) _, b, c, t.next, rfl, ?_, hc1, hc2, by simp; omega, by simp, ?_, ?_, by simp [St.get_put]⟩
      · exact (hS.new hs _).put hs hS.2.1 (by have := hS.2.2.2.1; omega) _
      · have := hS.2.2.2.1; omega
      · simp [St.get_put, St.get_new, show c ≠ t.next by omega, hc4]
    · refine Hoare.ev (cert := certs 3) (fuel := 0) tabOk hcal mixed (by kernel_rfl) ?_
      rintro _ t hw ⟨b, c, d, rfl, hS, hc1, hc2, hc3, hd1, hd2, hc4, hd4⟩
      have hm : t.mapOf b = some (pairsOf (seenP (L.take i))) := by unfold St.mapOf; rw [hS.2.2.2.2]
      cases hin : inEs (seenP (L.take i)) x
      · rw [find_none hin] at hfind
        exact ⟨_, _, t, ⟨_, by simp [evCode, evRegion, evOps, evOp, opd, dstOk, wantedA, Env.putO, env_get_put, mk_cons, mk_nil, ofV, ofVa, ofVs, intOp, isShift, evDraw, runD, stepD, clsOf, readsBack, reads1, AV.beq_self, commit, loadV_h, storeV, setAll, cells_agg, single_bool, cells_bool, single_int, cells_int, single_string, cells_string, single_nptr, cells_nptr, single_hptr, cells_hptr, single_fptr, cells_fptr, single_nsl, cells_nsl, single_hsl, cells_hsl, single_fsl, cells_fsl, single_nmap, cells_nmap, single_map, cells_map, single_func, cells_func, single_nfunc, cells_nfunc, single_iface, cells_iface, single_niface, cells_niface, St.cells, St.get_new, St.get_put, mk_get, evCall, evList, evBuiltin, sliceLen_n, sliceLen_h, sliceLen_f, nilEq, sub, numbered, upN_get, upN_next, upN_cells, readV, Tryz.f3, c3, cd, e3, hd4, lookupV, hm, hfind, und26, sz3, ag3, z3, und3, sz4, ag4, z4, und4, sz22, ag22, z22, und22, sz27, ag27, z27, und27, sz29, ag29, z29, und29, fa29, fl29_0, sp29_0, fl29_1, sp29_1, fl29_2, sp29_2, fl29_3, sp29_3, sz30, ag30, z30, und30]; first | with_reducible exact ⟨rfl, rfl⟩ | with_reducible exact rfl, by simp [Has, env_get_put, mk_cons, mk_nil, e3]⟩, Sub.refl _, Nat.le_refl _, hw, b, c, d, rfl, hS, hc1, hc2, hc3, hd1, hd2, hc4, hd4⟩
      · obtain ⟨j, hj, hjl⟩ := find_some hin
        rw [hj] at hfind
        have hel : (pairsOf (seenP (L.take i)))[j]? = some (pairA ((seenP (L.take i))[j]), .bool true) := by simp [pairsOf, hjl]
        exact ⟨_, _, t, ⟨_, by simp [evCode, evRegion, evOps, evOp, opd, dstOk, wantedA, Env.putO, env_get_put, mk_cons, mk_nil, ofV, ofVa, ofVs, intOp, isShift, evDraw, runD, stepD, clsOf, readsBack, reads1, AV.beq_self, commit, loadV_h, storeV, setAll, cells_agg, single_bool, cells_bool, single_int, cells_int, single_string, cells_string, single_nptr, cells_nptr, single_hptr, cells_hptr, single_fptr, cells_fptr, single_nsl, cells_nsl, single_hsl, cells_hsl, single_fsl, cells_fsl, single_nmap, cells_nmap, single_map, cells_map, single_func, cells_func, single_nfunc, cells_nfunc, single_iface, cells_iface, single_niface, cells_niface, St.cells, St.get_new, St.get_put, mk_get, evCall, evList, evBuiltin, sliceLen_n, sliceLen_h, sliceLen_f, nilEq, sub, numbered, upN_get, upN_next, upN_cells, readV, Tryz.f3, c3, cd, e3, hd4, lookupV, hm, hfind, hel, und26, sz3, ag3, z3, und3, sz4, ag4, z4, und4, sz22, ag22, z22, und22, sz27, ag27, z27, und27, sz29, ag29, z29, und29, fa29, fl29_0, sp29_0, fl29_1, sp29_1, fl29_2, sp29_2, fl29_3, sp29_3, sz30, ag30, z30, und30]; first | with_reducible exact ⟨rfl, rfl⟩ | with_reducible exact rfl, by simp [Has, env_get_put, mk_cons, mk_nil, e3]⟩, Sub.refl _, Nat.le_refl _, hw, b, c, d, rfl, hS, hc1, hc2, hc3, hd1, hd2, hc4, hd4⟩
    · refine Hoare.ev (cert := certs 3) (fuel := 0) tabOk hcal mixed (by kernel_rfl) ?_
      rintro _ t hw ⟨b, c, d, rfl, hS, hc1, hc2, hc3, hd1, hd2, hc4, hd4⟩
      have hm : t.mapOf b = some (pairsOf (seenP (L.take i))) := by unfold St.mapOf; rw [hS.2.2.2.2]
      cases hin : inEs (seenP (L.take i)) x
      · rw [find_none hin] at hfind
        rw [count_new hx hin, seen_next hx, stepE, if_neg (by rw [hin]; simp)]
        have hcnt : cntP L i + (L.filter (selRow x.p x.s)).length < 2 ^ 63 := by
          have h1 := count_le L i
          have h2 : (L.filter (selRow x.p x.s)).length ≤ L.length := List.length_filter_le _ _
          omega
        have hw2 := wrap_add hcnt
        have hlv := sliceLen_rowsV ((L.filter (selRow x.p x.s)).map cl)
        rw [List.length_map] at hlv
        have hpo : pairsOf (seenP (L.take i) ++ [(x.p, x.s)]) = pairsOf (seenP (L.take i)) ++ [(.agg [.int .i64 x.p, .int .i64 x.s], .bool true)] := by simp [pairsOf, pairA]
        refine ⟨e3 A L.length i b (cntP L i + (L.filter (selRow x.p x.s)).length), _, upN (t.put b (some (.map (pairsOf (seenP (L.take i) ++ [(x.p, x.s)]))))) (k7 (t.put b (some (.map (pairsOf (seenP (L.take i) ++ [(x.p, x.s)])))))), ⟨_, by simp [evCode, evRegion, evOps, evOp, opd, dstOk, wantedA, Env.putO, env_get_put, mk_cons, mk_nil, ofV, ofVa, ofVs, intOp, isShift, evDraw, runD, stepD, clsOf, readsBack, reads1, AV.beq_self, commit, loadV_h, storeV, setAll, cells_agg, single_bool, cells_bool, single_int, cells_int, single_string, cells_string, single_nptr, cells_nptr, single_hptr, cells_hptr, single_fptr, cells_fptr, single_nsl, cells_nsl, single_hsl, cells_hsl, single_fsl, cells_fsl, single_nmap, cells_nmap, single_map, cells_map, single_func, cells_func, single_nfunc, cells_nfunc, single_iface, cells_iface, single_niface, cells_niface, St.cells, St.get_new, St.get_put, mk_get, evCall, evList, evBuiltin, sliceLen_n, sliceLen_h, sliceLen_f, nilEq, sub, numbered, upN_get, upN_next, upN_cells, readV, Tryz.f3, c3, cd, e3, hd4, hc4, hc2, hd2, updateV, hm, hfind, ← hpo, h7, hlv, hw2, und26, sz3, ag3, z3, und3, sz4, ag4, z4, und4, sz22, ag22, z22, und22, sz27, ag27, z27, und27, sz29, ag29, z29, und29, fa29, fl29_0, sp29_0, fl29_1, sp29_1, fl29_2, sp29_2, fl29_3, sp29_3, sz30, ag30, z30, und30]; first | with_reducible exact ⟨rfl, rfl⟩ | with_reducible exact rfl, by simp [Has, env_get_put, mk_cons, mk_nil, e3]⟩, fun _ _ h => h, by simp, (hw.put hS.2.2.2.1 _).up _, b, rfl, ?_⟩
        obtain ⟨g1, g2, g3, g4, g5⟩ := hS
        exact ⟨Sub.up (Sub.put hs.self g1 g3 _) _, by simp; omega, g3, by simp; omega, by simp [St.get_put]⟩
      · rw [count_old hx hin, seen_next hx, stepE, if_pos hin]
        exact ⟨e3 A L.length i b (cntP L i), _, t, ⟨_, by simp [evCode, evRegion, evOps, evOp, opd, dstOk, wantedA, Env.putO, env_get_put, mk_cons, mk_nil, ofV, ofVa, ofVs, intOp, isShift, evDraw, runD, stepD, clsOf, readsBack, reads1, AV.beq_self, commit, loadV_h, storeV, setAll, cells_agg, single_bool, cells_bool, single_int, cells_int, single_string, cells_string, single_nptr, cells_nptr, single_hptr, cells_hptr, single_fptr, cells_fptr, single_nsl, cells_nsl, single_hsl, cells_hsl, single_fsl, cells_fsl, single_nmap, cells_nmap, single_map, cells_map, single_func, cells_func, single_nfunc, cells_nfunc, single_iface, cells_iface, single_niface, cells_niface, St.cells, St.get_new, St.get_put, mk_get, evCall, evList, evBuiltin, sliceLen_n, sliceLen_h, sliceLen_f, nilEq, sub, numbered, upN_get, upN_next, upN_cells, readV, Tryz.f3, c3, cd, e3, sz3, ag3, z3, und3, sz4, ag4, z4, und4, sz22, ag22, z22, und22]; first | with_reducible exact ⟨rfl, rfl⟩ | with_reducible exact rfl, by simp [Has, env_get_put, mk_cons, mk_nil, e3]⟩, Sub.refl _, Nat.le_refl _, hw, b, rfl, hS⟩
  · refine Hoare.ev (cert := certs 3) (fuel := 0) tabOk hcal mixed (by kernel_rfl) ?_
    rintro _ t hw ⟨b, rfl, hS⟩
    exact ⟨_, _, t, ⟨_, by simp [evCode, evRegion, evOps, evOp, opd, dstOk, wantedA, Env.putO, env_get_put, mk_cons, mk_nil, ofV, ofVa, ofVs, intOp, isShift, evDraw, runD, stepD, clsOf, readsBack, reads1, AV.beq_self, commit, loadV_h, storeV, setAll, cells_agg, single_bool, cells_bool, single_int, cells_int, single_string, cells_string, single_nptr, cells_nptr, single_hptr, cells_hptr, single_fptr, cells_fptr, single_nsl, cells_nsl, single_hsl, cells_hsl, single_fsl, cells_fsl, single_nmap, cells_nmap, single_map, cells_map, single_func, cells_func, single_nfunc, cells_nfunc, single_iface, cells_iface, single_niface, cells_niface, St.cells, St.get_new, St.get_put, mk_get, evCall, evList, evBuiltin, sliceLen_n, sliceLen_h, sliceLen_f, nilEq, sub, numbered, upN_get, upN_next, upN_cells, readV, Tryz.f3, c3, cd, e3, hw1, sz3, ag3, z3, und3, sz4, ag4, z4, und4, sz22, ag22, z22, und22]; first | with_reducible exact ⟨rfl, rfl⟩ | with_reducible exact rfl, by simp [Has, env_get_put, mk_cons, mk_nil, e3]⟩, Sub.refl _, Nat.le_refl _, hw, b, rfl, hS⟩
end Go.Proofs.YtbjkfbcladkfcaaGreatDoor
namespace Go.Proofs.YtbjkfbcladkfcaaGreatDoor
open Go Go.Am
set_option maxRecDepth 100000

theorem isRows_take {cs : List AV} {o cap : Nat} {ex : Bool} {L : List Row4} (h : IsRows (.fsl cs o 4 L.length cap ex) L) (n : Nat) (hn : n ≤ L.length) : IsRows (.fsl cs o 4 n cap ex) (L.take n) := by
  have hl : (L.take n).length = n := by rw [List.length_take]; omega
  refine ⟨⟨by have := h.1.1; omega, fun x hx => h.1.2 x (List.mem_of_mem_take hx)⟩, .inr ⟨cs, o, cap, ex, by rw [hl], fun i x hx r hr => ?_⟩⟩
  rcases h.2 with ⟨e, _⟩ | ⟨_, _, _, _, e, m⟩
  · cases e
  · simp only [AV.fsl.injEq] at e
    obtain ⟨rfl, rfl, _, _, _, _⟩ := e
    refine m i x ?_ r hr
    rw [List.getElem?_take] at hx
    split at hx
    · exact hx
    · cases hx

/-- The list as the law takes it: its first hundred. -/
theorem slice3 {A0 : AV} {L0 : List Row4} (h : IsRows A0 L0) (hcap : (A0 = .nsl ∧ L0 = []) ∨ ∃ cs o, A0 = .fsl cs o 4 L0.length L0.length false) (p q : Int) (s : St heapPT) :
    ∃ A, IsRows A (L0.take 100) ∧ RunP Tryz.prog Tryz.f3.ntmps (cd Tryz.f3 [1, 1, 0]) [(6, .bool false), (0, A0), (1, .int .i64 p), (2, .int .i64 q)] s .normal [(6, .bool false), (0, A), (1, .int .i64 p), (2, .int .i64 q)] s := by
  have hcal := none_ok
  rcases hcap with ⟨rfl, rfl⟩ | ⟨cs, o, rfl⟩
  · refine ⟨.nsl, by simpa using h, ?_⟩
    exact (RunP.ev (cert := certs 3) (fuel := 0) tabOk hcal mixed (by kernel_rfl) fun k0 hw => ⟨_, ⟨_, by simp [evCode, evRegion, evOps, evOp, opd, dstOk, wantedA, Env.putO, env_get_put, mk_cons, mk_nil, ofV, ofVa, ofVs, intOp, isShift, evDraw, runD, stepD, clsOf, readsBack, reads1, AV.beq_self, commit, loadV_h, storeV, setAll, cells_agg, single_bool, cells_bool, single_int, cells_int, single_string, cells_string, single_nptr, cells_nptr, single_hptr, cells_hptr, single_fptr, cells_fptr, single_nsl, cells_nsl, single_hsl, cells_hsl, single_fsl, cells_fsl, single_nmap, cells_nmap, single_map, cells_map, single_func, cells_func, single_nfunc, cells_nfunc, single_iface, cells_iface, single_niface, cells_niface, St.cells, St.get_new, St.get_put, mk_get, evCall, evList, evBuiltin, sliceLen_n, sliceLen_h, sliceLen_f, nilEq, sub, numbered, upN_get, upN_next, upN_cells, readV, Tryz.f3, cd,  optInt, resliceV, ltI_not (show 0 ≤ 100 by omega), sz3, ag3, z3, und3, sz4, ag4, z4, und4, sz22, ag22, z22, und22, sz29, ag29, z29, und29, fa29, fl29_0, sp29_0, fl29_1, sp29_1, fl29_2, sp29_2, fl29_3, sp29_3]; first | with_reducible exact ⟨rfl, rfl⟩ | with_reducible exact rfl, by simp [Has, env_get_put, mk_cons, mk_nil, numbered, Tryz.f3, cd,  optInt, resliceV, ltI_not (show 0 ≤ 100 by omega), sz3, ag3, z3, und3, sz4, ag4, z4, und4, sz22, ag22, z22, und22, sz29, ag29, z29, und29, fa29, fl29_0, sp29_0, fl29_1, sp29_1, fl29_2, sp29_2, fl29_3, sp29_3]⟩, (by have hbl := hw.below; repeat' (first | exact Sub.refl _ | exact Sub.up (Sub.refl _) _ | refine Sub.new hbl ?_ ?_ _ | refine Sub.put hbl ?_ ?_ _ | refine Sub.up ?_ _ | refine Sub.mk ?_ _ | (simp; done) | (simp; omega)))⟩)
  · by_cases hn : L0.length ≤ 100
    · refine ⟨.fsl cs o 4 L0.length L0.length false, by rw [List.take_of_length_le hn]; exact h, ?_⟩
      have e1 : ¬ ((100 : Int) < (L0.length : Int)) := by omega
      exact (RunP.ev (cert := certs 3) (fuel := 0) tabOk hcal mixed (by kernel_rfl) fun k0 hw => ⟨_, ⟨_, by simp [evCode, evRegion, evOps, evOp, opd, dstOk, wantedA, Env.putO, env_get_put, mk_cons, mk_nil, ofV, ofVa, ofVs, intOp, isShift, evDraw, runD, stepD, clsOf, readsBack, reads1, AV.beq_self, commit, loadV_h, storeV, setAll, cells_agg, single_bool, cells_bool, single_int, cells_int, single_string, cells_string, single_nptr, cells_nptr, single_hptr, cells_hptr, single_fptr, cells_fptr, single_nsl, cells_nsl, single_hsl, cells_hsl, single_fsl, cells_fsl, single_nmap, cells_nmap, single_map, cells_map, single_func, cells_func, single_nfunc, cells_nfunc, single_iface, cells_iface, single_niface, cells_niface, St.cells, St.get_new, St.get_put, mk_get, evCall, evList, evBuiltin, sliceLen_n, sliceLen_h, sliceLen_f, nilEq, sub, numbered, upN_get, upN_next, upN_cells, readV, Tryz.f3, cd,  optInt, resliceV, e1, sz3, ag3, z3, und3, sz4, ag4, z4, und4, sz22, ag22, z22, und22, sz29, ag29, z29, und29, fa29, fl29_0, sp29_0, fl29_1, sp29_1, fl29_2, sp29_2, fl29_3, sp29_3]; first | with_reducible exact ⟨rfl, rfl⟩ | with_reducible exact rfl, by simp [Has, env_get_put, mk_cons, mk_nil, numbered, Tryz.f3, cd,  optInt, resliceV, e1, sz3, ag3, z3, und3, sz4, ag4, z4, und4, sz22, ag22, z22, und22, sz29, ag29, z29, und29, fa29, fl29_0, sp29_0, fl29_1, sp29_1, fl29_2, sp29_2, fl29_3, sp29_3]⟩, (by have hbl := hw.below; repeat' (first | exact Sub.refl _ | exact Sub.up (Sub.refl _) _ | refine Sub.new hbl ?_ ?_ _ | refine Sub.put hbl ?_ ?_ _ | refine Sub.up ?_ _ | refine Sub.mk ?_ _ | (simp; done) | (simp; omega)))⟩)
    · refine ⟨.fsl cs o 4 100 L0.length false, isRows_take h 100 (by omega), ?_⟩
      have e1 : (100 : Int) < (L0.length : Int) := by omega
      have e2 : 100 ≤ L0.length := by omega
      have e3 : (100 : Int) ≤ (L0.length : Int) := by omega
      exact (RunP.ev (cert := certs 3) (fuel := 0) tabOk hcal mixed (by kernel_rfl) fun k0 hw => ⟨_, ⟨_, by simp [evCode, evRegion, evOps, evOp, opd, dstOk, wantedA, Env.putO, env_get_put, mk_cons, mk_nil, ofV, ofVa, ofVs, intOp, isShift, evDraw, runD, stepD, clsOf, readsBack, reads1, AV.beq_self, commit, loadV_h, storeV, setAll, cells_agg, single_bool, cells_bool, single_int, cells_int, single_string, cells_string, single_nptr, cells_nptr, single_hptr, cells_hptr, single_fptr, cells_fptr, single_nsl, cells_nsl, single_hsl, cells_hsl, single_fsl, cells_fsl, single_nmap, cells_nmap, single_map, cells_map, single_func, cells_func, single_nfunc, cells_nfunc, single_iface, cells_iface, single_niface, cells_niface, St.cells, St.get_new, St.get_put, mk_get, evCall, evList, evBuiltin, sliceLen_n, sliceLen_h, sliceLen_f, nilEq, sub, numbered, upN_get, upN_next, upN_cells, readV, Tryz.f3, cd,  optInt, resliceV, e1, e2, e3, sz3, ag3, z3, und3, sz4, ag4, z4, und4, sz22, ag22, z22, und22, sz29, ag29, z29, und29, fa29, fl29_0, sp29_0, fl29_1, sp29_1, fl29_2, sp29_2, fl29_3, sp29_3]; first | with_reducible exact ⟨rfl, rfl⟩ | with_reducible exact rfl, by simp [Has, env_get_put, mk_cons, mk_nil, numbered, Tryz.f3, cd,  optInt, resliceV, e1, e2, e3, sz3, ag3, z3, und3, sz4, ag4, z4, und4, sz22, ag22, z22, und22, sz29, ag29, z29, und29, fa29, fl29_0, sp29_0, fl29_1, sp29_1, fl29_2, sp29_2, fl29_3, sp29_3]⟩, (by have hbl := hw.below; repeat' (first | exact Sub.refl _ | exact Sub.up (Sub.refl _) _ | refine Sub.new hbl ?_ ?_ _ | refine Sub.put hbl ?_ ?_ _ | refine Sub.up ?_ _ | refine Sub.mk ?_ _ | (simp; done) | (simp; omega)))⟩)

theorem law3 {A0 : AV} {L0 : List Row4} (h0 : IsRows A0 L0) (hcap : (A0 = .nsl ∧ L0 = []) ∨ ∃ cs o, A0 = .fsl cs o 4 L0.length L0.length false) (hbs0 : ∀ x ∈ L0, x.bs.length ≤ 2 ^ 20) (p q : Int) : Pure Tryz.prog heapPT 3 [A0, .int .i64 p, .int .i64 q] (.bool true) := by
  refine Pure.of fun s hs => ?_
  obtain ⟨A, h1, r2⟩ := slice3 h0 hcap p q s
  have hlen : (L0.take 100).length ≤ 100 := by rw [List.length_take]; omega
  have hbs : ∀ x ∈ L0.take 100, x.bs.length ≤ 2 ^ 20 := fun x hx => hbs0 x (List.mem_of_mem_take hx)
  generalize L0.take 100 = L at h1 hlen hbs
  have hlen20 : L.length ≤ 2 ^ 20 := by omega
  have hFl : (L.filter (selRow p q)).length ≤ 100 := Nat.le_trans (List.length_filter_le _ _) hlen
  have hFb : ∀ x ∈ L.filter (selRow p q), IsBytes x.B x.bs ∧ x.bs.length ≤ 2 ^ 20 := fun x hx => ⟨h1.1.2 x (List.mem_filter.1 hx).1, hbs x (List.mem_filter.1 hx).1⟩
  have hMb : ∀ x ∈ (L.filter (selRow p q)).map cl, IsBytes x.B x.bs ∧ x.bs.length ≤ 2 ^ 20 := fun x hx => by
    obtain ⟨y, hy, rfl⟩ := List.mem_map.1 hx
    obtain ⟨k1, k2⟩ := hFb y hy
    exact ⟨(clB_ok k1 k2).1, k2⟩
  have hMs : ((L.filter (selRow p q)).map cl).filter (selRow p q) = (L.filter (selRow p q)).map cl := by
    refine List.filter_eq_self.2 fun x hx => ?_
    obtain ⟨y, hy, rfl⟩ := List.mem_map.1 hx
    exact (sel_cl p q y).trans (List.mem_filter.1 hy).2
  have hF := isRows_rowsV (by omega) (fun x hx => (hFb x hx).1)
  have p9 := pure9 h1 hlen20 p q
  have p7 := pure7 h1 hlen20 hbs p q
  have hsl : sameL ((L.filter (selRow p q)).map cl) (L.filter (selRow p q)) = true := sameL_cl cl_eq _
  have hMl : ((L.filter (selRow p q)).map cl).length ≤ 100 := by rw [List.length_map]; exact hFl
  generalize hFd : L.filter (selRow p q) = F at *
  generalize hM : F.map cl = M at *
  have hX := isRows_rowsV (M := M) (by omega) (fun x hx => (hMb x hx).1)
  have p7x := pure7 hX (by omega) (fun x hx => (hMb x hx).2) p q
  rw [hMs] at p7x
  have hM2b : ∀ x ∈ M.map cl, IsBytes x.B x.bs := fun x hx => by
    obtain ⟨y, hy, rfl⟩ := List.mem_map.1 hx
    obtain ⟨k1, k2⟩ := hMb y hy
    exact (clB_ok k1 k2).1
  have hX2 := isRows_rowsV (M := M.map cl) (by rw [List.length_map]; omega) hM2b
  have p8 := pure8 hX hF
  have pa := pure10 hX hX
  have pb := pure10 hX2 hX
  rw [hsl] at p8
  rw [sameL_refl] at pa
  rw [sameL_cl cl_eq] at pb
  have v8 : V3 8 [rowsV M, rowsV F] = some (.bool true) := by simp only [V3, rowsOf_eq hX, rowsOf_eq hF, hsl]; rfl
  have va : V3 10 [rowsV M, rowsV M] = some (.bool true) := by simp only [V3, rowsOf_eq hX, sameL_refl]; rfl
  have vb : V3 10 [rowsV (M.map cl), rowsV M] = some (.bool true) := by simp only [V3, rowsOf_eq hX, rowsOf_eq hX2, sameL_cl cl_eq]; rfl
  have v7 : V3 7 [A, .int .i64 p, .int .i64 q] = some (rowsV M) := by simp only [V3, rowsOf_eq h1, hFd, hM]; rfl
  have v9 : V3 9 [A, .int .i64 p, .int .i64 q] = some (rowsV F) := by simp only [V3, rowsOf_eq h1, hFd]; rfl
  have v7x : V3 7 [rowsV M, .int .i64 p, .int .i64 q] = some (rowsV (M.map cl)) := by simp only [V3, rowsOf_eq hX, hMs]; rfl
  obtain ⟨k6, c6⟩ := pure_call (T := tab) (HI := heapPT) (V := V3) (f := 6) (by rw [tf6]; rfl) (args := []) rfl pure6
  obtain ⟨k7, c7⟩ := pure_call (T := tab) (HI := heapPT) (V := V3) (f := 7) (by rw [tf7]; rfl) v7 p7
  obtain ⟨k9, c9⟩ := pure_call (T := tab) (HI := heapPT) (V := V3) (f := 9) (by rw [tf9]; rfl) v9 p9
  obtain ⟨k8, c8⟩ := pure_call (T := tab) (HI := heapPT) (V := V3) (f := 8) (by rw [tf8]; rfl) v8 p8
  obtain ⟨ka, ca⟩ := pure_call (T := tab) (HI := heapPT) (V := V3) (f := 10) (by rw [tf10]; rfl) va pa
  obtain ⟨kb, cb⟩ := pure_call (T := tab) (HI := heapPT) (V := V3) (f := 10) (by rw [tf10]; rfl) vb pb
  obtain ⟨kx, cx⟩ := pure_call (T := tab) (HI := heapPT) (V := V3) (f := 7) (by rw [tf7]; rfl) v7x p7x
  have hcal := cSpec_ok (P := Tryz.prog) (HI := heapPT) (pureD V3)
  have l1 := h1.len
  -- the pieces ahead of the loop
  have r0 : RunP Tryz.prog Tryz.f3.ntmps (cd Tryz.f3 [0]) (numbered [A0, .int .i64 p, .int .i64 q] 0) s .normal [(6, .bool false), (0, A0), (1, .int .i64 p), (2, .int .i64 q)] s := (RunP.ev (cert := certs 3) (fuel := 0) tabOk hcal mixed (by kernel_rfl) fun k0 hw => ⟨_, ⟨_, by simp [evCode, evRegion, evOps, evOp, opd, dstOk, wantedA, Env.putO, env_get_put, mk_cons, mk_nil, ofV, ofVa, ofVs, intOp, isShift, evDraw, runD, stepD, clsOf, readsBack, reads1, AV.beq_self, commit, loadV_h, storeV, setAll, cells_agg, single_bool, cells_bool, single_int, cells_int, single_string, cells_string, single_nptr, cells_nptr, single_hptr, cells_hptr, single_fptr, cells_fptr, single_nsl, cells_nsl, single_hsl, cells_hsl, single_fsl, cells_fsl, single_nmap, cells_nmap, single_map, cells_map, single_func, cells_func, single_nfunc, cells_nfunc, single_iface, cells_iface, single_niface, cells_niface, St.cells, St.get_new, St.get_put, mk_get, evCall, evList, evBuiltin, sliceLen_n, sliceLen_h, sliceLen_f, nilEq, sub, numbered, upN_get, upN_next, upN_cells, readV, Tryz.f3, cd,  sz3, ag3, z3, und3, sz4, ag4, z4, und4, sz22, ag22, z22, und22]; first | with_reducible exact ⟨rfl, rfl⟩ | with_reducible exact rfl, by simp [Has, env_get_put, mk_cons, mk_nil, numbered, Tryz.f3, cd,  sz3, ag3, z3, und3, sz4, ag4, z4, und4, sz22, ag22, z22, und22]⟩, (by have hbl := hw.below; repeat' (first | exact Sub.refl _ | exact Sub.up (Sub.refl _) _ | refine Sub.new hbl ?_ ?_ _ | refine Sub.put hbl ?_ ?_ _ | refine Sub.up ?_ _ | refine Sub.mk ?_ _ | (simp; done) | (simp; omega)))⟩)
  have r1 : RunP Tryz.prog Tryz.f3.ntmps (cd Tryz.f3 [1, 0]) [(6, .bool false), (0, A0), (1, .int .i64 p), (2, .int .i64 q)] s .normal [(6, .bool false), (0, A0), (1, .int .i64 p), (2, .int .i64 q)] s := (RunP.ev (cert := certs 3) (fuel := 0) tabOk hcal mixed (by kernel_rfl) fun k0 hw => ⟨_, ⟨_, by simp [evCode, evRegion, evOps, evOp, opd, dstOk, wantedA, Env.putO, env_get_put, mk_cons, mk_nil, ofV, ofVa, ofVs, intOp, isShift, evDraw, runD, stepD, clsOf, readsBack, reads1, AV.beq_self, commit, loadV_h, storeV, setAll, cells_agg, single_bool, cells_bool, single_int, cells_int, single_string, cells_string, single_nptr, cells_nptr, single_hptr, cells_hptr, single_fptr, cells_fptr, single_nsl, cells_nsl, single_hsl, cells_hsl, single_fsl, cells_fsl, single_nmap, cells_nmap, single_map, cells_map, single_func, cells_func, single_nfunc, cells_nfunc, single_iface, cells_iface, single_niface, cells_niface, St.cells, St.get_new, St.get_put, mk_get, evCall, evList, evBuiltin, sliceLen_n, sliceLen_h, sliceLen_f, nilEq, sub, numbered, upN_get, upN_next, upN_cells, readV, Tryz.f3, cd,  c6, sz3, ag3, z3, und3, sz4, ag4, z4, und4, sz22, ag22, z22, und22]; first | with_reducible exact ⟨rfl, rfl⟩ | with_reducible exact rfl, by simp [Has, env_get_put, mk_cons, mk_nil, numbered, Tryz.f3, cd,  c6, sz3, ag3, z3, und3, sz4, ag4, z4, und4, sz22, ag22, z22, und22]⟩, (by have hbl := hw.below; repeat' (first | exact Sub.refl _ | exact Sub.up (Sub.refl _) _ | refine Sub.new hbl ?_ ?_ _ | refine Sub.put hbl ?_ ?_ _ | refine Sub.up ?_ _ | refine Sub.mk ?_ _ | (simp; done) | (simp; omega)))⟩)
  have r3 : RunP Tryz.prog Tryz.f3.ntmps (cd Tryz.f3 [1, 1, 1, 0]) [(6, .bool false), (0, A), (1, .int .i64 p), (2, .int .i64 q)] s .normal [(0, A), (1, .int .i64 p), (2, .int .i64 q), (7, rowsV M)] s := (RunP.ev (cert := certs 3) (fuel := 0) tabOk hcal mixed (by kernel_rfl) fun k0 hw => ⟨_, ⟨_, by simp [evCode, evRegion, evOps, evOp, opd, dstOk, wantedA, Env.putO, env_get_put, mk_cons, mk_nil, ofV, ofVa, ofVs, intOp, isShift, evDraw, runD, stepD, clsOf, readsBack, reads1, AV.beq_self, commit, loadV_h, storeV, setAll, cells_agg, single_bool, cells_bool, single_int, cells_int, single_string, cells_string, single_nptr, cells_nptr, single_hptr, cells_hptr, single_fptr, cells_fptr, single_nsl, cells_nsl, single_hsl, cells_hsl, single_fsl, cells_fsl, single_nmap, cells_nmap, single_map, cells_map, single_func, cells_func, single_nfunc, cells_nfunc, single_iface, cells_iface, single_niface, cells_niface, St.cells, St.get_new, St.get_put, mk_get, evCall, evList, evBuiltin, sliceLen_n, sliceLen_h, sliceLen_f, nilEq, sub, numbered, upN_get, upN_next, upN_cells, readV, Tryz.f3, cd,  c7, sz3, ag3, z3, und3, sz4, ag4, z4, und4, sz22, ag22, z22, und22]; first | with_reducible exact ⟨rfl, rfl⟩ | with_reducible exact rfl, by simp [Has, env_get_put, mk_cons, mk_nil, numbered, Tryz.f3, cd,  c7, sz3, ag3, z3, und3, sz4, ag4, z4, und4, sz22, ag22, z22, und22]⟩, (by have hbl := hw.below; repeat' (first | exact Sub.refl _ | exact Sub.up (Sub.refl _) _ | refine Sub.new hbl ?_ ?_ _ | refine Sub.put hbl ?_ ?_ _ | refine Sub.up ?_ _ | refine Sub.mk ?_ _ | (simp; done) | (simp; omega)))⟩)
  have r4 : RunP Tryz.prog Tryz.f3.ntmps (cd Tryz.f3 [1, 1, 1, 1, 0, 0]) [(0, A), (1, .int .i64 p), (2, .int .i64 q), (7, rowsV M)] s .normal [(45, .bool false), (0, A)] s := by
    refine RunP.plain tabOk hcal mixed R3_eq fun k0 hw => ?_
    have d1 : ∀ {e : Env} {s : St heapPT}, e.get 0 = some A → e.get 1 = some (.int .i64 p) → e.get 2 = some (.int .i64 q) → e.get 7 = some (rowsV M) → ∃ k, Part3 0 8 e s [(31, .bool false), (0, A), (1, .int .i64 p), (2, .int .i64 q), (7, rowsV M)] (upN s k) := fun {e} {s} g0 g1 g2 g7 =>
      ⟨_, _, by simp [evCode, evRegion, evOps, evOp, opd, dstOk, wantedA, Env.putO, env_get_put, mk_cons, mk_nil, ofV, ofVa, ofVs, intOp, isShift, evDraw, runD, stepD, clsOf, readsBack, reads1, AV.beq_self, commit, loadV_h, storeV, setAll, cells_agg, single_bool, cells_bool, single_int, cells_int, single_string, cells_string, single_nptr, cells_nptr, single_hptr, cells_hptr, single_fptr, cells_fptr, single_nsl, cells_nsl, single_hsl, cells_hsl, single_fsl, cells_fsl, single_nmap, cells_nmap, single_map, cells_map, single_func, cells_func, single_nfunc, cells_nfunc, single_iface, cells_iface, single_niface, cells_niface, St.cells, St.get_new, St.get_put, mk_get, evCall, evList, evBuiltin, sliceLen_n, sliceLen_h, sliceLen_f, nilEq, sub, numbered, upN_get, upN_next, upN_cells, readV, R3, cd, Tryz.f3, g0, g1, g2, g7, c9, c8, upN_up, sz3, ag3, z3, und3, sz4, ag4, z4, und4, sz22, ag22, z22, und22]; first | with_reducible exact ⟨rfl, rfl⟩ | with_reducible exact rfl, by simp [Has, env_get_put, g0, g1, g2, g7]⟩
    have d2 : ∀ {e : Env} {s : St heapPT}, e.get 0 = some A → e.get 1 = some (.int .i64 p) → e.get 2 = some (.int .i64 q) → e.get 7 = some (rowsV M) → e.get 31 = some (.bool false) → e.get 31 = some (.bool false) → ∃ k, Part3 8 6 e s [(37, .bool false), (0, A), (1, .int .i64 p), (2, .int .i64 q), (7, rowsV M)] (upN s k) := fun {e} {s} g0 g1 g2 g7 g31 _ =>
      ⟨_, _, by simp [evCode, evRegion, evOps, evOp, opd, dstOk, wantedA, Env.putO, env_get_put, mk_cons, mk_nil, ofV, ofVa, ofVs, intOp, isShift, evDraw, runD, stepD, clsOf, readsBack, reads1, AV.beq_self, commit, loadV_h, storeV, setAll, cells_agg, single_bool, cells_bool, single_int, cells_int, single_string, cells_string, single_nptr, cells_nptr, single_hptr, cells_hptr, single_fptr, cells_fptr, single_nsl, cells_nsl, single_hsl, cells_hsl, single_fsl, cells_fsl, single_nmap, cells_nmap, single_map, cells_map, single_func, cells_func, single_nfunc, cells_nfunc, single_iface, cells_iface, single_niface, cells_niface, St.cells, St.get_new, St.get_put, mk_get, evCall, evList, evBuiltin, sliceLen_n, sliceLen_h, sliceLen_f, nilEq, sub, numbered, upN_get, upN_next, upN_cells, readV, R3, cd, Tryz.f3, g0, g1, g2, g7, g31, ca, upN_up, sz3, ag3, z3, und3, sz4, ag4, z4, und4, sz22, ag22, z22, und22]; first | with_reducible exact ⟨rfl, rfl⟩ | with_reducible exact rfl, by simp [Has, env_get_put, g0, g1, g2, g7]⟩
    have d3 : ∀ {e : Env} {s : St heapPT}, e.get 0 = some A → e.get 1 = some (.int .i64 p) → e.get 2 = some (.int .i64 q) → e.get 7 = some (rowsV M) → e.get 37 = some (.bool false) → ∃ k, Part3 14 8 e s [(45, .bool false), (0, A)] (upN s k) := fun {e} {s} g0 g1 g2 g7 g37 =>
      ⟨_, _, by simp [evCode, evRegion, evOps, evOp, opd, dstOk, wantedA, Env.putO, env_get_put, mk_cons, mk_nil, ofV, ofVa, ofVs, intOp, isShift, evDraw, runD, stepD, clsOf, readsBack, reads1, AV.beq_self, commit, loadV_h, storeV, setAll, cells_agg, single_bool, cells_bool, single_int, cells_int, single_string, cells_string, single_nptr, cells_nptr, single_hptr, cells_hptr, single_fptr, cells_fptr, single_nsl, cells_nsl, single_hsl, cells_hsl, single_fsl, cells_fsl, single_nmap, cells_nmap, single_map, cells_map, single_func, cells_func, single_nfunc, cells_nfunc, single_iface, cells_iface, single_niface, cells_niface, St.cells, St.get_new, St.get_put, mk_get, evCall, evList, evBuiltin, sliceLen_n, sliceLen_h, sliceLen_f, nilEq, sub, numbered, upN_get, upN_next, upN_cells, readV, R3, cd, Tryz.f3, g0, g1, g2, g7, g37, cx, cb, upN_up, sz3, ag3, z3, und3, sz4, ag4, z4, und4, sz22, ag22, z22, und22]; first | with_reducible exact ⟨rfl, rfl⟩ | with_reducible exact rfl, by simp [Has, env_get_put, g0, g1, g2, g7]⟩
    obtain ⟨l1, e1, q1, a0, a1, a2, a3, a4, _⟩ := d1 (e := mk [(0, A), (1, .int .i64 p), (2, .int .i64 q), (7, rowsV M)]) (s := upN s k0) (by simp [mk_cons]) (by simp [mk_cons]) (by simp [mk_cons]) (by simp [mk_cons])
    obtain ⟨l2, e2, q2, b0, b1, b2, b3, b4, _⟩ := d2 (s := upN (upN s k0) l1) a1 a2 a3 a4 a0 a0
    obtain ⟨l3, e3, q3, c0, c1, _⟩ := d3 (s := upN (upN (upN s k0) l1) l2) b1 b2 b3 b4 b0
    rw [List.drop_zero] at q1
    have qq := evOps_split 8 _ _ _ _ _ q1
    rw [evOps_split 6 _ _ _ _ _ q2, List.drop_drop, evOps_split 8 _ _ _ _ _ q3, List.drop_drop, List.drop_eq_nil_of_le (by rw [R3_len]; decide)] at qq
    exact ⟨e3, _, qq, ⟨c0, c1, trivial⟩, Sub.up (Sub.up (Sub.up (Sub.up (Sub.refl _) _) _) _) _⟩
  have r5 : RunP Tryz.prog Tryz.f3.ntmps (cd Tryz.f3 [1, 1, 1, 1, 0, 1]) [(45, .bool false), (0, A)] s .normal [(0, A)] s := (RunP.ev (cert := certs 3) (fuel := 0) tabOk hcal mixed (by kernel_rfl) fun k0 hw => ⟨_, ⟨_, by simp [evCode, evRegion, evOps, evOp, opd, dstOk, wantedA, Env.putO, env_get_put, mk_cons, mk_nil, ofV, ofVa, ofVs, intOp, isShift, evDraw, runD, stepD, clsOf, readsBack, reads1, AV.beq_self, commit, loadV_h, storeV, setAll, cells_agg, single_bool, cells_bool, single_int, cells_int, single_string, cells_string, single_nptr, cells_nptr, single_hptr, cells_hptr, single_fptr, cells_fptr, single_nsl, cells_nsl, single_hsl, cells_hsl, single_fsl, cells_fsl, single_nmap, cells_nmap, single_map, cells_map, single_func, cells_func, single_nfunc, cells_nfunc, single_iface, cells_iface, single_niface, cells_niface, St.cells, St.get_new, St.get_put, mk_get, evCall, evList, evBuiltin, sliceLen_n, sliceLen_h, sliceLen_f, nilEq, sub, numbered, upN_get, upN_next, upN_cells, readV, Tryz.f3, cd,  sz3, ag3, z3, und3, sz4, ag4, z4, und4, sz22, ag22, z22, und22]; first | with_reducible exact ⟨rfl, rfl⟩ | with_reducible exact rfl, by simp [Has, env_get_put, mk_cons, mk_nil, numbered, Tryz.f3, cd,  sz3, ag3, z3, und3, sz4, ag4, z4, und4, sz22, ag22, z22, und22]⟩, (by have hbl := hw.below; repeat' (first | exact Sub.refl _ | exact Sub.up (Sub.refl _) _ | refine Sub.new hbl ?_ ?_ _ | refine Sub.put hbl ?_ ?_ _ | refine Sub.up ?_ _ | refine Sub.mk ?_ _ | (simp; done) | (simp; omega)))⟩)
  -- the map
  have m1 : Hoare Tryz.prog Tryz.f3.ntmps (cd Tryz.f3 [1, 1, 1, 1, 1, 0]) (fun L' t => L' = [(0, A)] ∧ ∃ k, t = upN s k) .normal (fun L' t => ∃ b, L' = [(0, A), (8, .map b)] ∧ St3 s b [] t) := by
    refine Hoare.ev (cert := certs 3) (fuel := 0) tabOk hcal mixed (by kernel_rfl) ?_
    rintro _ t hw ⟨rfl, k, rfl⟩
    refine ⟨[(0, A), (8, .map (s.next + k))], _, (upN s k).new (.map []), ⟨_, by simp [evCode, evRegion, evOps, evOp, opd, dstOk, wantedA, Env.putO, env_get_put, mk_cons, mk_nil, ofV, ofVa, ofVs, intOp, isShift, evDraw, runD, stepD, clsOf, readsBack, reads1, AV.beq_self, commit, loadV_h, storeV, setAll, cells_agg, single_bool, cells_bool, single_int, cells_int, single_string, cells_string, single_nptr, cells_nptr, single_hptr, cells_hptr, single_fptr, cells_fptr, single_nsl, cells_nsl, single_hsl, cells_hsl, single_fsl, cells_fsl, single_nmap, cells_nmap, single_map, cells_map, single_func, cells_func, single_nfunc, cells_nfunc, single_iface, cells_iface, single_niface, cells_niface, St.cells, St.get_new, St.get_put, mk_get, evCall, evList, evBuiltin, sliceLen_n, sliceLen_h, sliceLen_f, nilEq, sub, numbered, upN_get, upN_next, upN_cells, readV, Tryz.f3, cd, und26, sz3, ag3, z3, und3, sz4, ag4, z4, und4, sz22, ag22, z22, und22]; first | with_reducible exact ⟨rfl, rfl⟩ | with_reducible exact rfl, by simp [Has, env_get_put, mk_cons, mk_nil]⟩, Sub.refl _, Nat.le_refl _, hw.new _, s.next + k, rfl, ?_⟩
    exact ⟨Sub.new hs.self (Sub.up (Sub.refl _) _) (by simp) _, by simp; omega, by omega, by simp, by simp [St.get_new, pairsOf]⟩
  have m2 : Hoare Tryz.prog Tryz.f3.ntmps (cd Tryz.f3 [1, 1, 1, 1, 1, 1, 0]) (fun L' t => ∃ b, L' = [(0, A), (8, .map b)] ∧ St3 s b [] t) .normal (fun L' t => ∃ b, L' = [(0, A), (8, .map b), (9, .int .i64 (0 : Nat))] ∧ St3 s b [] t) := by
    refine Hoare.ev (cert := certs 3) (fuel := 0) tabOk hcal mixed (by kernel_rfl) ?_
    rintro _ t hw ⟨b, rfl, hS⟩
    exact ⟨_, _, t, ⟨_, by simp [evCode, evRegion, evOps, evOp, opd, dstOk, wantedA, Env.putO, env_get_put, mk_cons, mk_nil, ofV, ofVa, ofVs, intOp, isShift, evDraw, runD, stepD, clsOf, readsBack, reads1, AV.beq_self, commit, loadV_h, storeV, setAll, cells_agg, single_bool, cells_bool, single_int, cells_int, single_string, cells_string, single_nptr, cells_nptr, single_hptr, cells_hptr, single_fptr, cells_fptr, single_nsl, cells_nsl, single_hsl, cells_hsl, single_fsl, cells_fsl, single_nmap, cells_nmap, single_map, cells_map, single_func, cells_func, single_nfunc, cells_nfunc, single_iface, cells_iface, single_niface, cells_niface, St.cells, St.get_new, St.get_put, mk_get, evCall, evList, evBuiltin, sliceLen_n, sliceLen_h, sliceLen_f, nilEq, sub, numbered, upN_get, upN_next, upN_cells, readV, Tryz.f3, cd, sz3, ag3, z3, und3, sz4, ag4, z4, und4, sz22, ag22, z22, und22]; first | with_reducible exact ⟨rfl, rfl⟩ | with_reducible exact rfl, by simp [Has, env_get_put, mk_cons, mk_nil]⟩, Sub.refl _, Nat.le_refl _, hw, b, rfl, hS⟩
  have m3 : Hoare Tryz.prog Tryz.f3.ntmps (cd Tryz.f3 [1, 1, 1, 1, 1, 1, 1, 0, 0]) (fun L' t => ∃ b, L' = [(0, A), (8, .map b), (9, .int .i64 (0 : Nat))] ∧ St3 s b [] t) .normal (I3 s A L 0) := by
    refine Hoare.ev (cert := certs 3) (fuel := 0) tabOk hcal mixed (by kernel_rfl) ?_
    rintro _ t hw ⟨b, rfl, hS⟩
    exact ⟨e3 A L.length 0 b 0, _, t, ⟨_, by simp [evCode, evRegion, evOps, evOp, opd, dstOk, wantedA, Env.putO, env_get_put, mk_cons, mk_nil, ofV, ofVa, ofVs, intOp, isShift, evDraw, runD, stepD, clsOf, readsBack, reads1, AV.beq_self, commit, loadV_h, storeV, setAll, cells_agg, single_bool, cells_bool, single_int, cells_int, single_string, cells_string, single_nptr, cells_nptr, single_hptr, cells_hptr, single_fptr, cells_fptr, single_nsl, cells_nsl, single_hsl, cells_hsl, single_fsl, cells_fsl, single_nmap, cells_nmap, single_map, cells_map, single_func, cells_func, single_nfunc, cells_nfunc, single_iface, cells_iface, single_niface, cells_niface, St.cells, St.get_new, St.get_put, mk_get, evCall, evList, evBuiltin, sliceLen_n, sliceLen_h, sliceLen_f, nilEq, sub, numbered, upN_get, upN_next, upN_cells, readV, Tryz.f3, cd, l1, sz3, ag3, z3, und3, sz4, ag4, z4, und4, sz22, ag22, z22, und22]; first | with_reducible exact ⟨rfl, rfl⟩ | with_reducible exact rfl, by simp [Has, env_get_put, mk_cons, mk_nil, e3]⟩, Sub.refl _, Nat.le_refl _, hw, b, by rw [count_zero], by simpa [seenP] using hS⟩
  have last : Hoare Tryz.prog Tryz.f3.ntmps lb3 (I3 s A L L.length) (.exit 0) (fun L' t => L' = [(0, A), (9, .int .i64 L.length)] ∧ Sub s t ∧ s.next ≤ t.next) := by
    refine Hoare.ev (cert := certs 3) (fuel := 0) tabOk hcal mixed (by kernel_rfl) ?_
    rintro _ t hw ⟨b, rfl, hS⟩
    rw [count_all]
    exact ⟨[(0, A), (9, .int .i64 L.length)], _, t, ⟨_, by simp [evCode, evRegion, evOps, evOp, opd, dstOk, wantedA, Env.putO, env_get_put, mk_cons, mk_nil, ofV, ofVa, ofVs, intOp, isShift, evDraw, runD, stepD, clsOf, readsBack, reads1, AV.beq_self, commit, loadV_h, storeV, setAll, cells_agg, single_bool, cells_bool, single_int, cells_int, single_string, cells_string, single_nptr, cells_nptr, single_hptr, cells_hptr, single_fptr, cells_fptr, single_nsl, cells_nsl, single_hsl, cells_hsl, single_fsl, cells_fsl, single_nmap, cells_nmap, single_map, cells_map, single_func, cells_func, single_nfunc, cells_nfunc, single_iface, cells_iface, single_niface, cells_niface, St.cells, St.get_new, St.get_put, mk_get, evCall, evList, evBuiltin, sliceLen_n, sliceLen_h, sliceLen_f, nilEq, sub, numbered, upN_get, upN_next, upN_cells, readV, Tryz.f3, lb3, cd, e3, ltI_self, sz3, ag3, z3, und3, sz4, ag4, z4, und4, sz22, ag22, z22, und22]; first | with_reducible exact ⟨rfl, rfl⟩ | with_reducible exact rfl, by simp [Has, env_get_put, mk_cons, mk_nil, e3]⟩, Sub.refl _, Nat.le_refl _, hw, rfl, hS.1, hS.2.1⟩
  have fin : Hoare Tryz.prog Tryz.f3.ntmps (cd Tryz.f3 [1, 1, 1, 1, 1, 1, 1, 1, 0]) (fun L' t => L' = [(0, A), (9, .int .i64 L.length)] ∧ Sub s t ∧ s.next ≤ t.next) .normal (fun L' t => L' = [(6, .bool true)] ∧ Sub s t ∧ s.next ≤ t.next) := by
    refine Hoare.ev (cert := certs 3) (fuel := 0) tabOk hcal mixed (by kernel_rfl) ?_
    rintro _ t hw ⟨rfl, hS, hn⟩
    exact ⟨[(6, .bool true)], _, t, ⟨_, by simp [evCode, evRegion, evOps, evOp, opd, dstOk, wantedA, Env.putO, env_get_put, mk_cons, mk_nil, ofV, ofVa, ofVs, intOp, isShift, evDraw, runD, stepD, clsOf, readsBack, reads1, AV.beq_self, commit, loadV_h, storeV, setAll, cells_agg, single_bool, cells_bool, single_int, cells_int, single_string, cells_string, single_nptr, cells_nptr, single_hptr, cells_hptr, single_fptr, cells_fptr, single_nsl, cells_nsl, single_hsl, cells_hsl, single_fsl, cells_fsl, single_nmap, cells_nmap, single_map, cells_map, single_func, cells_func, single_nfunc, cells_nfunc, single_iface, cells_iface, single_niface, cells_niface, St.cells, St.get_new, St.get_put, mk_get, evCall, evList, evBuiltin, sliceLen_n, sliceLen_h, sliceLen_f, nilEq, sub, numbered, upN_get, upN_next, upN_cells, readV, Tryz.f3, cd, l1, eqI_self, sz3, ag3, z3, und3, sz4, ag4, z4, und4, sz22, ag22, z22, und22]; first | with_reducible exact ⟨rfl, rfl⟩ | with_reducible exact rfl, by simp [Has, env_get_put, mk_cons, mk_nil]⟩, Sub.refl _, Nat.le_refl _, hw, rfl, hS, hn⟩
  have all := Hoare.seq (r0.hoare hs) (Hoare.seq (r1.hoare hs) (Hoare.seq (r2.hoare hs) (Hoare.seq (r3.hoare hs) (Hoare.seq (Hoare.seq (r4.hoare hs) (r5.hoare hs)) (Hoare.seq m1 (Hoare.seq m2 (Hoare.seq (Hoare.seq m3 (Hoare.block (id := 0) (x := .exit 0) (Hoare.loop (n := L.length) (fun i => I3 s A L i) (by intro e; cases e) (fun i hi => round3 hs h1 hlen hbs hi) last))) (Hoare.seq fin Hoare.ret))))))))
  obtain ⟨L2, s1, hq, hsnd⟩ := Hoare.sound tabOk tf3 body3 (args := [A0, .int .i64 p, .int .i64 q]) (Nat.le_of_ble_eq_true (by kernel_rfl)) (.inr rfl) all (s := s) (fun _ => ⟨rfl, 0, rfl⟩)
  obtain ⟨⟨rfl, hS, hn⟩, _⟩ := hq hs
  have hfin := hsnd [.bool true] (by rw [show Tryz.f3.results.toList = [.tmp 6] by kernel_rfl]; simp [resA, mk_cons])
  exact ⟨s1.next, hfin.forget (s1 := upN s s1.next) hS (by simp)⟩
end Go.Proofs.YtbjkfbcladkfcaaGreatDoor
