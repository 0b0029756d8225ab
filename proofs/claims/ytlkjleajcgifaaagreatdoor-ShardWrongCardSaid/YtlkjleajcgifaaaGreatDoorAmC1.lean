/- What the small functions of the given program answer: shard.in, shard.May. -/
import Derived.Test.YtlkjleajcgifaaaGreatDoorAmTab
import Derived.Test.YtlkjleajcgifaaaGreatDoorAmCert
import Derived.Test.YtlkjleajcgifaaaGreatDoorAmCall
namespace Go.Proofs.YtlkjleajcgifaaaGreatDoor
open Go Go.Am
set_option maxRecDepth 100000

theorem mixed : Tryz.prog.follows .mixedOrders = true := by kernel_rfl

theorem reg_ok {f : Nat} {fn : Func} {c : Code} (h : tab.func f = some fn) (hb : fn.body = some c) : regsOk (certs f) c = true := by
  have h1 := (tabOk.func f fn h).1
  have := certsOk_get Tryz.prog.funcs.toList 0 certs_ok f fn c (by simpa using h1) hb
  simpa using this

theorem env_get_put (e : Env) (t : Nat) (v : AV) (u : Nat) : Env.get (Env.put e t v) u = if u = t then some v else e.get u := Env.get_put e t v u
theorem args_get (args : List AV) (t : Nat) : (argsEnv args).get t = args[t]? := by
  unfold argsEnv Env.get
  rw [PT.get_ofList]
  split
  · simp
  · rename_i h
    rw [PT.get_leaf]
    symm
    rw [List.getElem?_eq_none]
    simpa using h

/-- One function's contract, as an equation of its code's run. -/
theorem fn_ok {callee : Go.Am.Callee heapPT} (hc : CalleeOK Tryz.prog callee) {f : Nat} {fn : Func} {c : Code} (hfn : tab.func f = some fn) (hb : fn.body = some c) {args : List AV} {e : Ex} {env : Env} {s s1 : St heapPT} {v : AV}
    (hev : evCode Tryz.prog tab callee fn.ntmps (certs f) 100000 c (argsEnv args) s = some (e, env, s1)) (hlen : Nat.ble args.length fn.ntmps = true) (he : e = .normal ∨ e = .ret) (hrs : (resA tab env s1 fn.results.toList).map Am.single = some v) (hk : ∀ b, b < s.next → s1.get b = s.get b)
    {ι : Emb} {w : World} {vs : List Value} (hr : Rs ι args vs) (hs : Sim ι s w) :
    Calls Tryz.prog f ⟨vs⟩ w fun e w' => ∃ v' κ, e = .returned v' ∧ Stp ι s w κ { h := s.h, next := s1.next } w' ∧ Sim κ { h := s.h, next := s1.next } w' ∧ R κ v v' := by
  cases hx : resA tab env s1 fn.results.toList with
  | none => rw [hx] at hrs; cases hrs
  | some rs =>
    rw [hx] at hrs
    cases hrs
    refine (call_sound tabOk hc mixed hfn hb (reg_ok hfn hb) (Nat.le_of_ble_eq_true hlen) he hev hx hr hs).mono fun e w' h => ?_
    obtain ⟨v', κ, h1, h2, h3, h4⟩ := h
    obtain ⟨h5, h6⟩ := trim_ok hs h2 h3 hk
    exact ⟨v', κ, h1, h5, h6, h4⟩

/-! ### shard.in -/
def inI (n lo hi : Int) : Bool := !ltI n lo && !ltI hi n
def cIn : Go.Am.Callee heapPT := fun f args s =>
  match f, args with
  | 24, [.int .i64 n, .int .i64 lo, .int .i64 hi] => some (.bool (inI n lo hi), s)
  | _, _ => none

theorem tf24 : tab.func 24 = some Tryz.f24 := by kernel_rfl

theorem in_eq (callee : Go.Am.Callee heapPT) (cert : Nat → Option (List Nat)) (fuel : Nat) (n lo hi : Int) (s : St heapPT) :
    ∃ env, evCode Tryz.prog tab callee 15 cert fuel (Tryz.f24.body.getD .skip) (argsEnv [.int .i64 n, .int .i64 lo, .int .i64 hi]) s = some (.ret, env, s) ∧ env.get 6 = some (.bool (inI n lo hi)) := by
  cases h1 : ltI n lo <;> cases h2 : ltI hi n <;>
    simp [Tryz.f24, evCode, evRegion, evOps, evOp, opd, dstOk, wantedA, Env.putO, env_get_put, args_get, intOp, ofV, isShift, h1, h2, inI]

theorem none_ok : CalleeOK Tryz.prog (fun _ _ _ => none : Go.Am.Callee heapPT) := by
  intro f args s v s' h; cases h

theorem cIn_ok : CalleeOK Tryz.prog cIn := by
  intro f args s v s' h ι w vs hr hs
  unfold cIn at h
  split at h
  · rename_i n lo hi
    cases h
    obtain ⟨env, h1, h2⟩ := in_eq (fun _ _ _ => none) (certs 24) 100000 n lo hi s
    exact fn_ok none_ok tf24 (c := Tryz.f24.body.getD .skip) (by kernel_rfl) h1 (by kernel_rfl) (.inr rfl) (by rw [show Tryz.f24.results.toList = [.tmp 6] by kernel_rfl]; simp [resA, h2, Am.single]) (fun _ _ => rfl) hr hs
  · cases h

/-! ### shard.May -/
def mayI (a b c d e : Int) : Bool := inI a 1 64 && inI b 1 1024 && inI c 1 256 && inI d 1 64 && inI e 0 64
theorem tf14 : tab.func 14 = some Tryz.f14 := by kernel_rfl
noncomputable def fl (t i : Nat) : Field := (fieldOf tab t i).getD default
theorem fl310 : fieldOf tab 31 0 = some (fl 31 0) ∧ (fl 31 0).type = 3 ∧ (fl 31 0).offset = 0 := ⟨by kernel_rfl, by kernel_rfl, by kernel_rfl⟩
theorem fl311 : fieldOf tab 31 1 = some (fl 31 1) ∧ (fl 31 1).type = 3 ∧ (fl 31 1).offset = 1 := ⟨by kernel_rfl, by kernel_rfl, by kernel_rfl⟩
theorem fl312 : fieldOf tab 31 2 = some (fl 31 2) ∧ (fl 31 2).type = 3 ∧ (fl 31 2).offset = 2 := ⟨by kernel_rfl, by kernel_rfl, by kernel_rfl⟩
theorem fl313 : fieldOf tab 31 3 = some (fl 31 3) ∧ (fl 31 3).type = 3 ∧ (fl 31 3).offset = 3 := ⟨by kernel_rfl, by kernel_rfl, by kernel_rfl⟩
theorem fl314 : fieldOf tab 31 4 = some (fl 31 4) ∧ (fl 31 4).type = 3 ∧ (fl 31 4).offset = 4 := ⟨by kernel_rfl, by kernel_rfl, by kernel_rfl⟩
theorem sz3 : tab.size 3 = some 1 := by kernel_rfl
theorem sz31 : tab.size 31 = some 5 := by kernel_rfl
theorem ag3 : tab.isAgg 3 = some false := by kernel_rfl
theorem ag31 : tab.isAgg 31 = some true := by kernel_rfl
theorem call24 : callF tab cIn 24 = cIn 24 := by
  funext args s
  unfold callF
  rw [tf24]

theorem may_eq (cert : Nat → Option (List Nat)) (fuel : Nat) (a b c d e : Int) (s : St heapPT) :
    ∃ env, evCode Tryz.prog tab cIn 26 cert fuel (Tryz.f14.body.getD .skip) (argsEnv [.agg [.int .i64 a, .int .i64 b, .int .i64 c, .int .i64 d, .int .i64 e]]) s = some (.ret, env, s.new (.cells [.int .i64 a, .int .i64 b, .int .i64 c, .int .i64 d, .int .i64 e])) ∧ env.get 2 = some (.bool (mayI a b c d e)) := by
  cases h1 : inI a 1 64 <;> cases h2 : inI b 1 1024 <;> cases h3 : inI c 1 256 <;> cases h4 : inI d 1 64 <;> cases h5 : inI e 0 64 <;>
    simp [Tryz.f14, evCode, evRegion, evOps, evOp, opd, dstOk, wantedA, Env.putO, env_get_put, args_get, ofV, h1, h2, h3, h4, h5, mayI, AV.cells, fl310, fl311, fl312, fl313, fl314, sz3, sz31, ag3, ag31, loadV, readV, St.cells, St.get_new, evCall, evList, call24, cIn]
end Go.Proofs.YtlkjleajcgifaaaGreatDoor
