/- What shard.New answers where it is given no store. -/
import Derived.Test.YtlkjleajcgifaaaGreatDoorAmC1
namespace Go.Proofs.YtlkjleajcgifaaaGreatDoor
open Go Go.Am
set_option maxRecDepth 100000

noncomputable def cMay : Go.Am.Callee heapPT := fun f args s =>
  match f, args with
  | 14, [.agg [.int .i64 a, .int .i64 b, .int .i64 c, .int .i64 d, .int .i64 e]] => some (.bool (mayI a b c d e), { h := s.h, next := s.next + 1 })
  | _, _ => cIn f args s

theorem cMay_ok : CalleeOK Tryz.prog cMay := by
  intro f args s v s' h ι w vs hr hs
  unfold cMay at h
  split at h
  · rename_i a b c d e
    cases h
    obtain ⟨env, h1, h2⟩ := may_eq (certs 14) 100000 a b c d e s
    exact fn_ok cIn_ok tf14 (c := Tryz.f14.body.getD .skip) (by kernel_rfl) h1 (by kernel_rfl) (.inr rfl) (by rw [show Tryz.f14.results.toList = [.tmp 2] by kernel_rfl]; simp [resA, h2, Am.single]) (fun b hb => by rw [St.get_new, if_neg (by omega)]) hr hs
  · exact cIn_ok _ _ _ _ _ h _ _ _ hr hs

theorem tf7 : tab.func 7 = some Tryz.f7 := by kernel_rfl
theorem callMay (f : Nat) (h : (tab.func f).isSome = true) : callF tab cMay f = cMay f := by
  funext args s
  unfold callF
  cases e : tab.func f with
  | none => rw [e] at h; cases h
  | some _ => rfl
theorem callMay14 : callF tab cMay 14 = cMay 14 := callMay 14 (by kernel_rfl)
theorem callMay24 : callF tab cMay 24 = cMay 24 := callMay 24 (by kernel_rfl)
noncomputable def u24 : TypeDesc := (tab.und 24).getD default
theorem und24 : tab.und 24 = some u24 := by kernel_rfl
theorem nk24 : nilKind u24 .nptr = true := by kernel_rfl

theorem get_new_h (s : St heapPT) (y : Blk) (k x : Nat) : St.get { h := (s.new y).h, next := k } x = if x = s.next then some y else s.get x := St.get_new s y x

theorem new_eq (cert : Nat → Option (List Nat)) (fuel : Nat) (a b c d e n : Int) (s : St heapPT) :
    ∃ env s1, evCode Tryz.prog tab cMay 52 cert fuel (Tryz.f7.body.getD .skip) (argsEnv [.agg [.int .i64 a, .int .i64 b, .int .i64 c, .int .i64 d, .int .i64 e], .int .i64 n, .nptr]) s = some (.ret, env, s1) ∧ s1.next = s.next + 2 ∧ (∀ x, x < s.next → s1.get x = s.get x) ∧ env.get 6 = some .nptr ∧ env.get 7 = some (.int .i64 (if mayI a b c d e && inI n 0 (IntKind.i64.wrap (a - 1)) then 1 else 5)) := by
  have hg : ∀ (y : Blk) (k x : Nat), x < s.next → St.get { h := (s.new y).h, next := k } x = s.get x := fun y k x hx => by
    have := St.get_new s y x
    rw [if_neg (by omega)] at this
    exact this
  cases h1 : mayI a b c d e <;> cases h2 : inI n 0 (IntKind.i64.wrap (a - 1)) <;>
    simp [Tryz.f7, evCode, evRegion, evOps, evOp, opd, dstOk, wantedA, Env.putO, env_get_put, args_get, ofV, h1, h2, AV.cells, fl310, sz3, sz31, ag3, ag31, loadV, readV, St.cells, St.get_new, evCall, evList, callMay14, callMay24, cMay, cIn, intOp, isShift, nilEq, und24, nk24, get_new_h]
  all_goals
    first | (refine ⟨_, _, ⟨rfl, rfl⟩, rfl, fun x hx => hg _ _ x hx, ?_, ?_⟩ <;> simp [env_get_put]; done) | (refine ⟨_, _, rfl, rfl, fun x hx => hg _ _ x hx, ?_, ?_⟩ <;> simp [env_get_put]; done)

/-- What shard.New says where it is given no store: all well but the store, or out of range. -/
def newI (a b c d e n : Int) : Int := if mayI a b c d e && inI n 0 (IntKind.i64.wrap (a - 1)) then 1 else 5

/-- All that is known of the functions that a statement of layer 25 calls with numbers that are not told. -/
noncomputable def cNew : Go.Am.Callee heapPT := fun f args s =>
  match f, args with
  | 7, [.agg [.int .i64 a, .int .i64 b, .int .i64 c, .int .i64 d, .int .i64 e], .int .i64 n, .nptr] => some (.tuple [.nptr, .int .i64 (newI a b c d e n)], { h := s.h, next := s.next + 2 })
  | _, _ => cMay f args s

theorem cNew_ok : CalleeOK Tryz.prog cNew := by
  intro f args s v s' h ι w vs hr hs
  unfold cNew at h
  split at h
  · rename_i a b c d e n
    cases h
    obtain ⟨env, s1, h1, h2, h3, h4, h5⟩ := new_eq (certs 7) 100000 a b c d e n s
    have := fn_ok cMay_ok tf7 (c := Tryz.f7.body.getD .skip) (by kernel_rfl) h1 (by kernel_rfl) (.inr rfl) (v := .tuple [.nptr, .int .i64 (newI a b c d e n)]) (by rw [show Tryz.f7.results.toList = [.tmp 6, .tmp 7] by kernel_rfl]; simp only [resA, h4, h5, Am.single, newI, Option.map_some]) h3 hr hs
    rw [h2] at this
    exact this
  · exact cMay_ok _ _ _ _ _ h _ _ _ hr hs
end Go.Proofs.YtlkjleajcgifaaaGreatDoor
