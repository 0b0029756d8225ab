/- A region that draws its order: the trace of the run in the text's order. -/
import Derived.Test.YtbjkfbcladkfcaaGreatDoorAmRegA
set_option linter.unusedSimpArgs false
set_option linter.unusedVariables false
namespace Go.Am
section
variable {HI : HeapI}

structure Tr (HI : HeapI) where
  K : Nat
  ef : Nat → Nat
  H : Nat → St HI
  com : Nat → List (Nat × Nat × Blk)
  val : Nat → AV
  env : Nat → Env
  want : Nat → Bool
  al : Nat → Option (Nat × Blk)

def anc (ms : List Nat) (i j : Nat) : Prop := (ms.getD i 0).testBit j = true
instance (ms : List Nat) (i j : Nat) : Decidable (anc ms i j) := inferInstanceAs (Decidable (_ = true))

/-- Where a reading may come: all effects ahead of it are among the first k, none of these comes behind it. -/
def okAt (t : Tr HI) (ms : List Nat) (p k : Nat) : Prop := (∀ j, k ≤ j → j < t.K → ¬ anc ms p (t.ef j)) ∧ (∀ j, j < k → ¬ anc ms (t.ef j) p)

variable (P : Program) (T : Tab) (callee : Callee HI) (N : Nat) (ops : Array Oper) (ms : List Nat) (env0 : Env) (lo hi : Nat)

/-- What the run shows of one operation. -/
structure Gop (t : Tr HI) (p : Nat) (o : Oper) : Prop where
  dst : dstOk N o = true
  wanted : wantedA ops (t.env p) o = some (t.want p)
  src : ∀ u v, (t.env p).get u = some v → (∃ q, q < p ∧ ∃ oq, ops[q]? = some oq ∧ oq.dst = some u ∧ v = t.val q) ∨ ((∀ q, q < p → ∀ oq, ops[q]? = some oq → oq.dst ≠ some u) ∧ env0.get u = some v)
  no : t.want p = false → t.val p = .tuple [] ∧ t.al p = none
  pure : t.want p = true → clsOf o = .pure → t.al p = none ∧ ∀ s : St HI, evOp P T callee o (opd (t.env p)) s = some (t.val p, s)
  read : t.want p = true → clsOf o = .read → t.al p = none ∧ ∀ k, k ≤ t.K → okAt t ms p k → evOp P T callee o (opd (t.env p)) (t.H k) = some (t.val p, t.H k)
  alloc : t.want p = true → clsOf o = .alloc → ∃ b f x, t.al p = some (b, x) ∧ evAlloc T o (opd (t.env p)) = some (f, x) ∧ t.val p = f b ∧ lo ≤ b ∧ b < hi
  eff : t.want p = true → clsOf o = .eff → t.al p = none ∧ ∃ j, j < t.K ∧ t.ef j = p ∧ evOp P T callee o (opd (t.env p)) (commit (t.com j) (t.H j)) = some (t.val p, t.H (j + 1))

/-- What it shows of the effects. -/
structure Geff (t : Tr HI) (n : Nat) : Prop where
  lt : ∀ j, j < t.K → t.ef j < n
  op : ∀ j, j < t.K → ∃ o, ops[t.ef j]? = some o ∧ clsOf o = .eff ∧ t.want (t.ef j) = true
  chain : ∀ j j', j < j' → j' < t.K → t.ef j < t.ef j' ∧ anc ms (t.ef j') (t.ef j)
  com : ∀ j, j < t.K → ∀ x ∈ t.com j, x.1 < t.ef j ∧ anc ms (t.ef j) x.1 ∧ t.al x.1 = some x.2 ∧ ∀ j', j' < j → ¬ anc ms (t.ef j') x.1
  comAll : ∀ j, j < t.K → ∀ p, p < t.ef j → ∀ y, t.al p = some y → anc ms (t.ef j) p → (∀ j', j' < j → ¬ anc ms (t.ef j') p) → (p, y) ∈ t.com j
  comNodup : ∀ j, j < t.K → ((t.com j).map (·.1)).Nodup
  ids : ∀ p q, p < n → q < n → ∀ x y, t.al p = some x → t.al q = some y → x.1 = y.1 → p = q

/-- How the run's state hangs on the trace so far. -/
structure TP (t : Tr HI) (n : Nat) (d : DS HI) : Prop where
  gop : ∀ p, p < n → ∀ o, ops[p]? = some o → Gop P T callee N ops ms env0 lo hi t p o
  geff : Geff ops ms t n
  env : ∀ u v, d.env.get u = some v → (∃ q, q < n ∧ ∃ oq, ops[q]? = some oq ∧ oq.dst = some u ∧ v = t.val q) ∨ ((∀ q, q < n → ∀ oq, ops[q]? = some oq → oq.dst ≠ some u) ∧ env0.get u = some v)
  s : d.s = t.H t.K
  hist : d.hist = (List.range t.K).reverse.map fun j => (t.ef j, t.H j)
  wat : ∀ p, p < n → ∀ o, ops[p]? = some o → t.want p = true → clsOf o = .read → (∀ j, j < t.K → ¬ anc ms (t.ef j) p) → (p, o, t.env p, t.val p) ∈ d.wat
  pend : ∀ x ∈ d.pend, x.1 < n ∧ t.al x.1 = some x.2 ∧ ∀ j, j < t.K → ¬ anc ms (t.ef j) x.1
  pendAll : ∀ p, p < n → ∀ y, t.al p = some y → (∀ j, j < t.K → ¬ anc ms (t.ef j) p) → (p, y) ∈ d.pend
  pendNodup : (d.pend.map (·.1)).Nodup
  nid : lo ≤ d.nid ∧ ∀ p, p < n → ∀ x, t.al p = some x → x.1 < d.nid
  cap : d.nid + (ops.size - n) ≤ hi
  mask : ∀ i j, anc ms i j → j < i

theorem readsBack_spec {o : Oper} {env : Env} {v : AV} {mask : Nat} {H : Nat → St HI} {ef : Nat → Nat} : ∀ {K : Nat}, readsBack P T callee o env v mask ((List.range K).reverse.map fun j => (ef j, H j)) = true →
    ∀ k, k < K → (∀ j, k ≤ j → j < K → ¬ mask.testBit (ef j) = true) → reads1 P T callee o env v (H k) = true
  | 0, _, k, hk, _ => by omega
  | K + 1, h, k, hk, hno => by
    rw [List.range_succ, List.reverse_append, List.map_append] at h
    simp only [List.reverse_cons, List.reverse_nil, List.nil_append, List.map_cons, List.map_nil, List.singleton_append, readsBack] at h
    rw [if_neg (hno K (by omega) (by omega)), Bool.and_eq_true] at h
    by_cases e : k = K
    · subst e; exact h.1
    · exact readsBack_spec h.2 k (by omega) (fun j h1 h2 => hno j h1 (by omega))

theorem reads1_spec {o : Oper} {env : Env} {v : AV} {s : St HI} (hc : clsOf o = .read) (h : reads1 P T callee o env v s = true) : evOp P T callee o (opd env) s = some (v, s) := by
  unfold reads1 at h
  split at h
  · rename_i u s' e
    have := AV.eq_of_beq _ _ h
    subst this
    have := read_same hc e
    subst this
    exact e
  · cases h
end
end Go.Am
