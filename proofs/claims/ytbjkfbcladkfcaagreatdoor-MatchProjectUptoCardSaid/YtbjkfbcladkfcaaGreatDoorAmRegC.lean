/- The trace grows, operation by operation. -/
import Derived.Test.YtbjkfbcladkfcaaGreatDoorAmRegB
set_option linter.unusedSimpArgs false
set_option linter.unusedVariables false
namespace Go.Am
section
variable {HI : HeapI} {P : Program} {T : Tab} {callee : Callee HI} {N : Nat} {ops : Array Oper} {ms : List Nat} {env0 : Env} {lo hi : Nat}

def Tr.upd (t : Tr HI) (n : Nat) (v : AV) (e : Env) (b : Bool) (y : Option (Nat × Blk)) : Tr HI :=
  { t with val := fun p => if p = n then v else t.val p, env := fun p => if p = n then e else t.env p, want := fun p => if p = n then b else t.want p, al := fun p => if p = n then y else t.al p }

def Tr.eff (t : Tr HI) (n : Nat) (c : List (Nat × Nat × Blk)) (s : St HI) : Tr HI :=
  { t with K := t.K + 1, ef := fun j => if j = t.K then n else t.ef j, H := fun k => if k = t.K + 1 then s else t.H k, com := fun j => if j = t.K then c else t.com j }

/-- What a trace says of the first n operations hangs on these alone. -/
theorem Gop.ext {t t' : Tr HI} {n p : Nat} {o : Oper} (hp : p < n) (g : Gop P T callee N ops ms env0 lo hi t p o)
    (hval : ∀ q, q < n → t'.val q = t.val q) (henv : ∀ q, q < n → t'.env q = t.env q) (hwant : ∀ q, q < n → t'.want q = t.want q) (hal : ∀ q, q < n → t'.al q = t.al q)
    (hK : t.K ≤ t'.K) (hef : ∀ j, j < t.K → t'.ef j = t.ef j) (hH : ∀ k, k ≤ t.K → t'.H k = t.H k) (hcom : ∀ j, j < t.K → t'.com j = t.com j)
    (hread : t.want p = true → clsOf o = .read → ∀ k, t.K < k → k ≤ t'.K → okAt t' ms p k → evOp P T callee o (opd (t.env p)) (t'.H k) = some (t.val p, t'.H k)) :
    Gop P T callee N ops ms env0 lo hi t' p o where
  dst := g.dst
  wanted := by rw [henv p hp, hwant p hp]; exact g.wanted
  src u v hu := by
    rw [henv p hp] at hu
    rcases g.src u v hu with ⟨q, h1, oq, h2, h3, h4⟩ | h
    · exact .inl ⟨q, h1, oq, h2, h3, by rw [hval q (by omega)]; exact h4⟩
    · exact .inr h
  no hw := by rw [hwant p hp] at hw; rw [hval p hp, hal p hp]; exact g.no hw
  pure hw hc := by rw [hwant p hp] at hw; rw [hval p hp, hal p hp, henv p hp]; exact g.pure hw hc
  read hw hc := by
    rw [hwant p hp] at hw
    rw [hval p hp, hal p hp, henv p hp]
    obtain ⟨h1, h2⟩ := g.read hw hc
    refine ⟨h1, fun k hk hok => ?_⟩
    by_cases hk2 : k ≤ t.K
    · rw [hH k hk2]
      refine h2 k hk2 ⟨fun j h3 h4 => ?_, fun j h3 => ?_⟩
      · rw [← hef j h4]; exact hok.1 j h3 (by omega)
      · rw [← hef j (by omega)]; exact hok.2 j h3
    · exact hread hw hc k (by omega) hk hok
  alloc hw hc := by rw [hwant p hp] at hw; rw [hval p hp, hal p hp, henv p hp]; exact g.alloc hw hc
  eff hw hc := by
    rw [hwant p hp] at hw
    rw [hval p hp, hal p hp, henv p hp]
    obtain ⟨h1, j, h2, h3, h4⟩ := g.eff hw hc
    exact ⟨h1, j, by omega, by rw [hef j h2]; exact h3, by rw [hcom j h2, hH j (by omega), hH (j + 1) (by omega)]; exact h4⟩

theorem env_step {t' : Tr HI} {n : Nat} {env : Env} {o : Oper} {v : AV} {val : Nat → AV} (ho : ops[n]? = some o) (hval : ∀ q, q < n → t'.val q = val q) (hn : t'.val n = v)
    (he : ∀ u v, env.get u = some v → (∃ q, q < n ∧ ∃ oq, ops[q]? = some oq ∧ oq.dst = some u ∧ v = val q) ∨ ((∀ q, q < n → ∀ oq, ops[q]? = some oq → oq.dst ≠ some u) ∧ env0.get u = some v)) :
    ∀ u x, (env.putO o.dst v).get u = some x → (∃ q, q < n + 1 ∧ ∃ oq, ops[q]? = some oq ∧ oq.dst = some u ∧ x = t'.val q) ∨ ((∀ q, q < n + 1 → ∀ oq, ops[q]? = some oq → oq.dst ≠ some u) ∧ env0.get u = some x) := by
  intro u x hx
  have other : o.dst ≠ some u → env.get u = some x → (∃ q, q < n + 1 ∧ ∃ oq, ops[q]? = some oq ∧ oq.dst = some u ∧ x = t'.val q) ∨ ((∀ q, q < n + 1 → ∀ oq, ops[q]? = some oq → oq.dst ≠ some u) ∧ env0.get u = some x) := fun hne hg => by
    rcases he u x hg with ⟨q, h1, oq, h2, h3, h4⟩ | ⟨h1, h2⟩
    · exact .inl ⟨q, by omega, oq, h2, h3, by rw [hval q h1]; exact h4⟩
    · refine .inr ⟨fun q hq oq hoq => ?_, h2⟩
      by_cases e : q = n
      · subst e; rw [ho] at hoq; cases hoq; exact hne
      · exact h1 q (by omega) oq hoq
  cases hd : o.dst with
  | none =>
    rw [hd] at hx
    exact other (by rw [hd]; simp) hx
  | some d =>
    rw [hd] at hx
    simp only [Env.putO, Env.get_put] at hx
    by_cases e : u = d
    · rw [if_pos e] at hx
      cases hx
      exact .inl ⟨n, by omega, o, ho, by rw [hd, e], hn.symm⟩
    · rw [if_neg e] at hx
      exact other (by rw [hd]; simpa using Ne.symm e) hx

theorem lt_of_getElem? {α : Type} {a : Array α} {i : Nat} {x : α} (h : a[i]? = some x) : i < a.size := (Array.getElem?_eq_some_iff.1 h).1

/-- One operation that is no effect. -/
theorem TP.quiet {t : Tr HI} {n : Nat} {d : DS HI} {o : Oper} {v : AV} {b : Bool} {y : Option (Nat × Blk)} {wat' : List (Nat × Oper × Env × AV)} {pend' : List (Nat × Nat × Blk)} {nid' : Nat} (h : TP P T callee N ops ms env0 lo hi t n d) (ho : ops[n]? = some o)
    (hg : Gop P T callee N ops ms env0 lo hi (t.upd n v d.env b y) n o) (hne : clsOf o = .eff → b = false)
    (hwat : (∃ x, wat' = x :: d.wat ∧ x = (n, o, d.env, v)) ∨ (wat' = d.wat ∧ (b = true → clsOf o ≠ .read)))
    (hpend : (y = none ∧ pend' = d.pend ∧ nid' = d.nid) ∨ (∃ x, y = some (d.nid, x) ∧ pend' = (n, d.nid, x) :: d.pend ∧ nid' = d.nid + 1)) :
    TP P T callee N ops ms env0 lo hi (t.upd n v d.env b y) (n + 1) { env := d.env.putO o.dst v, s := d.s, hist := d.hist, wat := wat', pend := pend', nid := nid' } := by
  have hval : ∀ q, q < n → (t.upd n v d.env b y).val q = t.val q := fun q hq => by simp [Tr.upd, Nat.ne_of_lt hq]
  have henv : ∀ q, q < n → (t.upd n v d.env b y).env q = t.env q := fun q hq => by simp [Tr.upd, Nat.ne_of_lt hq]
  have hwant : ∀ q, q < n → (t.upd n v d.env b y).want q = t.want q := fun q hq => by simp [Tr.upd, Nat.ne_of_lt hq]
  have hal : ∀ q, q < n → (t.upd n v d.env b y).al q = t.al q := fun q hq => by simp [Tr.upd, Nat.ne_of_lt hq]
  have haln : (t.upd n v d.env b y).al n = y := by simp [Tr.upd]
  have hlt := lt_of_getElem? ho
  have hef : ∀ j, j < t.K → t.ef j ≠ n := fun j hj => Nat.ne_of_lt (h.geff.lt j hj)
  refine ⟨?_, ⟨?_, ?_, h.geff.chain, ?_, ?_, h.geff.comNodup, ?_⟩, env_step ho hval (by simp [Tr.upd]) h.env, h.s, h.hist, ?_, ?_, ?_, ?_, ?_, ?_, h.mask⟩
  · intro p hp op hop
    by_cases e : p = n
    · subst e; rw [ho] at hop; cases hop; exact hg
    · exact (h.gop p (by omega) op hop).ext (n := n) (by omega) hval henv hwant hal (Nat.le_refl _) (fun _ _ => rfl) (fun _ _ => rfl) (fun _ _ => rfl) (fun _ _ k h1 h2 => absurd h2 (by show ¬ k ≤ t.K; omega))
  · intro j hj; have := h.geff.lt j hj; show t.ef j < n + 1; omega
  · intro j hj
    obtain ⟨oj, h1, h2, h3⟩ := h.geff.op j hj
    refine ⟨oj, h1, h2, ?_⟩
    show (t.upd n v d.env b y).want (t.ef j) = true
    rw [hwant _ (h.geff.lt j hj)]
    exact h3
  · intro j hj x hx
    obtain ⟨h1, h2, h3, h4⟩ := h.geff.com j hj x hx
    refine ⟨h1, h2, ?_, h4⟩
    rw [hal x.1 (by have := h.geff.lt j hj; omega)]
    exact h3
  · intro j hj p hp z hz
    rw [hal p (by have := h.geff.lt j hj; have : p < t.ef j := hp; omega)] at hz
    exact h.geff.comAll j hj p hp z hz
  · intro p q hp hq x z hx hz e
    have fresh : ∀ r, r < n → ∀ u, t.al r = some u → u.1 < d.nid := h.nid.2
    by_cases e1 : p = n
    · by_cases e2 : q = n
      · omega
      · subst e1
        rw [haln] at hx
        rw [hal q (by omega)] at hz
        rcases hpend with ⟨rfl, _⟩ | ⟨w, rfl, _⟩
        · cases hx
        · cases hx; have := fresh q (by omega) z hz; simp at e; omega
    · by_cases e2 : q = n
      · subst e2
        rw [haln] at hz
        rw [hal p (by omega)] at hx
        rcases hpend with ⟨rfl, _⟩ | ⟨w, rfl, _⟩
        · cases hz
        · cases hz; have := fresh p (by omega) x hx; simp at e; omega
      · rw [hal p (by omega)] at hx
        rw [hal q (by omega)] at hz
        exact h.geff.ids p q (by omega) (by omega) x z hx hz e
  · intro p hp op hop hw hc hno
    by_cases e : p = n
    · subst e
      rw [ho] at hop; cases hop
      rcases hwat with ⟨x, rfl, rfl⟩ | ⟨_, h2⟩
      · simp [Tr.upd]
      · exact absurd hc (h2 (by simpa [Tr.upd] using hw))
    · have hm := h.wat p (by omega) op hop (by rw [hwant p (by omega)] at hw; exact hw) hc hno
      rw [henv p (by omega), hval p (by omega)]
      rcases hwat with ⟨x, rfl, _⟩ | ⟨rfl, _⟩
      · exact List.mem_cons_of_mem _ hm
      · exact hm
  · intro x hx
    have old : ∀ x ∈ d.pend, x.1 < n + 1 ∧ (t.upd n v d.env b y).al x.1 = some x.2 ∧ ∀ j, j < t.K → ¬ anc ms (t.ef j) x.1 := fun x hx => by
      obtain ⟨h1, h2, h3⟩ := h.pend x hx
      exact ⟨by omega, by rw [hal x.1 h1]; exact h2, h3⟩
    rcases hpend with ⟨_, rfl, _⟩ | ⟨z, rfl, rfl, _⟩
    · exact old x hx
    · cases hx with
      | head => exact ⟨by simp, haln, fun j hj hanc => by have h1 : n < t.ef j := h.mask _ _ hanc; have h2 : t.ef j < n := h.geff.lt j hj; omega⟩
      | tail _ hx => exact old x hx
  · intro p hp z hz hno
    by_cases e : p = n
    · subst e
      rw [haln] at hz
      rcases hpend with ⟨rfl, _⟩ | ⟨w, rfl, rfl, _⟩
      · cases hz
      · cases hz; exact List.mem_cons_self
    · rw [hal p (by omega)] at hz
      have := h.pendAll p (by omega) z hz hno
      rcases hpend with ⟨_, rfl, _⟩ | ⟨w, _, rfl, _⟩
      · exact this
      · exact List.mem_cons_of_mem _ this
  · rcases hpend with ⟨_, rfl, _⟩ | ⟨w, _, rfl, _⟩
    · exact h.pendNodup
    · simp only [List.map_cons, List.nodup_cons]
      refine ⟨fun hm => ?_, h.pendNodup⟩
      obtain ⟨x, hx, e⟩ := List.mem_map.1 hm
      have := (h.pend x hx).1
      omega
  · have h1 := h.nid
    rcases hpend with ⟨rfl, _, rfl⟩ | ⟨w, rfl, _, rfl⟩
    · refine ⟨h1.1, fun p hp x hx => ?_⟩
      by_cases e : p = n
      · subst e; rw [haln] at hx; cases hx
      · rw [hal p (by omega)] at hx; exact h1.2 p (by omega) x hx
    · refine ⟨by show lo ≤ d.nid + 1; omega, fun p hp x hx => ?_⟩
      show x.1 < d.nid + 1
      by_cases e : p = n
      · subst e; rw [haln] at hx; cases hx; simp
      · rw [hal p (by omega)] at hx; have := h1.2 p (by omega) x hx; omega
  · have h1 := h.cap
    rcases hpend with ⟨_, _, rfl⟩ | ⟨w, _, _, rfl⟩
    · show d.nid + (ops.size - (n + 1)) ≤ hi; omega
    · show d.nid + 1 + (ops.size - (n + 1)) ≤ hi; omega

/-- One effect. -/
theorem TP.effect {t : Tr HI} {n : Nat} {d : DS HI} {o : Oper} {v : AV} {s' : St HI} (h : TP P T callee N ops ms env0 lo hi t n d) (ho : ops[n]? = some o) (hd : dstOk N o = true) (hw : wantedA ops d.env o = some true) (hc : clsOf o = .eff)
    (hev : evOp P T callee o (opd d.env) (commit (d.pend.filter fun p => (ms.getD n 0).testBit p.1) d.s) = some (v, s'))
    (hchain : d.hist.all (fun x => (ms.getD n 0).testBit x.1) = true) (hreads : d.wat.all (fun x => (ms.getD n 0).testBit x.1 || reads1 P T callee x.2.1 x.2.2.1 x.2.2.2 s') = true) :
    TP P T callee N ops ms env0 lo hi ((t.upd n v d.env true none).eff n (d.pend.filter fun p => (ms.getD n 0).testBit p.1) s') (n + 1)
      { env := d.env.putO o.dst v, s := s', hist := (n, d.s) :: d.hist, wat := d.wat.filter (fun x => !(ms.getD n 0).testBit x.1), pend := d.pend.filter (fun p => !(ms.getD n 0).testBit p.1), nid := d.nid } := by
  generalize ht : (t.upd n v d.env true none).eff n (d.pend.filter fun p => (ms.getD n 0).testBit p.1) s' = t'
  have hK : t'.K = t.K + 1 := by rw [← ht]; rfl
  have hval : ∀ q, q < n → t'.val q = t.val q := fun q hq => by rw [← ht]; simp [Tr.upd, Tr.eff, Nat.ne_of_lt hq]
  have henv : ∀ q, q < n → t'.env q = t.env q := fun q hq => by rw [← ht]; simp [Tr.upd, Tr.eff, Nat.ne_of_lt hq]
  have hwant : ∀ q, q < n → t'.want q = t.want q := fun q hq => by rw [← ht]; simp [Tr.upd, Tr.eff, Nat.ne_of_lt hq]
  have hal : ∀ q, q < n → t'.al q = t.al q := fun q hq => by rw [← ht]; simp [Tr.upd, Tr.eff, Nat.ne_of_lt hq]
  have haln : t'.al n = none := by rw [← ht]; simp [Tr.upd, Tr.eff]
  have hvaln : t'.val n = v := by rw [← ht]; simp [Tr.upd, Tr.eff]
  have henvn : t'.env n = d.env := by rw [← ht]; simp [Tr.upd, Tr.eff]
  have hwantn : t'.want n = true := by rw [← ht]; simp [Tr.upd, Tr.eff]
  have hef : ∀ j, j < t.K → t'.ef j = t.ef j := fun j hj => by rw [← ht]; simp [Tr.upd, Tr.eff, Nat.ne_of_lt hj]
  have hefK : t'.ef t.K = n := by rw [← ht]; simp [Tr.upd, Tr.eff]
  have hH : ∀ k, k ≤ t.K → t'.H k = t.H k := fun k hk => by rw [← ht]; exact if_neg (by show ¬ k = t.K + 1; omega)
  have hHK : t'.H (t.K + 1) = s' := by rw [← ht]; simp [Tr.upd, Tr.eff]
  have hcom : ∀ j, j < t.K → t'.com j = t.com j := fun j hj => by rw [← ht]; simp [Tr.upd, Tr.eff, Nat.ne_of_lt hj]
  have hcomK : t'.com t.K = d.pend.filter fun p => (ms.getD n 0).testBit p.1 := by rw [← ht]; simp [Tr.upd, Tr.eff]
  have hlt := lt_of_getElem? ho
  have heflt : ∀ j, j < t'.K → t'.ef j < n + 1 := fun j hj => by
    by_cases e : j < t.K
    · rw [hef j e]; have := h.geff.lt j e; omega
    · rw [show j = t.K by omega, hefK]; omega
  have chainK : ∀ j, j < t.K → anc ms n (t.ef j) := fun j hj => by
    rw [h.hist, List.all_map, List.all_eq_true] at hchain
    exact hchain j (by simp [hj])
  have readK : ∀ p, p < n → ∀ op, ops[p]? = some op → t.want p = true → clsOf op = .read → okAt t' ms p (t.K + 1) → evOp P T callee op (opd (t.env p)) s' = some (t.val p, s') := by
    intro p hp op hop hwp hcp hok
    have hmem := h.wat p hp op hop hwp hcp (fun j hj hanc => by
      have := hok.2 j (by omega)
      rw [hef j hj] at this
      exact this hanc)
    have h1 := List.all_eq_true.1 hreads _ hmem
    have h2 := hok.2 t.K (by omega)
    rw [hefK] at h2
    simp only [Bool.or_eq_true] at h1
    exact reads1_spec P T callee hcp (h1.resolve_left h2)
  refine ⟨?_, ⟨?_, ?_, ?_, ?_, ?_, ?_, ?_⟩, env_step ho hval hvaln h.env, by rw [hK]; exact hHK.symm, ?_, ?_, ?_, ?_, ?_, ⟨h.nid.1, ?_⟩, ?_, h.mask⟩
  · intro p hp op hop
    by_cases e : p = n
    · subst e
      rw [ho] at hop; cases hop
      refine ⟨hd, by rw [henvn, hwantn]; exact hw, ?_, (fun e => by rw [hwantn] at e; cases e), (fun _ e => by rw [hc] at e; cases e), (fun _ e => by rw [hc] at e; cases e), (fun _ e => by rw [hc] at e; cases e), fun _ _ => ⟨haln, t.K, by omega, hefK, ?_⟩⟩
      · intro u x hx
        rw [henvn] at hx
        rcases h.env u x hx with ⟨q, h1, oq, h2, h3, h4⟩ | hh
        · exact .inl ⟨q, h1, oq, h2, h3, by rw [hval q h1]; exact h4⟩
        · exact .inr hh
      · rw [henvn, hcomK, hH t.K (Nat.le_refl _), hHK, hvaln, ← h.s]
        exact hev
    · exact (h.gop p (by omega) op hop).ext (n := n) (by omega) hval henv hwant hal (by omega) hef hH hcom (fun hwp hcp k h1 h2 hok => by
        have : k = t.K + 1 := by omega
        subst this
        rw [hHK]
        exact readK p (by omega) op hop hwp hcp hok)
  · exact heflt
  · intro j hj
    by_cases e : j < t.K
    · obtain ⟨oj, h1, h2, h3⟩ := h.geff.op j e
      rw [hef j e, hwant _ (h.geff.lt j e)]
      exact ⟨oj, h1, h2, h3⟩
    · rw [show j = t.K by omega, hefK, hwantn]
      exact ⟨o, ho, hc, rfl⟩
  · intro j j' hjj hj'
    by_cases e : j' < t.K
    · rw [hef j' e, hef j (by omega)]; exact h.geff.chain j j' hjj e
    · have : j' = t.K := by omega
      subst this
      rw [hefK, hef j hjj]
      exact ⟨h.geff.lt j hjj, chainK j hjj⟩
  · intro j hj x hx
    by_cases e : j < t.K
    · rw [hcom j e] at hx
      obtain ⟨h1, h2, h3, h4⟩ := h.geff.com j e x hx
      have := h.geff.lt j e
      rw [hef j e, hal x.1 (by omega)]
      exact ⟨h1, h2, h3, fun j' hj' => by rw [hef j' (by omega)]; exact h4 j' hj'⟩
    · have : j = t.K := by omega
      subst this
      rw [hcomK] at hx
      obtain ⟨h1, h2⟩ := List.mem_filter.1 hx
      obtain ⟨p1, p2, p3⟩ := h.pend x h1
      rw [hefK, hal x.1 p1]
      exact ⟨p1, h2, p2, fun j' hj' => by rw [hef j' hj']; exact p3 j' hj'⟩
  · intro j hj p hp y hy hanc hno
    by_cases e : j < t.K
    · rw [hef j e] at hp hanc
      rw [hal p (by have := h.geff.lt j e; omega)] at hy
      rw [hcom j e]
      exact h.geff.comAll j e p hp y hy hanc (fun j' hj' => by rw [← hef j' (by omega)]; exact hno j' hj')
    · have : j = t.K := by omega
      subst this
      rw [hefK] at hp hanc
      rw [hal p hp] at hy
      rw [hcomK]
      exact List.mem_filter.2 ⟨h.pendAll p hp y hy (fun j' hj' => by rw [← hef j' hj']; exact hno j' hj'), hanc⟩
  · intro j hj
    by_cases e : j < t.K
    · rw [hcom j e]; exact h.geff.comNodup j e
    · rw [show j = t.K by omega, hcomK]
      exact (List.filter_sublist.map _).nodup h.pendNodup
  · intro p q hp hq x z hx hz e
    by_cases e1 : p = n
    · subst e1; rw [haln] at hx; cases hx
    · by_cases e2 : q = n
      · subst e2; rw [haln] at hz; cases hz
      · rw [hal p (by omega)] at hx
        rw [hal q (by omega)] at hz
        exact h.geff.ids p q (by omega) (by omega) x z hx hz e
  · rw [hK, List.range_succ, List.reverse_append, List.map_append]
    simp only [List.reverse_cons, List.reverse_nil, List.nil_append, List.map_cons, List.map_nil, List.singleton_append]
    rw [hefK, hH t.K (Nat.le_refl _), h.s, h.hist]
    congr 1
    apply List.map_congr_left
    intro j hj
    have hj' : j < t.K := by simpa using hj
    rw [hef j hj', hH j (by omega)]
  · intro p hp op hop hwp hcp hno
    by_cases e : p = n
    · subst e; rw [ho] at hop; cases hop; rw [hc] at hcp; cases hcp
    · rw [hwant p (by omega)] at hwp
      rw [henv p (by omega), hval p (by omega)]
      refine List.mem_filter.2 ⟨h.wat p (by omega) op hop hwp hcp (fun j hj => by rw [← hef j hj]; exact hno j (by omega)), ?_⟩
      have := hno t.K (by omega)
      rw [hefK] at this
      simpa [anc] using this
  · intro x hx
    obtain ⟨h1, h2⟩ := List.mem_filter.1 hx
    obtain ⟨p1, p2, p3⟩ := h.pend x h1
    refine ⟨by omega, by rw [hal x.1 p1]; exact p2, fun j hj => ?_⟩
    by_cases e : j < t.K
    · rw [hef j e]; exact p3 j e
    · rw [show j = t.K by omega, hefK]; simpa [anc] using h2
  · intro p hp y hy hno
    by_cases e : p = n
    · subst e; rw [haln] at hy; cases hy
    · rw [hal p (by omega)] at hy
      refine List.mem_filter.2 ⟨h.pendAll p (by omega) y hy (fun j hj => by rw [← hef j hj]; exact hno j (by omega)), ?_⟩
      have := hno t.K (by omega)
      rw [hefK] at this
      simpa [anc] using this
  · exact (List.filter_sublist.map _).nodup h.pendNodup
  · intro p hp x hx
    by_cases e : p = n
    · subst e; rw [haln] at hx; cases hx
    · rw [hal p (by omega)] at hx; exact h.nid.2 p (by omega) x hx
  · have := h.cap; show d.nid + (ops.size - (n + 1)) ≤ hi; omega

theorem TP.step {t : Tr HI} {n : Nat} {d d' : DS HI} {o : Oper} (h : TP P T callee N ops ms env0 lo hi t n d) (ho : ops[n]? = some o) (hst : stepD P T callee N ops n o (ms.getD n 0) d = some d') :
    ∃ t', TP P T callee N ops ms env0 lo hi t' (n + 1) d' ∧ t'.H 0 = t.H 0 := by
  unfold stepD at hst
  have hlt := lt_of_getElem? ho
  split at hst
  · rename_i hd
    -- the trace's source of temporaries, at this operation
    have src : ∀ {v : AV} {b : Bool} {y : Option (Nat × Blk)}, ∀ u x, ((t.upd n v d.env b y).env n).get u = some x → (∃ q, q < n ∧ ∃ oq, ops[q]? = some oq ∧ oq.dst = some u ∧ x = (t.upd n v d.env b y).val q) ∨ ((∀ q, q < n → ∀ oq, ops[q]? = some oq → oq.dst ≠ some u) ∧ env0.get u = some x) := by
      intro v b y u x hx
      have e : (t.upd n v d.env b y).env n = d.env := by simp [Tr.upd]
      rw [e] at hx
      rcases h.env u x hx with ⟨q, h1, oq, h2, h3, h4⟩ | hh
      · exact .inl ⟨q, h1, oq, h2, h3, by simp [Tr.upd, Nat.ne_of_lt h1, h4]⟩
      · exact .inr hh
    split at hst
    · rename_i hw
      cases hst
      refine ⟨_, h.quiet (v := .tuple []) (b := false) (y := none) (wat' := d.wat) (pend' := d.pend) (nid' := d.nid) ho ?_ (fun _ => rfl) (.inr ⟨rfl, fun e => by cases e⟩) (.inl ⟨rfl, rfl, rfl⟩), rfl⟩
      exact ⟨hd, by simpa [Tr.upd] using hw, src, (fun _ => by simp [Tr.upd]), (fun e => by simp [Tr.upd] at e), (fun e => by simp [Tr.upd] at e), (fun e => by simp [Tr.upd] at e), (fun e => by simp [Tr.upd] at e)⟩
    · rename_i hw
      split at hst
      · rename_i hc
        split at hst
        · rename_i v s1 hev
          cases hst
          refine ⟨_, h.quiet (v := v) (b := true) (y := none) (wat' := d.wat) (pend' := d.pend) (nid' := d.nid) ho ?_ (fun e => by rw [hc] at e; cases e) (.inr ⟨rfl, (fun _ e => by rw [hc] at e; cases e)⟩) (.inl ⟨rfl, rfl, rfl⟩), rfl⟩
          exact ⟨hd, by simpa [Tr.upd] using hw, src, (fun e => by simp [Tr.upd] at e), fun _ _ => ⟨by simp [Tr.upd], (fun s2 => by simpa [Tr.upd] using pure_any hc hev s2)⟩, (fun _ e => by rw [hc] at e; cases e), (fun _ e => by rw [hc] at e; cases e), (fun _ e => by rw [hc] at e; cases e)⟩
        · cases hst
      · rename_i hc
        split at hst
        · rename_i v s1 hev
          split at hst
          · rename_i hback
            cases hst
            have hs1 := read_same hc hev
            subst hs1
            refine ⟨_, h.quiet (v := v) (b := true) (y := none) (wat' := (n, o, d.env, v) :: d.wat) (pend' := d.pend) (nid' := d.nid) ho ?_ (fun e => by rw [hc] at e; cases e) (.inl ⟨_, rfl, rfl⟩) (.inl ⟨rfl, rfl, rfl⟩), rfl⟩
            refine ⟨hd, by simpa [Tr.upd] using hw, src, (fun e => by simp [Tr.upd] at e), (fun _ e => by rw [hc] at e; cases e), fun _ _ => ⟨by simp [Tr.upd], fun k hk hok => ?_⟩, (fun _ e => by rw [hc] at e; cases e), (fun _ e => by rw [hc] at e; cases e)⟩
            have e1 : (t.upd n v d.env true none).env n = d.env := by simp [Tr.upd]
            have e2 : (t.upd n v d.env true none).val n = v := by simp [Tr.upd]
            rw [e1, e2]
            show evOp P T callee o (opd d.env) (t.H k) = some (v, t.H k)
            by_cases ek : k = t.K
            · subst ek; rw [← h.s]; exact hev
            · have hk' : k ≤ t.K := hk
              rw [h.hist] at hback
              exact reads1_spec P T callee hc (readsBack_spec P T callee hback k (by omega) (fun j h1 h2 => hok.1 j h1 h2))
          · cases hst
        · cases hst
      · rename_i hc
        split at hst
        · rename_i f x hal
          cases hst
          refine ⟨_, h.quiet (v := f d.nid) (b := true) (y := some (d.nid, x)) (wat' := d.wat) (pend' := (n, d.nid, x) :: d.pend) (nid' := d.nid + 1) ho ?_ (fun e => by rw [hc] at e; cases e) (.inr ⟨rfl, (fun _ e => by rw [hc] at e; cases e)⟩) (.inr ⟨x, rfl, rfl, rfl⟩), rfl⟩
          refine ⟨hd, by simpa [Tr.upd] using hw, src, (fun e => by simp [Tr.upd] at e), (fun _ e => by rw [hc] at e; cases e), (fun _ e => by rw [hc] at e; cases e), fun _ _ => ⟨d.nid, f, x, by simp [Tr.upd], by simpa [Tr.upd] using hal, by simp [Tr.upd], h.nid.1, ?_⟩, (fun _ e => by rw [hc] at e; cases e)⟩
          have := h.cap
          omega
        · cases hst
      · rename_i hc
        split at hst
        · rename_i v s1 hev
          split at hst
          · rename_i hall
            cases hst
            rw [Bool.and_eq_true] at hall
            exact ⟨_, h.effect ho hd hw hc hev hall.1 hall.2, by simp [Tr.upd, Tr.eff]⟩
          · cases hst
        · cases hst
    · cases hst
  · cases hst
end
end Go.Am
