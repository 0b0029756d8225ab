/- A region that draws its order: what comes ahead of what; the whole run. -/
import Derived.Test.YtbjkfbcladkfcaaGreatDoorAmRegC
set_option linter.unusedSimpArgs false
set_option linter.unusedVariables false
namespace Go.Am
section
variable {HI : HeapI} {P : Program} {T : Tab} {callee : Callee HI} {N : Nat} {ops : Array Oper} {ms : List Nat} {env0 : Env}

theorem mask_fold (msp : List Nat) (j : Nat) : ∀ (l : List Edge) (m : Nat), (l.foldl (fun m e => if Region.binds .any e then m ||| 2 ^ e.on ||| msp.getD e.on 0 else m) m).testBit j = true →
    m.testBit j = true ∨ ∃ e ∈ l, Region.binds .any e = true ∧ (e.on = j ∨ (msp.getD e.on 0).testBit j = true)
  | [], m, h => .inl h
  | e :: l, m, h => by
    simp only [List.foldl_cons] at h
    rcases mask_fold msp j l _ h with h1 | ⟨e', he', h2⟩
    · split at h1
      · rename_i hb
        simp only [Nat.testBit_or, Bool.or_eq_true] at h1
        rcases h1 with (h1 | h1) | h1
        · exact .inl h1
        · rw [Nat.testBit_two_pow] at h1
          exact .inr ⟨e, by simp, hb, .inl (by simpa using h1)⟩
        · exact .inr ⟨e, by simp, hb, .inr h1⟩
      · exact .inl h1
    · exact .inr ⟨e', by simp [he'], h2⟩

theorem maskOf_spec {msp : List Nat} {o : Oper} {j : Nat} (h : (maskOf msp o).testBit j = true) : ∃ e ∈ o.after.toList, Region.binds .any e = true ∧ (e.on = j ∨ (msp.getD e.on 0).testBit j = true) := by
  rcases mask_fold msp j _ _ h with h | h
  · simp at h
  · exact h

theorem masksFrom_spec : ∀ (l : List Oper) (acc : List Nat), (masksFrom l acc).length = acc.length + l.length ∧ (∀ i, i < acc.length → (masksFrom l acc)[i]? = acc[i]?) ∧
    ∀ (i : Nat) (o : Oper), l[i]? = some o → (masksFrom l acc)[acc.length + i]? = some (maskOf ((masksFrom l acc).take (acc.length + i)) o)
  | [], acc => by simp [masksFrom]
  | o :: l, acc => by
    obtain ⟨h1, h2, h3⟩ := masksFrom_spec l (acc ++ [maskOf acc o])
    simp only [List.length_append, List.length_cons, List.length_nil] at h1 h2 h3
    refine ⟨by simp only [masksFrom, h1, List.length_cons]; omega, fun i hi => ?_, fun i x hx => ?_⟩
    · simp only [masksFrom]
      rw [h2 i (by omega), List.getElem?_append_left hi]
    · simp only [masksFrom]
      cases i with
      | zero =>
        simp at hx
        subst hx
        rw [Nat.add_zero, h2 acc.length (by omega), List.getElem?_append_right (Nat.le_refl _)]
        have : (masksFrom l (acc ++ [maskOf acc o])).take acc.length = acc := by
          apply List.ext_getElem?
          intro j
          by_cases hj : j < acc.length
          · rw [List.getElem?_take_of_lt hj, h2 j (by omega), List.getElem?_append_left hj]
          · rw [List.getElem?_eq_none (by simp; omega), List.getElem?_eq_none (by omega)]
        rw [this]; simp
      | succ i =>
        have := h3 i x (by simpa using hx)
        rw [show acc.length + (i + 1) = acc.length + (0 + 1) + i by omega]
        exact this

theorem masks_get {i : Nat} {o : Oper} (ho : ops[i]? = some o) : (masks ops).getD i 0 = maskOf ((masks ops).take i) o := by
  have h := (masksFrom_spec ops.toList []).2.2 i o (by simpa using ho)
  simp only [List.length_nil, Nat.zero_add] at h
  unfold masks
  rw [List.getD_eq_getElem?_getD, h]
  rfl

theorem anc_spec (hms : masks ops = ms) {i j : Nat} {o : Oper} (ho : ops[i]? = some o) (h : anc ms i j) : ∃ e ∈ o.after.toList, Region.binds .any e = true ∧ (e.on = j ∨ (e.on < i ∧ anc ms e.on j)) := by
  subst hms
  unfold anc at h
  rw [masks_get ho] at h
  obtain ⟨e, h1, h2, h3⟩ := maskOf_spec h
  refine ⟨e, h1, h2, h3.imp id fun h4 => ?_⟩
  by_cases hlt : e.on < i
  · refine ⟨hlt, ?_⟩
    unfold anc
    rw [List.getD_eq_getElem?_getD, List.getElem?_take_of_lt hlt] at h4
    rwa [List.getD_eq_getElem?_getD]
  · rw [List.getD_eq_getElem?_getD, List.getElem?_eq_none (by simp; omega)] at h4
    simp at h4

theorem anc_op (hms : masks ops = ms) {i j : Nat} (h : anc ms i j) : ∃ o, ops[i]? = some o := by
  subst hms
  unfold anc at h
  have hl := (masksFrom_spec ops.toList []).1
  simp only [List.length_nil, Nat.zero_add, Array.length_toList] at hl
  rcases Nat.lt_or_ge i ops.size with hi | hi
  · exact ⟨ops[i], by simp [hi]⟩
  · rw [List.getD_eq_getElem?_getD, List.getElem?_eq_none (by show (masksFrom ops.toList []).length ≤ i; omega)] at h
    simp at h

/-- What 'lexOk' gives. -/
theorem lexOk_edge (h : lexOk ops ms = true) {i : Nat} {o : Oper} (ho : ops[i]? = some o) {e : Edge} (he : e ∈ o.after.toList) (hb : Region.binds .any e = true) : e.on < i := by
  unfold lexOk at h
  have hm : (o, i) ∈ ops.toList.zipIdx := by
    rw [List.mem_zipIdx_iff_getElem?]
    simpa using ho
  have := List.all_eq_true.1 h _ hm
  simp only [Bool.and_eq_true] at this
  have h1 := List.all_eq_true.1 this.1 e he
  rw [hb] at h1
  simp [Nat.blt] at h1
  omega

theorem lexOk_pair (h : lexOk ops ms = true) {i j : Nat} {o p : Oper} {d : Nat} (ho : ops[i]? = some o) (hp : ops[j]? = some p) (hd : p.dst = some d) :
    (i = j → d ∉ looks ops o) ∧ (i ≠ j → o.dst ≠ some d) ∧ (i ≠ j → d ∈ looks ops o → (j < i → anc ms i j) ∧ (i < j → anc ms j i)) := by
  unfold lexOk at h
  have hm : (o, i) ∈ ops.toList.zipIdx := by rw [List.mem_zipIdx_iff_getElem?]; simpa using ho
  have hm2 : (p, j) ∈ ops.toList.zipIdx := by rw [List.mem_zipIdx_iff_getElem?]; simpa using hp
  have := List.all_eq_true.1 h _ hm
  simp only [Bool.and_eq_true] at this
  have h1 := List.all_eq_true.1 this.2 _ hm2
  simp only [hd, Bool.and_eq_true] at h1
  obtain ⟨h2, h3⟩ := h1
  refine ⟨fun e => ?_, fun e => ?_, fun e hl => ⟨fun hlt => ?_, fun hlt => ?_⟩⟩
  · subst e
    rw [if_pos (by simp)] at h2
    simpa using h2
  · have : Nat.beq i j = false := by
      cases hb : Nat.beq i j
      · rfl
      · exact absurd (Nat.eq_of_beq_eq_true hb) e
    rw [this] at h3
    simpa using h3
  · have hb : ¬ Nat.beq i j = true := by simpa using e
    rw [if_neg hb, if_pos (by simpa using hl), if_pos (by simp [Nat.blt]; omega)] at h2
    exact h2
  · have hb : ¬ Nat.beq i j = true := by simpa using e
    rw [if_neg hb, if_pos (by simpa using hl), if_neg (by simp [Nat.blt]; omega)] at h2
    exact h2

theorem anc_lt (hms : masks ops = ms) (hlex : lexOk ops ms = true) : ∀ (i j : Nat), anc ms i j → j < i := by
  intro i
  induction i using Nat.strongRecOn with
  | _ i ih =>
    intro j h
    obtain ⟨o, ho⟩ := anc_op hms h
    obtain ⟨e, h1, h2, h3⟩ := anc_spec hms ho h
    have hlt := lexOk_edge hlex ho h1 h2
    rcases h3 with rfl | ⟨_, h3⟩
    · exact hlt
    · have := ih e.on hlt j h3; omega

/-- What is closed under 'ahead of' holds all ancestors. -/
theorem anc_mem (hms : masks ops = ms) {D : Nat → Prop} (hcl : ∀ i, D i → ∀ o, ops[i]? = some o → ∀ e ∈ o.after.toList, Region.binds .any e = true → D e.on) :
    ∀ (i j : Nat), anc ms i j → (∀ o, ops[i]? = some o → ∀ e ∈ o.after.toList, Region.binds .any e = true → D e.on) → D j := by
  intro i
  induction i using Nat.strongRecOn with
  | _ i ih =>
    intro j h hD
    obtain ⟨o, ho⟩ := anc_op hms h
    obtain ⟨e, h1, h2, h3⟩ := anc_spec hms ho h
    have hDe := hD o ho e h1 h2
    rcases h3 with rfl | ⟨hlt, h3⟩
    · exact hDe
    · exact ih e.on hlt j h3 (fun o' ho' => hcl e.on hDe o' ho')

/-- The whole run, as a trace. -/
theorem run_trace {lo hi : Nat} (hms : masks ops = ms) : ∀ (rest : List Oper) (n : Nat) (d d' : DS HI) (t : Tr HI), (∀ i, rest[i]? = ops[n + i]?) → TP P T callee N ops ms env0 lo hi t n d →
    runD P T callee N ops rest (ms.drop n) n d = some d' → ∃ t', TP P T callee N ops ms env0 lo hi t' (n + rest.length) d' ∧ t'.H 0 = t.H 0
  | [], n, d, d', t, _, h, hr => by
    simp only [runD] at hr
    cases hr
    exact ⟨t, h, rfl⟩
  | o :: rest, n, d, d', t, hl, h, hr => by
    have ho : ops[n]? = some o := by simpa using (hl 0).symm
    have hlen : ms.length = ops.size := by subst hms; have := (masksFrom_spec ops.toList []).1; simpa [masks] using this
    have hlt := lt_of_getElem? ho
    have hdrop : ms.drop n = ms.getD n 0 :: ms.drop (n + 1) := by
      rw [List.drop_eq_getElem_cons (by omega)]
      congr 1
      rw [List.getD_eq_getElem?_getD, List.getElem?_eq_getElem (by omega)]
      rfl
    rw [hdrop] at hr
    simp only [runD] at hr
    split at hr
    · rename_i d1 hst
      obtain ⟨t1, h1, h2⟩ := h.step ho hst
      obtain ⟨t2, h3, h4⟩ := run_trace hms rest (n + 1) d1 d' t1 (fun i => by have := hl (i + 1); simpa [Nat.add_assoc, Nat.add_comm 1 i] using this) h1 hr
      exact ⟨t2, by rw [show n + (o :: rest).length = n + 1 + rest.length by simp; omega]; exact h3, h4.trans h2⟩
    · cases hr

theorem draw_trace (hms : masks ops = ms) (hlex : lexOk ops ms = true) {s : St HI} {env' : Env} {s' : St HI} (h : evDraw P T callee N ops ms env0 s = some (env', s')) :
    ∃ t d, TP P T callee N ops ms env0 s.next (s.next + ops.size) t ops.size d ∧ t.H 0 = { s with next := s.next + ops.size } ∧ env' = d.env ∧ s' = commit d.pend d.s := by
  unfold evDraw at h
  split at h
  · rename_i d hd
    cases h
    let t0 : Tr HI := { K := 0, ef := fun _ => 0, H := fun _ => { s with next := s.next + ops.size }, com := fun _ => [], val := fun _ => .nptr, env := fun _ => .leaf, want := fun _ => false, al := fun _ => none }
    have h0 : TP P T callee N ops ms env0 s.next (s.next + ops.size) t0 0 { env := env0, s := { s with next := s.next + ops.size }, hist := [], wat := [], pend := [], nid := s.next } := by
      refine ⟨(fun p hp => by omega), ⟨(fun j hj => by simp [t0] at hj), (fun j hj => by simp [t0] at hj), (fun j j' _ hj => by simp [t0] at hj), (fun j hj => by simp [t0] at hj), (fun j hj => by simp [t0] at hj), (fun j hj => by simp [t0] at hj), (fun p q hp => by omega)⟩, (fun u v hu => .inr ⟨(fun q hq => by omega), hu⟩), rfl, rfl, (fun p hp => by omega), (fun x hx => by cases hx), (fun p hp => by omega), List.nodup_nil, ⟨Nat.le_refl _, (fun p hp => by omega)⟩, by simp, (fun i j => anc_lt hms hlex i j)⟩
    obtain ⟨t, h1, h2⟩ := run_trace hms ops.toList 0 _ d t0 (by simp) h0 (by simpa using hd)
    refine ⟨t, d, by simpa using h1, h2, rfl, rfl⟩
  · cases h
end
end Go.Am
