/- A region whose order is drawn. -/
import Derived.Test.YtpknkndjflijaaaAxPres
namespace Go.Ax

section
variable {P : Program} {C : Cfg} {A : Nat → Prop} {N : Ent} {call : ACall} {bases : List Nat} {nt : Nat}

/-- What the run in the text's order met. -/
structure DStep (C : Cfg) (call : ACall) (bases : List Nat) (nt : Nat) (ops : List Oper) (o : Oper) (T : TR) (E E1 : Env) (s s1 : ASt) : Prop where
  hE : T.E = E
  hσ : T.σ = s
  hσ' : T.σ' = s1
  set : setDst nt o (T.v.getD (.nil .undef)) E = some E1
  v : match T.v with
    | none => awanted ops E o = some false ∧ s1 = s
    | some v => awanted ops E o = some true ∧ aop C call bases E s o.op = some (.val v s1)

def DEnd (C : Cfg) (call : ACall) (bases : List Nat) (ops rest : List Oper) (k : Nat) (E : Env) (s : ASt) (E' : Env) (σ' : ASt) : AExit → Prop
  | .normal => k = rest.length ∧ E' = E ∧ σ' = s
  | .panic v => ∃ o, rest[k]? = some o ∧ awanted ops E o = some true ∧ aop C call bases E s o.op = some (.panic v σ')
  | _ => False

theorem adraw_spec {ops : List Oper} {x : AExit} {E' : Env} {σ' : ASt} : ∀ (rest : List Oper) (E : Env) (σ : ASt) (tr0 tr : List TR), adraw C call bases nt ops rest E σ tr0 = some (x, E', σ', tr) →
    ∃ (tr1 : List TR) (es : Nat → Env) (ss : Nat → ASt), tr = tr0 ++ tr1 ∧ es 0 = E ∧ ss 0 = σ ∧ tr1.length ≤ rest.length ∧
      (∀ (i : Nat) (T : TR), tr1[i]? = some T → ∃ o, rest[i]? = some o ∧ DStep C call bases nt ops o T (es i) (es (i + 1)) (ss i) (ss (i + 1))) ∧
      DEnd C call bases ops rest tr1.length (es tr1.length) (ss tr1.length) E' σ' x
  | [], E, σ, tr0, tr, h => by
    simp only [adraw, Option.some.injEq, Prod.mk.injEq] at h
    obtain ⟨rfl, rfl, rfl, rfl⟩ := h
    exact ⟨[], fun _ => E, fun _ => σ, by simp, rfl, rfl, Nat.le_refl _, fun i T h => by simp at h, rfl, rfl, rfl⟩
  | o :: rest, E, σ, tr0, tr, h => by
    have more : ∀ (T : TR) (E1 : Env) (σ1 : ASt), DStep C call bases nt ops o T E E1 σ σ1 → adraw C call bases nt ops rest E1 σ1 (tr0 ++ [T]) = some (x, E', σ', tr) →
        ∃ (tr1 : List TR) (es : Nat → Env) (ss : Nat → ASt), tr = tr0 ++ tr1 ∧ es 0 = E ∧ ss 0 = σ ∧ tr1.length ≤ (o :: rest).length ∧
          (∀ (i : Nat) (T : TR), tr1[i]? = some T → ∃ o', (o :: rest)[i]? = some o' ∧ DStep C call bases nt ops o' T (es i) (es (i + 1)) (ss i) (ss (i + 1))) ∧
          DEnd C call bases ops (o :: rest) tr1.length (es tr1.length) (ss tr1.length) E' σ' x := by
      intro T E1 σ1 hst hrun
      obtain ⟨tr1, es, ss, h1, h2, h3, h4, h5, h6⟩ := adraw_spec rest E1 σ1 _ tr hrun
      refine ⟨T :: tr1, fun i => match i with | 0 => E | i + 1 => es i, fun i => match i with | 0 => σ | i + 1 => ss i, by rw [h1]; simp, rfl, rfl, by simp; omega, fun i T' hT' => ?_, ?_⟩
      · cases i with
        | zero =>
          simp at hT'; subst hT'
          refine ⟨o, by simp, ?_⟩
          show DStep C call bases nt ops o T E (es 0) σ (ss 0)
          rw [h2, h3]; exact hst
        | succ i =>
          obtain ⟨o', h7, h8⟩ := h5 i T' (by simpa using hT')
          exact ⟨o', by simpa using h7, h8⟩
      · cases x with
        | normal =>
          obtain ⟨a, b, c⟩ := h6
          exact ⟨by simp [a], b, c⟩
        | panic v =>
          obtain ⟨o', a, b, c⟩ := h6
          exact ⟨o', by simpa using a, b, c⟩
        | exit i => exact h6
        | ret => exact h6
    unfold adraw at h
    split at h
    · cases h
    · rename_i hw
      split at h
      · rename_i E1 hE1
        exact more ⟨E, σ, σ, none⟩ E1 σ ⟨rfl, rfl, rfl, hE1, hw, rfl⟩ h
      · cases h
    · rename_i hw
      split at h
      · cases h
      · rename_i v σ1 hop
        simp only [Option.some.injEq, Prod.mk.injEq] at h
        obtain ⟨rfl, rfl, rfl, rfl⟩ := h
        exact ⟨[], fun _ => E, fun _ => σ, by simp, rfl, rfl, Nat.zero_le _, fun i T h => by simp at h, o, rfl, hw, hop⟩
      · rename_i v σ1 hop
        split at h
        · rename_i E1 hE1
          exact more ⟨E, σ, σ1, some v⟩ E1 σ1 ⟨rfl, rfl, rfl, hE1, hw, hop⟩ h
        · cases h

/-! ### The trace -/

def Acts (C : Cfg) (ops : List Oper) (tr : List TR) (j : Nat) : Prop := ∃ o T, ops[j]? = some o ∧ tr[j]? = some T ∧ cls C o.op = .eff ∧ T.v.isSome = true

structure Trace (C : Cfg) (call : ACall) (bases : List Nat) (nt : Nat) (ops : List Oper) (tr : List TR) (es : Nat → Env) (ss : Nat → ASt) : Prop where
  facts : RegFacts C ops
  len : tr.length ≤ ops.length
  step : ∀ (i : Nat) (T : TR), tr[i]? = some T → ∃ o, ops[i]? = some o ∧ DStep C call bases nt ops o T (es i) (es (i + 1)) (ss i) (ss (i + 1))

variable {ops : List Oper} {tr : List TR} {es : Nat → Env} {ss : Nat → ASt}

theorem Trace.at (H : Trace C call bases nt ops tr es ss) {i : Nat} (hi : i < tr.length) : ∃ o T, ops[i]? = some o ∧ tr[i]? = some T ∧ DStep C call bases nt ops o T (es i) (es (i + 1)) (ss i) (ss (i + 1)) := by
  obtain ⟨o, h1, h2⟩ := H.step i tr[i] (List.getElem?_eq_getElem hi)
  exact ⟨o, tr[i], h1, List.getElem?_eq_getElem hi, h2⟩

theorem Trace.quiet (H : Trace C call bases nt ops tr es ss) {i : Nat} (hi : i < tr.length) (hq : ¬ Acts C ops tr i) : ss (i + 1) = ss i := by
  obtain ⟨o, T, ho, hT, hs⟩ := H.at hi
  have hv := hs.v
  split at hv
  · exact hv.2
  · rename_i v hTv
    have hop := hv.2
    unfold aop at hop
    split at hop
    · rw [Option.map_eq_some_iff] at hop
      obtain ⟨_, _, h⟩ := hop
      injection h with _ h; exact h.symm
    · rw [Option.map_eq_some_iff] at hop
      obtain ⟨_, _, h⟩ := hop
      injection h with _ h; exact h.symm
    · rename_i hc
      exact absurd ⟨o, T, ho, hT, hc, by rw [hTv]; rfl⟩ hq

theorem Trace.still (H : Trace C call bases nt ops tr es ss) {i : Nat} : ∀ (d : Nat), i + d ≤ tr.length → (∀ j, i ≤ j → j < i + d → ¬ Acts C ops tr j) → ss (i + d) = ss i
  | 0, _, _ => rfl
  | d + 1, hd, hq => by
    rw [← Nat.add_assoc, H.quiet (by omega) (hq (i + d) (by omega) (by omega))]
    exact H.still d (by omega) fun j h1 h2 => hq j h1 (by omega)

/-- Temporaries ahead of operation i. -/
theorem Trace.get (H : Trace C call bases nt ops tr es ss) (t : Nat) : ∀ (i : Nat), i ≤ tr.length →
    (∃ (j : Nat) (o : Oper) (T : TR), j < i ∧ ops[j]? = some o ∧ tr[j]? = some T ∧ o.dst = some t ∧ (es i).get t = some (T.v.getD (.nil .undef))) ∨
    ((∀ (j : Nat) (o : Oper), j < i → ops[j]? = some o → o.dst ≠ some t) ∧ (es i).get t = (es 0).get t)
  | 0, _ => .inr ⟨fun j o hj => absurd hj (Nat.not_lt_zero _), rfl⟩
  | i + 1, hi => by
    obtain ⟨o, T, ho, hT, hs⟩ := H.at (i := i) (by omega)
    have hset := hs.set
    unfold setDst at hset
    split at hset
    · rename_i hd
      injection hset with hset
      rw [← hset]
      rcases H.get t i (by omega) with ⟨j, o', T', h1, h2, h3, h4, h5⟩ | ⟨h1, h2⟩
      · exact .inl ⟨j, o', T', by omega, h2, h3, h4, h5⟩
      · refine .inr ⟨fun j o' hj ho' => ?_, h2⟩
        by_cases hji : j = i
        · subst hji; rw [ho] at ho'; injection ho' with ho'; subst ho'; rw [hd]; simp
        · exact h1 j o' (by omega) ho'
    · rename_i d hd
      split at hset
      · injection hset with hset
        rw [← hset, Env.get_cons]
        by_cases hdt : d = t
        · subst hdt
          exact .inl ⟨i, o, T, by omega, ho, hT, hd, by simp⟩
        · rw [if_neg hdt]
          rcases H.get t i (by omega) with ⟨j, o', T', h1, h2, h3, h4, h5⟩ | ⟨h1, h2⟩
          · exact .inl ⟨j, o', T', by omega, h2, h3, h4, h5⟩
          · refine .inr ⟨fun j o' hj ho' => ?_, h2⟩
            by_cases hji : j = i
            · subst hji; rw [ho] at ho'; injection ho' with ho'; subst ho'; rw [hd]; simpa using hdt
            · exact h1 j o' (by omega) ho'
      · cases hset

/-- The state when those of L have been carried out: 'm' of the text's actions. -/
structure DInv (C : Cfg) (A : Nat → Prop) (N : Ent) (ops : List Oper) (tr : List TR) (es : Nat → Env) (ss : Nat → ASt) (L : Array Bool) (m : Nat) (R : Ren) (I : Imm) (a : Act) (w : World) : Prop where
  size : L.size = ops.length
  closed : Closed ops L
  le : m ≤ tr.length
  acts : ∀ j, Acts C ops tr j → (L.getD j false = true ↔ j < m)
  over : ∀ j, L.getD j false = true → j < tr.length
  mid : Mid C A N (ss m) R I a w
  new : ∀ (j : Nat) (o : Oper) (T : TR) (d : Nat), ops[j]? = some o → tr[j]? = some T → L.getD j false = true → o.dst = some d → Rel C I (T.v.getD (.nil .undef)) (ss m) R (a.tmps.getD d undef)
  old : ∀ (t : Nat) (v : AV), (es 0).get t = some v → (∀ (j : Nat) (o : Oper), ops[j]? = some o → L.getD j false = true → o.dst ≠ some t) → Rel C I v (ss m) R (a.tmps.getD t undef)

variable {L : Array Bool} {m : Nat} {R : Ren} {I : Imm} {a : Act} {w : World}

theorem DInv.reads (D : DInv C A N ops tr es ss L m R I a w) (H : Trace C call bases nt ops tr es ss) {i : Nat} {o : Oper} (ho : ops[i]? = some o) (hr : Rdy ops L i) (hl : ¬ L.getD i false = true) (hi : i ≤ tr.length) {t : Nat} {v : AV}
    (ht : t ∈ opTmps o ++ guardTmp ops o) (hv : (es i).get t = some v) : Rel C I v (ss m) R (a.tmps.getD t undef) := by
  rcases H.get t i hi with ⟨j, o', T, h1, h2, h3, h4, h5⟩ | ⟨h1, h2⟩
  · rw [hv] at h5; injection h5 with h5; subst h5
    exact D.new j o' T t h2 h3 (D.closed.pre i j hr ((H.facts.uses j i o' o t h2 ho h4 ht).1 h1)) h4
  · refine D.old t v (by rw [← h2]; exact hv) fun j o' ho' hL hd => ?_
    rcases Nat.lt_trichotomy j i with hj | rfl | hj
    · exact h1 j o' hj ho' hd
    · exact hl hL
    · exact hl (D.closed.pre j i (D.closed.rdy ho' hL) ((H.facts.uses j i o' o t ho' ho hd ht).2 hj))

theorem filterE_get (ts : List Nat) (E : Env) (t : Nat) : (filterE ts E).get t = if t ∈ ts then E.get t else none := by
  induction ts with
  | nil => rfl
  | cons s ts ih =>
    unfold filterE at *
    rw [List.filterMap_cons]
    cases hs : E.get s with
    | none =>
      simp only [Option.map_none]
      rw [ih]
      by_cases h : t = s
      · subst h; simp [hs]
      · simp [h]
    | some v =>
      simp only [Option.map_some]
      rw [Env.get_cons, ih]
      by_cases h : s = t
      · subst h; simp [hs]
      · simp [h, Ne.symm h]

theorem DInv.env (D : DInv C A N ops tr es ss L m R I a w) (H : Trace C call bases nt ops tr es ss) {i : Nat} {o : Oper} (ho : ops[i]? = some o) (hr : Rdy ops L i) (hl : ¬ L.getD i false = true) (hi : i ≤ tr.length) :
    EnvRel C I (filterE (opTmps o ++ guardTmp ops o) (es i)) (ss m) R a := fun t v hv => by
  rw [filterE_get] at hv
  split at hv
  · rename_i ht; exact D.reads H ho hr hl hi ht hv
  · cases hv

theorem filter_op (o : Oper) (E : Env) : ∀ x ∈ o.op.operands, eval (filterE (opTmps o ++ guardTmp ops o) E) x = eval E x := opTmps_eval fun t ht => by
  rw [filterE_get, if_pos (List.mem_append_left _ ht)]

theorem filter_guard (o : Oper) (E : Env) : awanted ops (filterE (opTmps o ++ guardTmp ops o) E) o = awanted ops E o := awanted_congr fun t ht => by
  rw [filterE_get, if_pos (List.mem_append_right _ ht)]

end
end Go.Ax
