/- A region whose order is drawn: each order does the same. -/
import Derived.Test.YtpknkndjflijaaaAxDraw
namespace Go.Ax

section
variable {P : Program} {C : Cfg} {A : Nat → Prop} {N : Ent} {call : ACall} {bases : List Nat} {nt : Nat}
variable {ops : List Oper} {tr : List TR} {es : Nat → Env} {ss : Nat → ASt} {L : Array Bool} {m : Nat} {R : Ren} {I : Imm} {a : Act} {w : World}

theorem getD_true_lt {L : Array Bool} {i : Nat} (h : L.getD i false = true) : i < L.size := by
  rcases Nat.lt_or_ge i L.size with h' | h'
  · exact h'
  · rw [Array.getD_eq_getD_getElem?, Array.getElem?_eq_none h'] at h; cases h

theorem getD_set {L : Array Bool} {i j : Nat} (hi : i < L.size) : (L.setIfInBounds i true).getD j false = if i = j then true else L.getD j false := by
  by_cases h : i = j
  · subst h; simp [hi]
  · simp [h, Array.getElem?_setIfInBounds_ne h]

theorem closed_set {ops : List Oper} {L : Array Bool} {i : Nat} (hi : i < L.size) (hc : Closed ops L) (hr : Rdy ops L i) : Closed ops (L.setIfInBounds i true) := fun j o ho hL e he hb => by
  rw [getD_set hi] at hL ⊢
  split
  · rfl
  · split at hL
    · rename_i hij
      subst hij
      obtain ⟨o', ho', hall⟩ := hr
      rw [ho] at ho'; injection ho' with ho'; subst ho'
      exact hall e he hb
    · exact hc j o ho hL e he hb

/-- Operation i has been carried out (or left out). -/
theorem DInv.put (D : DInv C A N ops tr es ss L m R I a w) (H : Trace C call bases nt ops tr es ss) {i : Nat} {o : Oper} {T : TR} {E1 : Env} (ho : ops[i]? = some o) (hT : tr[i]? = some T) (hr : Rdy ops L i) (hl : ¬ L.getD i false = true)
    (hset : setDst nt o (T.v.getD (.nil .undef)) (es i) = some E1) (hnt : nt = N.nt)
    {m' : Nat} {R' : Ren} {I' : Imm} {w' : World} {u : Value} (hs : Stp C A N.bases (ss m) R I w (ss m') R' I' w') (hle : m' ≤ tr.length) (hacts : ∀ j, Acts C ops tr j → ((j = i ∨ L.getD j false = true) ↔ j < m'))
    (hu : Rel C I' (T.v.getD (.nil .undef)) (ss m') R' u) : DInv C A N ops tr es ss (L.setIfInBounds i true) m' R' I' (a.put o.dst u) w' := by
  have hi : i < L.size := by rw [D.size]; exact (List.getElem?_eq_some_iff.1 ho).1
  have hit : i < tr.length := (List.getElem?_eq_some_iff.1 hT).1
  refine ⟨by simp [D.size], closed_set hi D.closed hr, hle, fun j hj => ?_, fun j hj => ?_, (D.mid.step hs).put o.dst u, fun j o' T' d ho' hT' hL hd => ?_, fun t v hv hno => ?_⟩
  · rw [getD_set hi, ← hacts j hj]
    by_cases h : i = j
    · subst h; simp
    · simp [h, Ne.symm h]
  · rw [getD_set hi] at hj
    split at hj
    · omega
    · exact D.over j hj
  · rw [getD_set hi] at hL
    by_cases h : i = j
    · subst h
      rw [ho] at ho'; injection ho' with ho'; subst ho'
      rw [hT] at hT'; injection hT' with hT'; subst hT'
      unfold setDst at hset
      rw [hd] at hset
      simp only at hset
      split at hset
      · rename_i hlt
        rw [hd, put_get (by rw [D.mid.nt, ← hnt]; exact hlt), if_pos rfl]
        exact hu
      · cases hset
    · rw [if_neg h] at hL
      have hold := (D.new j o' T' d ho' hT' hL hd).ext hs.ext
      cases hdd : o.dst with
      | none => exact hold
      | some d' =>
        have hne : d' ≠ d := fun he => H.facts.dst i j o o' d ho ho' h (by rw [hdd, he]) hd
        have hlt : d' < a.tmps.size := by
          unfold setDst at hset
          rw [hdd] at hset
          simp only at hset
          split at hset
          · rename_i hlt; rw [D.mid.nt, ← hnt]; exact hlt
          · cases hset
        rw [put_get hlt, if_neg hne]; exact hold
  · have hno' : ∀ (j : Nat) (o : Oper), ops[j]? = some o → L.getD j false = true → o.dst ≠ some t := fun j o' ho' hL => hno j o' ho' (by rw [getD_set hi]; split <;> simp_all)
    have hold := (D.old t v hv hno').ext hs.ext
    have hni := hno i o ho (by rw [getD_set hi, if_pos rfl])
    cases hdd : o.dst with
    | none => exact hold
    | some d' =>
      have hne : d' ≠ t := fun he => hni (by rw [hdd, he])
      have hlt : d' < a.tmps.size := by
        unfold setDst at hset
        rw [hdd] at hset
        simp only at hset
        split at hset
        · rename_i hlt; rw [D.mid.nt, ← hnt]; exact hlt
        · cases hset
      rw [put_get hlt, if_neg hne]; exact hold

/-- The store has not turned between two places of the text where nothing acts. -/
theorem Trace.same (H : Trace C call bases nt ops tr es ss) {i j : Nat} (hij : i ≤ j) (hj : j ≤ tr.length) (hq : ∀ k, i ≤ k → k < j → ¬ Acts C ops tr k) : ss j = ss i := by
  have := H.still (i := i) (j - i) (by omega) fun k h1 h2 => hq k h1 (by omega)
  rwa [show i + (j - i) = j by omega] at this

theorem exists_first {p : Nat → Prop} (i : Nat) : ∀ (d : Nat), (∃ k, i ≤ k ∧ k < i + d ∧ p k) → ∃ k, i ≤ k ∧ k < i + d ∧ p k ∧ ∀ k', i ≤ k' → k' < k → ¬ p k'
  | 0, h => by obtain ⟨k, h1, h2, _⟩ := h; omega
  | d + 1, h => by
    by_cases h' : ∃ k, i ≤ k ∧ k < i + d ∧ p k
    · obtain ⟨k, h1, h2, h3, h4⟩ := exists_first i d h'
      exact ⟨k, h1, by omega, h3, h4⟩
    · obtain ⟨k, h1, h2, h3⟩ := h
      refine ⟨k, h1, h2, h3, fun k' h4 h5 hp => h' ⟨k', h4, by omega, hp⟩⟩

theorem exists_last {p : Nat → Prop} (i : Nat) : ∀ (d : Nat), (∃ k, i ≤ k ∧ k < i + d ∧ p k) → ∃ k, i ≤ k ∧ k < i + d ∧ p k ∧ ∀ k', k < k' → k' < i + d → ¬ p k'
  | 0, h => by obtain ⟨k, h1, h2, _⟩ := h; omega
  | d + 1, h => by
    by_cases hp : p (i + d)
    · exact ⟨i + d, by omega, by omega, hp, fun k' h1 h2 => by omega⟩
    · obtain ⟨k, h1, h2, h3⟩ := h
      have hk : k < i + d := by
        rcases Nat.lt_or_ge k (i + d) with h | h
        · exact h
        · have : k = i + d := by omega
          subst this; exact absurd h3 hp
      obtain ⟨k, h1, h2, h3, h4⟩ := exists_last i d ⟨k, h1, hk, h3⟩
      refine ⟨k, h1, by omega, h3, fun k' h5 h6 hp' => ?_⟩
      by_cases hkd : k' = i + d
      · subst hkd; exact hp hp'
      · exact h4 k' h5 (by omega) hp'

/-- What acts (or panics) comes at its place. -/
theorem DInv.eff_at (D : DInv C A N ops tr es ss L m R I a w) (H : Trace C call bases nt ops tr es ss) {i : Nat} {o : Oper} (ho : ops[i]? = some o) (hr : Rdy ops L i) (hl : ¬ L.getD i false = true) (hi : i ≤ tr.length) (hc : cls C o.op = .eff) :
    ss m = ss i ∧ ∀ j, Acts C ops tr j → j ≠ i → (L.getD j false = true ↔ j < i) := by
  have key : ∀ j, Acts C ops tr j → j ≠ i → (L.getD j false = true ↔ j < i) := fun j hj hne => by
    obtain ⟨o', T', ho', hT', hc', _⟩ := hj
    constructor
    · intro hL
      rcases Nat.lt_trichotomy j i with h | h | h
      · exact h
      · exact absurd h hne
      · exact absurd (D.closed.pre j i (D.closed.rdy ho' hL) (H.facts.effs i j o o' ho ho' h hc hc')) hl
    · intro hlt
      exact D.closed.pre i j hr (H.facts.effs j i o' o ho' ho hlt hc' hc)
  refine ⟨?_, key⟩
  rcases Nat.le_total m i with h | h
  · refine (H.same h hi fun k h1 h2 hk => ?_).symm
    have := (key k hk (by omega)).2 h2
    have := (D.acts k hk).1 this
    omega
  · refine H.same h D.le fun k h1 h2 hk => ?_
    have hL := (D.acts k hk).2 h2
    by_cases hki : k = i
    · subst hki; exact hl hL
    · have := (key k hk hki).1 hL
      omega

/-- What reads finds the same. -/
theorem DInv.read_at (D : DInv C A N ops tr es ss L m R I a w) (H : Trace C call bases nt ops tr es ss) (hd : drawOK C ops tr = true) {i : Nat} {o : Oper} {T : TR} (ho : ops[i]? = some o) (hT : tr[i]? = some T) (hr : Rdy ops L i) (hl : ¬ L.getD i false = true)
    (hc : cls C o.op = .read) {v : AV} (hv : T.v = some v) (hE : T.E = es i) (h0 : aread C (ss i) (es i) o.op = some v) : aread C (ss m) (es i) o.op = some v := by
  have hit : i < tr.length := (List.getElem?_eq_some_iff.1 hT).1
  have key : ∀ j, Acts C ops tr j → ¬ Pre ops i j → ¬ Pre ops j i → aread C (ss j) (es i) o.op = some v ∧ aread C (ss (j + 1)) (es i) o.op = some v := fun j hj h1 h2 => by
    obtain ⟨o', T', ho', hT', hc', hv'⟩ := hj
    obtain ⟨o2, ho2, hst⟩ := H.step j T' hT'
    unfold drawOK at hd
    simp only [Bool.and_eq_true, List.all_eq_true] at hd
    have hd1 := hd.1 (o, i) (by rw [List.mem_zipIdx_iff_getElem?]; exact ho)
    simp only [hT, hc, hv, List.all_eq_true] at hd1
    have hd2 := hd1 (o', j) (by rw [List.mem_zipIdx_iff_getElem?]; exact ho')
    simp only [hT'] at hd2
    have b1 : ((pres [] ops).getD i 0).testBit j = false := by simpa [Pre] using h1
    have b2 : ((pres [] ops).getD j 0).testBit i = false := by simpa [Pre] using h2
    rw [b1, b2, hc', hv'] at hd2
    simp only [beq_self_eq_true, Bool.and_self, Bool.not_false, if_true, hst.hσ, hst.hσ', hE] at hd2
    obtain ⟨q1, q2⟩ := (Bool.and_eq_true _ _).mp hd2
    refine ⟨?_, ?_⟩
    · split at q1
      · rename_i x hx; rw [hx, AV.beq_eq q1]
      · cases q1
    · split at q2
      · rename_i x hx; rw [hx, AV.beq_eq q2]
      · cases q2
  rcases Nat.le_total m i with h | h
  · by_cases hex : ∃ k, m ≤ k ∧ k < m + (i - m) ∧ Acts C ops tr k
    · obtain ⟨k, h1, h2, h3, h4⟩ := exists_first m (i - m) hex
      have hs : ss k = ss m := H.same h1 (by omega) fun k' h5 h6 => h4 k' h5 h6
      rw [← hs]
      refine (key k h3 (fun hp => ?_) (fun hp => ?_)).1
      · have := (D.acts k h3).1 (D.closed.pre i k hr hp); omega
      · have := H.facts.lt k i hp; omega
    · rw [H.same h (by omega) fun k h1 h2 hk => hex ⟨k, h1, by omega, hk⟩] at h0
      exact h0
  · by_cases hex : ∃ k, i ≤ k ∧ k < i + (m - i) ∧ Acts C ops tr k
    · obtain ⟨k, h1, h2, h3, h4⟩ := exists_last i (m - i) hex
      have hk := h3
      obtain ⟨o', T', ho', hT', hc', hv'⟩ := hk
      have hL := (D.acts k h3).2 (by omega)
      have hs : ss m = ss (k + 1) := H.same (by omega) D.le fun k' h5 h6 => h4 k' (by omega) (by omega)
      rw [hs]
      refine (key k h3 (fun hp => ?_) (fun hp => ?_)).2
      · have := H.facts.lt i k hp; omega
      · exact hl (D.closed.pre k i (D.closed.rdy ho' hL) hp)
    · rw [H.same h D.le fun k h1 h2 hk => hex ⟨k, h1, by omega, hk⟩]
      exact h0

end
end Go.Ax
