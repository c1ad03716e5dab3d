/- A region whose order is drawn: the rule. -/
import Derived.Test.YtpknkndjflijaaaAxDraw2
namespace Go.Ax

section
variable {P : Program} {C : Cfg} {A : Nat → Prop} {N : Ent} {call : ACall}
variable {arr : Array Oper} {tr : List TR} {es : Nat → Env} {ss : Nat → ASt} {Q : Exit → Act → World → Prop} {x : AExit} {E' : Env} {σ' : ASt}

def left (L : Array Bool) : Nat := L.toList.countP (fun b => !b)

theorem countP_set : ∀ (l : List Bool) (i : Nat), l[i]? = some false → (l.set i true).countP (fun b => !b) + 1 = l.countP (fun b => !b)
  | [], i, h => by simp at h
  | b :: l, 0, h => by
    simp at h; subst h
    simp
  | b :: l, i + 1, h => by
    have := countP_set l i (by simpa using h)
    simp only [List.set_cons_succ, List.countP_cons]
    omega

theorem left_set {L : Array Bool} {i : Nat} (h : i < L.size) (hl : ¬ L.getD i false = true) : left (L.setIfInBounds i true) + 1 = left L := by
  unfold left
  rw [Array.toList_setIfInBounds]
  refine countP_set _ _ ?_
  have : L[i] = false := by simpa [h] using hl
  simp [h, this]

theorem left_zero {L : Array Bool} (h : left L = 0) {i : Nat} (hi : i < L.size) : L.getD i false = true := by
  unfold left at h
  rw [List.countP_eq_zero] at h
  have := h L[i] (by simp)
  simpa [hi] using this

theorem mem_ready_iff {L : Array Bool} {j : Nat} (hs : L.size = arr.size) : j ∈ Region.ready .any arr L ↔ ¬ L.getD j false = true ∧ Rdy arr.toList L j := by
  rw [mem_ready]
  constructor
  · rintro ⟨h1, o, h2, h3⟩
    have hlt : j < L.size := by rw [hs]; exact (Array.getElem?_eq_some_iff.1 h2).1
    refine ⟨?_, o, by simpa using h2, fun e he hb => h3 e (Array.mem_toList_iff.1 he) hb⟩
    simp [hlt] at h1 ⊢
    exact h1
  · rintro ⟨h1, o, h2, h3⟩
    have h2' : arr[j]? = some o := by simpa using h2
    have hlt : j < L.size := by rw [hs]; exact (Array.getElem?_eq_some_iff.1 h2').1
    refine ⟨?_, o, h2', fun e he hb => h3 e (Array.mem_toList_iff.2 he) hb⟩
    simp [hlt] at h1 ⊢
    exact h1

theorem all_listed {L : Array Bool} (hs : L.size = arr.size) (hf : RegFacts C arr.toList) (hr : Region.ready .any arr L = []) : ∀ j, j < arr.size → L.getD j false = true := by
  intro j
  induction j using Nat.strongRecOn with
  | _ j ih =>
    intro hj
    by_cases hl : L.getD j false = true
    · exact hl
    · exfalso
      have ho : arr.toList[j]? = some arr[j] := by simp [hj]
      have : j ∈ Region.ready .any arr L := (mem_ready_iff hs).2 ⟨hl, arr[j], ho, fun e he hb => by
        have := hf.edge j arr[j] ho e he hb
        exact ih e.on this (by omega)⟩
      rw [hr] at this; cases this

theorem draw_end {L : Array Bool} {m : Nat} {R : Ren} {I : Imm} {a : Act} {w : World} (H : Trace C call N.bases N.nt arr.toList tr es ss) (hx : DEnd C call N.bases arr.toList arr.toList tr.length (es tr.length) (ss tr.length) E' σ' x) (hQ : Post C A N Q E' σ' x)
    (D : DInv C A N arr.toList tr es ss L m R I a w) (hall : ∀ j, j < arr.size → L.getD j false = true) : Q .normal a w := by
  cases x with
  | normal =>
    obtain ⟨h1, rfl, rfl⟩ := hx
    have hm : ss tr.length = ss m := H.same D.le (Nat.le_refl _) fun k h2 h3 hk => by
      have := (D.acts k hk).1 (hall k (by rw [← Array.length_toList, ← h1]; exact h3))
      omega
    refine hQ R I a w { hm ▸ D.mid with env := fun t v hv => ?_ }
    rw [hm]
    rcases H.get t tr.length (Nat.le_refl _) with ⟨j, o, T, h2, h3, h4, h5, h6⟩ | ⟨h2, h3⟩
    · rw [hv] at h6; injection h6 with h6; subst h6
      exact D.new j o T t h3 h4 (hall j (by rw [← Array.length_toList, ← h1]; exact h2)) h5
    · exact D.old t v (by rw [← h3]; exact hv) fun j o ho hL => h2 j o (D.over j hL) ho
  | panic v =>
    obtain ⟨o, ho, _⟩ := hx
    have hlt : tr.length < arr.size := by
      have := (List.getElem?_eq_some_iff.1 ho).1
      rwa [Array.length_toList] at this
    have := D.over _ (hall _ hlt)
    omega
  | exit i => exact hx.elim
  | ret => exact hx.elim

theorem draw_any (hty : ∀ t T, C.ty t = some T → TyOK P t T) (hcall : CallOK P C call) (hA : ∀ b, N.w.heap.size ≤ b → A b) (hd : drawOK C arr.toList tr = true) (H : Trace C call N.bases N.nt arr.toList tr es ss)
    (hx : DEnd C call N.bases arr.toList arr.toList tr.length (es tr.length) (ss tr.length) E' σ' x) (hQ : Post C A N Q E' σ' x) :
    ∀ (fuel : Nat) (L : Array Bool) (m : Nat) (R : Ren) (I : Imm) (a : Act) (w : World), left L ≤ fuel → DInv C A N arr.toList tr es ss L m R I a w → wpAny P .any arr Q fuel L a w
  | 0, L, m, R, I, a, w, hf, D => by
    have hs : L.size = arr.size := by rw [D.size, Array.length_toList]
    have hall : ∀ j, j < arr.size → L.getD j false = true := fun j hj => left_zero (by omega) (by omega)
    refine ⟨List.eq_nil_iff_forall_not_mem.2 fun j hj => ?_, draw_end H hx hQ D hall⟩
    obtain ⟨h1, o, h2, _⟩ := (mem_ready_iff hs).1 hj
    have hlt := (List.getElem?_eq_some_iff.1 h2).1
    rw [Array.length_toList] at hlt
    exact h1 (hall j hlt)
  | fuel + 1, L, m, R, I, a, w, hf, D => by
    have hs : L.size = arr.size := by rw [D.size, Array.length_toList]
    refine ⟨fun hr => draw_end H hx hQ D (all_listed hs H.facts hr), fun i hi => ?_⟩
    obtain ⟨hl, hr⟩ := (mem_ready_iff hs).1 hi
    obtain ⟨o, ho, hedge⟩ := hr
    have hr : Rdy arr.toList L i := ⟨o, ho, hedge⟩
    have hilt : i < L.size := by rw [D.size]; exact (List.getElem?_eq_some_iff.1 ho).1
    have hfuel : left (L.setIfInBounds i true) ≤ fuel := by
      have := left_set hilt hl
      omega
    have ih := fun m R I a w => draw_any hty hcall hA hd H hx hQ fuel (L.setIfInBounds i true) m R I a w hfuel
    have hoa : arr[i]? = some o := by simpa using ho
    unfold wpOp
    simp only [hoa]
    rcases Nat.lt_trichotomy i tr.length with hit | hit | hit
    · obtain ⟨o', T, ho', hT, hst⟩ := H.at hit
      rw [ho] at ho'; injection ho' with ho'; subst ho'
      have henv := D.env H ho hr hl (by omega)
      have hset := hst.set
      have hv := hst.v
      split at hv
      · rename_i hTv
        have hw : Region.wanted o (yielded arr a.tmps) = false := awanted_spec henv ((filter_guard o _).trans hv.1)
        simp only [hw, Bool.false_eq_true, if_false]
        refine ih m R I _ w (D.put H ho hT hr hl hset rfl (Stp.refl D.mid.rel D.mid.barr) D.le (fun j hj => ?_) (by rw [hTv]; rfl))
        rw [← D.acts j hj]
        constructor
        · rintro (rfl | h)
          · obtain ⟨o', T', _, hT', _, hv'⟩ := hj
            rw [hT] at hT'; injection hT' with hT'; subst hT'
            rw [hTv] at hv'; cases hv'
          · exact h
        · exact .inr
      · rename_i v hTv
        have hw : Region.wanted o (yielded arr a.tmps) = true := awanted_spec henv ((filter_guard o _).trans hv.1)
        simp only [hw, if_true]
        refine .inl ?_
        have hop := hv.2
        rw [← aop_congr (filter_op (ops := arr.toList) o (es i))] at hop
        have quiet : cls C o.op ≠ .eff → (aop C call N.bases (filterE (opTmps o ++ guardTmp arr.toList o) (es i)) (ss m) o.op = some (.val v (ss m))) → o.wp P a w (wpAny P .any arr Q fuel (L.setIfInBounds i true)) Q := fun hc hop => by
          refine aop_post hty hcall D.mid.rel D.mid.barr (D.mid.hA hA) henv hop _ Q fun R' I' w' u hs hu => ?_
          refine ih m R' I' _ w' (D.put H ho hT hr hl hset rfl hs D.le (fun j hj => ?_) (by rw [hTv]; exact hu))
          rw [← D.acts j hj]
          constructor
          · rintro (rfl | h)
            · obtain ⟨o', T', ho', _, hc', _⟩ := hj
              rw [ho] at ho'; injection ho' with ho'; subst ho'
              exact absurd hc' hc
            · exact h
          · exact .inr
        cases hc : cls C o.op with
        | pure =>
          refine quiet (by rw [hc]; simp) ?_
          unfold aop at hop ⊢
          rw [hc] at hop ⊢
          simp only [Option.map_eq_some_iff] at hop ⊢
          obtain ⟨v', h1, h2⟩ := hop
          injection h2 with h2 h3
          exact ⟨v', h1, by rw [h2]⟩
        | read =>
          refine quiet (by rw [hc]; simp) ?_
          unfold aop at hop ⊢
          rw [hc] at hop ⊢
          simp only [Option.map_eq_some_iff] at hop ⊢
          obtain ⟨v', h1, h2⟩ := hop
          injection h2 with h2 h3
          subst h2
          rw [aread_congr (filter_op (ops := arr.toList) o (es i))] at h1 ⊢
          exact ⟨v', D.read_at H hd ho hT hr hl hc hTv hst.hE h1, rfl⟩
        | eff =>
          obtain ⟨hsm, hk⟩ := D.eff_at H ho hr hl (by omega) hc
          rw [← hsm] at hop
          refine aop_post hty hcall D.mid.rel D.mid.barr (D.mid.hA hA) henv hop _ Q fun R' I' w' u hs hu => ?_
          refine ih (i + 1) R' I' _ w' (D.put H ho hT hr hl hset rfl hs (by omega) (fun j hj => ?_) (by rw [hTv]; exact hu))
          by_cases hji : j = i
          · subst hji; simp
          · rw [hk j hj hji]
            constructor
            · rintro (h | h)
              · exact absurd h hji
              · omega
            · intro h; exact .inr (by omega)
    · subst hit
      cases x with
      | normal =>
        have h1 : tr.length = arr.toList.length := hx.1
        have h2 : arr.toList.length = arr.size := Array.length_toList
        omega
      | panic v =>
        obtain ⟨o', ho', hw, hop⟩ := hx
        rw [ho] at ho'; injection ho' with ho'; subst ho'
        have henv := D.env H ho hr hl (Nat.le_refl _)
        have hw' : Region.wanted o (yielded arr a.tmps) = true := awanted_spec henv ((filter_guard o _).trans hw)
        simp only [hw', if_true]
        refine .inl ?_
        have hc : cls C o.op = .eff := by
          unfold aop at hop
          split at hop
          · rw [Option.map_eq_some_iff] at hop; obtain ⟨_, _, h⟩ := hop; cases h
          · rw [Option.map_eq_some_iff] at hop; obtain ⟨_, _, h⟩ := hop; cases h
          · assumption
        obtain ⟨hsm, _⟩ := D.eff_at H ho hr hl (Nat.le_refl _) hc
        rw [← aop_congr (filter_op (ops := arr.toList) o (es tr.length)), ← hsm] at hop
        exact aop_post hty hcall D.mid.rel D.mid.barr (D.mid.hA hA) henv hop _ Q fun R' I' w' u hs hu => hQ R' I' a w' u (D.mid.step hs) hu
      | exit i => exact hx.elim
      | ret => exact hx.elim
    · exfalso
      cases x with
      | normal =>
        have h1 : tr.length = arr.toList.length := hx.1
        have h2 : arr.toList.length = arr.size := Array.length_toList
        omega
      | panic v =>
        unfold drawOK at hd
        simp only [Bool.and_eq_true, List.all_eq_true] at hd
        have hd2 := hd.2 (o, i) (by rw [List.mem_zipIdx_iff_getElem?]; exact ho)
        have hng : ¬ i ≤ tr.length := by omega
        simp only [hng, decide_false, Bool.false_or] at hd2
        have := D.closed.pre i tr.length hr hd2
        have := D.over _ this
        omega
      | exit i => exact hx.elim
      | ret => exact hx.elim

end
end Go.Ax
