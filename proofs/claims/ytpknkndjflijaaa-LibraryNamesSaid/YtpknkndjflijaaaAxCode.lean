/- Regions and code. -/
import Derived.Test.YtpknkndjflijaaaAxDraw3
namespace Go.Ax

section
variable {P : Program} {C : Cfg} {A : Nat → Prop} {N : Ent} {σ : ASt} {R : Ren} {I : Imm} {E : Env} {a : Act} {w : World}

structure FrOK (N : Ent) (F : Fr) : Prop where
  cb : F.cb = N.σ.length
  fb : F.fb ≤ F.cb
  base : F.fb = 0 ∨ F.fb ∈ N.bases
  low : ∀ b ∈ N.bases, b ≤ F.cb
  bases : F.bases = N.bases
  nt : F.nt = N.nt

theorem popNone_spec (u : Nat) : ∀ (l : List ARow) (n k : Nat), (k < (popNone (markFrom u n l)).length → k < l.length ∧ ((popNone (markFrom u n l))[k]? = l[k]? ∨ (popNone (markFrom u n l))[k]? = some .dead)) ∧
    (k < l.length → u.testBit (n + k) = true → k < (popNone (markFrom u n l)).length)
  | [], n, k => by simp [markFrom, popNone]
  | r :: l, n, k => by
    obtain ⟨ih1, ih2⟩ := popNone_spec u l (n + 1) (k - 1)
    have hform : popNone (markFrom u n (r :: l)) = [] ∧ u.testBit n = false ∧ popNone (markFrom u (n + 1) l) = [] ∨
        popNone (markFrom u n (r :: l)) = (bif u.testBit n then r else .dead) :: popNone (markFrom u (n + 1) l) := by
      show (match (bif u.testBit n then some r else none), popNone (markFrom u (n + 1) l) with
        | none, [] => []
        | o, l' => o.getD .dead :: l') = [] ∧ _ ∨ (match (bif u.testBit n then some r else none), popNone (markFrom u (n + 1) l) with
        | none, [] => []
        | o, l' => o.getD .dead :: l') = _
      cases hb : u.testBit n with
      | true => right; cases popNone (markFrom u (n + 1) l) <;> rfl
      | false =>
        cases hp : popNone (markFrom u (n + 1) l) with
        | nil => left; exact ⟨rfl, rfl, rfl⟩
        | cons x xs => right; rfl
    rcases hform with ⟨h1, h2, h3⟩ | h1
    · rw [h1]
      refine ⟨fun h => absurd h (Nat.not_lt_zero _), fun h ht => ?_⟩
      cases k with
      | zero => rw [Nat.add_zero] at ht; rw [h2] at ht; cases ht
      | succ k =>
        have := ih2 (by simpa using h) (by rw [show n + 1 + (k + 1 - 1) = n + (k + 1) by omega]; exact ht)
        rw [h3] at this; exact absurd this (Nat.not_lt_zero _)
    · rw [h1]
      cases k with
      | zero =>
        refine ⟨fun _ => ⟨by simp, ?_⟩, fun _ _ => by simp⟩
        cases u.testBit n
        · right; simp
        · left; simp
      | succ k =>
        refine ⟨fun h => ?_, fun h ht => ?_⟩
        · obtain ⟨q1, q2⟩ := ih1 (by simpa using h)
          exact ⟨by simpa using q1, by simpa using q2⟩
        · have := ih2 (by simpa using h) (by rw [show n + 1 + (k + 1 - 1) = n + (k + 1) by omega]; exact ht)
          simpa using this

theorem sweep_low {fb cb : Nat} (hcb : cb ≤ σ.length) {n : Nat} (hn : n < cb) : (sweep fb cb E σ)[n]? = σ[n]? := by
  unfold sweep
  rw [List.getElem?_append_left (by simp; omega), List.getElem?_take, if_pos hn]

theorem sweep_len {fb cb : Nat} (hcb : cb ≤ σ.length) : cb ≤ (sweep fb cb E σ).length := by
  unfold sweep; simp; omega

theorem sweep_cut {fb cb : Nat} (hcb : cb ≤ σ.length) : Cut σ (sweep fb cb E σ) (fun n => n < cb ∨ (maskE E ||| maskR (σ.drop fb)).testBit n = true) := by
  have ht : (σ.take cb).length = cb := by simp; omega
  refine ⟨fun n hok hn => ?_, fun n hn => ?_⟩
  · by_cases hlt : n < cb
    · have := sweep_len (fb := fb) (E := E) hcb; omega
    · have hb := hok.resolve_left hlt
      have := (popNone_spec (maskE E ||| maskR (σ.drop fb)) (σ.drop cb) cb (n - cb)).2 (by simp; omega) (by rw [show cb + (n - cb) = n by omega]; exact hb)
      unfold sweep
      rw [List.length_append, ht]; omega
  · by_cases hlt : n < cb
    · exact .inl (sweep_low hcb hlt)
    · unfold sweep at hn ⊢
      rw [List.length_append, ht] at hn
      have := ((popNone_spec (maskE E ||| maskR (σ.drop fb)) (σ.drop cb) cb (n - cb)).1 (by omega)).2
      rw [List.getElem?_append_right (by omega), ht]
      rw [List.getElem?_drop, show cb + (n - cb) = n by omega] at this
      exact this

theorem testBit_or_left {a b n : Nat} (h : a.testBit n = true) : (a ||| b).testBit n = true := by rw [Nat.testBit_or, h, Bool.true_or]
theorem testBit_or_right {a b n : Nat} (h : b.testBit n = true) : (a ||| b).testBit n = true := by rw [Nat.testBit_or, h, Bool.or_true]

theorem maskE_get : ∀ {E : Env} {t : Nat} {v : AV}, E.get t = some v → ∀ n, v.mask.testBit n = true → (maskE E).testBit n = true
  | [], t, v, h, n, hn => by simp [Env.get] at h
  | (d, x) :: E, t, v, h, n, hn => by
    rw [Env.get_cons] at h
    split at h
    · injection h with h; subst h; exact testBit_or_left hn
    · exact testBit_or_right (maskE_get h n hn)

theorem maskR_get : ∀ {l : List ARow} {k : Nat} {r : ARow}, l[k]? = some r → ∀ n, r.mask.testBit n = true → (maskR l).testBit n = true
  | [], k, r, h, n, hn => by simp at h
  | x :: l, 0, r, h, n, hn => by simp at h; subst h; exact testBit_or_left hn
  | x :: l, k + 1, r, h, n, hn => testBit_or_right (maskR_get (by simpa using h) n hn)

theorem maskP_fst : ∀ {es : List (AV × AV)} (n : Nat), (maskL (es.map (·.1))).testBit n = true → (maskP es).testBit n = true
  | [], n, h => by simp [maskL] at h
  | e :: es, n, h => by
    simp only [List.map_cons, maskL, Nat.testBit_or, Bool.or_eq_true] at h
    simp only [maskP, Nat.testBit_or, Bool.or_eq_true]
    rcases h with h | h
    · exact .inl (.inl h)
    · exact .inr (maskP_fst n h)

theorem maskP_snd : ∀ {es : List (AV × AV)} (n : Nat), (maskL (es.map (·.2))).testBit n = true → (maskP es).testBit n = true
  | [], n, h => by simp [maskL] at h
  | e :: es, n, h => by
    simp only [List.map_cons, maskL, Nat.testBit_or, Bool.or_eq_true] at h
    simp only [maskP, Nat.testBit_or, Bool.or_eq_true]
    rcases h with h | h
    · exact .inl (.inr h)
    · exact .inr (maskP_snd n h)

theorem rowUnder_mask {m : Nat} {r : ARow} (h : rowUnder m r = true) : ∀ n, r.mask.testBit n = true → n < m := fun n hn => by
  cases r with
  | cells e cs => exact maskL_under h n hn
  | map es =>
    simp only [rowUnder, Bool.and_eq_true] at h
    have key : ∀ {es : List (AV × AV)}, underL m (es.map (·.1)) = true → underL m (es.map (·.2)) = true → (maskP es).testBit n = true → n < m := by
      intro es
      induction es with
      | nil => intro _ _ h; simp [maskP] at h
      | cons e es ih =>
        intro h1 h2 h3
        simp only [List.map_cons, underL, Bool.and_eq_true] at h1 h2
        simp only [maskP, Nat.testBit_or, Bool.or_eq_true] at h3
        rcases h3 with (h3 | h3) | h3
        · exact AV.mask_under h1.1 n h3
        · exact AV.mask_under h2.1 n h3
        · exact ih h1.2 h2.2 h3
    exact key h.1 h.2 hn
  | iter s p => simp [ARow.mask] at hn
  | dead => simp [ARow.mask] at hn

/-- A store of which rows were given up. -/
theorem WRel.cut (h : WRel C A σ R I w) {σ' : ASt} {ok : Nat → Prop} (hc : Cut σ σ' ok) (hrow : ∀ n r, n < σ'.length → σ[n]? = some r → ∀ k, r.mask.testBit k = true → ok k) : WRel C A σ' R I w := by
  have back : ∀ n r, σ'[n]? = some r → r ≠ .dead → σ[n]? = some r ∧ n < σ'.length := fun n r hr hd => by
    have hlt := (List.getElem?_eq_some_iff.1 hr).1
    rcases hc.same n hlt with h1 | h1
    · exact ⟨h1 ▸ hr, hlt⟩
    · rw [h1] at hr; injection hr with hr; exact absurd hr.symm hd
  have lv : ∀ n, live σ' n → live σ n := fun n ⟨r, hr, hd⟩ => ⟨r, (back n r hr hd).1, hd⟩
  refine ⟨fun i j hi hj => h.inj i j (lv i hi) (lv j hj), fun n hn => h.al n (lv n hn), fun n e cs hn => ?_, fun n es hn => ?_, fun n s p hn => ?_, h.imm, fun b o v n hb hn => h.sep b o v n hb (lv n hn)⟩
  · obtain ⟨h1, h2⟩ := back n _ hn (by simp)
    obtain ⟨c, q1, q2, q3, q4, q5⟩ := h.cells n e cs h1
    exact ⟨c, q1, q2, q3, q4.cut hc (hrow n _ h2 h1), q5⟩
  · obtain ⟨h1, h2⟩ := back n _ hn (by simp)
    obtain ⟨c, d, q1, q2, q3⟩ := h.map n es h1
    exact ⟨c, d, q1, q2.cut hc (fun k hk => hrow n _ h2 h1 k (maskP_fst k hk)), q3.cut hc (fun k hk => hrow n _ h2 h1 k (maskP_snd k hk))⟩
  · exact h.iter n s p (back n _ hn (by simp)).1

theorem sweep_inv {F : Fr} (hF : FrOK N F) (h : Inv C A N E σ R I a w) : Inv C A N E (sweep F.fb F.cb E σ) R I a w := by
  have hcb : F.cb ≤ σ.length := by rw [hF.cb]; exact h.ext.len
  have hc := sweep_cut (fb := F.fb) (E := E) hcb
  have hrow : ∀ n r, n < (sweep F.fb F.cb E σ).length → σ[n]? = some r → ∀ k, r.mask.testBit k = true → k < F.cb ∨ (maskE E ||| maskR (σ.drop F.fb)).testBit k = true := fun n r hn hr k hk => by
    by_cases hfb : n < F.fb
    · rcases hF.base with h0 | hb
      · omega
      · have := rowUnder_mask ((h.barr F.fb hb).2 n r hfb hr) k hk
        exact .inl (Nat.lt_of_lt_of_le this hF.fb)
    · refine .inr (testBit_or_right (maskR_get (k := n - F.fb) (r := r) ?_ k hk))
      rw [List.getElem?_drop, show F.fb + (n - F.fb) = n by omega]; exact hr
  refine { rel := h.rel.cut hc hrow, barr := fun b hb => ?_, ext := ?_, frm := h.frm, fresh := h.fresh, nt := h.nt, def0 := h.def0, env := fun t v hv => (h.env t v hv).cut hc fun n hn => .inr (testBit_or_left (maskE_get hv n hn)) }
  · have hlow := hF.low b hb
    have hlen := sweep_len (fb := F.fb) (E := E) hcb
    refine ⟨by omega, fun n r hn hr => (h.barr b hb).2 n r hn ?_⟩
    rwa [sweep_low hcb (by omega)] at hr
  · have hlen := sweep_len (fb := F.fb) (E := E) hcb
    have hlow : ∀ n, n < N.σ.length → (sweep F.fb F.cb E σ)[n]? = σ[n]? := fun n hn => sweep_low hcb (by rw [hF.cb]; exact hn)
    exact ⟨by rw [← hF.cb]; exact hlen, h.ext.imm, fun n e cs' hn hcs => h.ext.cells n e cs' hn (hlow n hn ▸ hcs), fun n es hn hcs => h.ext.map n es hn (hlow n hn ▸ hcs), fun n s p hn hcs => h.ext.iter n s p hn (hlow n hn ▸ hcs)⟩

theorem filter_inv (h : Inv C A N E σ R I a w) (ts : List Nat) : Inv C A N (filterE ts E) σ R I a w :=
  have henv : EnvRel C I (filterE ts E) σ R a := fun t v hv => by
    rw [filterE_get] at hv
    split at hv
    · exact h.env t v hv
    · cases hv
  { h.toMid with env := henv }

variable {call : ACall} {Q : Exit → Act → World → Prop} {x : AExit} {E' : Env} {σ' : ASt} {F : Fr}

theorem adraw_of_aops {bases : List Nat} {nt : Nat} {ops : List Oper} : ∀ {tr0 : List TR} (rest : List Oper) (E : Env) (σ : ASt), aops C call bases nt ops rest E σ = some (x, E', σ') → ∃ tr, adraw C call bases nt ops rest E σ tr0 = some (x, E', σ', tr)
  | tr0, [], E, σ, h => by
    simp only [aops, Option.some.injEq, Prod.mk.injEq] at h
    obtain ⟨rfl, rfl, rfl⟩ := h
    exact ⟨tr0, rfl⟩
  | tr0, o :: rest, E, σ, h => by
    unfold aops at h
    unfold adraw
    split at h
    · cases h
    · rename_i hw
      try rw [hw]
      try simp only
      split at h
      · rename_i E1 hE1
        try rw [hE1]
        exact adraw_of_aops rest E1 σ h
      · cases h
    · rename_i hw
      try rw [hw]
      try simp only
      split at h
      · cases h
      · rename_i v σ1 hop
        try rw [hop]
        simp only [Option.some.injEq, Prod.mk.injEq] at h
        obtain ⟨rfl, rfl, rfl⟩ := h
        exact ⟨tr0, rfl⟩
      · rename_i v σ1 hop
        try rw [hop]
        try simp only
        split at h
        · rename_i E1 hE1
          try rw [hE1]
          exact adraw_of_aops rest E1 σ1 h
        · cases h

theorem aop_dies {bases : List Nat} {op : Op} {v : AV} {σ1 : ASt} (h : aop C call bases E σ op = some (.panic v σ1)) : dies op = true := by
  unfold aop at h
  split at h
  · rw [Option.map_eq_some_iff] at h; obtain ⟨_, _, h⟩ := h; cases h
  · rw [Option.map_eq_some_iff] at h; obtain ⟨_, _, h⟩ := h; cases h
  · unfold aeff at h
    split at h
    case h_9 => rfl
    case h_10 =>
      rename_i c
      unfold dies
      split at h
      · rename_i g hg; simp only [hg]
      · split at h
        · split at h
          · injection h with h; cases h
          · cases h
        · cases h
      · cases h
    all_goals
      exfalso
      revert h
      repeat' split
      all_goals (intro h; first | (injection h with h; cases h; done) | (cases h; done))

theorem easy_draw {bases : List Nat} {nt : Nat} {ops : List Oper} {E0 : Env} {σ0 : ASt} {tr : List TR} (he : easyOK C ops = true) (h : adraw C call bases nt ops ops E0 σ0 [] = some (x, E', σ', tr)) : drawOK C ops tr = true := by
  unfold easyOK at he
  simp only [Bool.and_eq_true, List.all_eq_true] at he
  obtain ⟨_, h1, h2⟩ := he
  unfold drawOK
  simp only [Bool.and_eq_true, List.all_eq_true]
  refine ⟨fun ⟨o, i⟩ ho => ?_, fun ⟨o, i⟩ ho => ?_⟩
  · split
    · rfl
    · split
      · rename_i hc hv
        rw [List.all_eq_true]
        intro ⟨p, j⟩ hp
        have h3 := h1 (o, i) ho
        simp only [hc, beq_self_eq_true, Bool.not_true, Bool.false_or, List.all_eq_true] at h3
        have h4 := h3 (p, j) hp
        dsimp only at h4 ⊢
        split
        · rfl
        · split
          · rename_i hcond
            exfalso
            simp only [Bool.and_eq_true, beq_iff_eq, Bool.not_eq_true'] at hcond
            obtain ⟨⟨⟨q1, q2⟩, q3⟩, q4⟩ := hcond
            rw [q1, q3, q4] at h4
            cases h4
          · rfl
      · rfl
  · obtain ⟨tr1, es, ss, q1, q2, q3, q4, q5, q6⟩ := adraw_spec _ _ _ _ _ h
    rw [List.nil_append] at q1
    subst q1
    by_cases hle : i ≤ tr.length
    · simp [hle]
    · have hi : i < ops.length := by
        rw [List.mem_zipIdx_iff_getElem?] at ho
        exact (List.getElem?_eq_some_iff.1 ho).1
      cases x with
      | normal => have : tr.length = ops.length := q6.1; omega
      | panic v =>
        obtain ⟨o', ho', _, hop⟩ := q6
        have hd := aop_dies hop
        have h3 := h2 (o', tr.length) (by rw [List.mem_zipIdx_iff_getElem?]; exact ho')
        simp only [hd, Bool.not_true, Bool.false_or, List.all_eq_true] at h3
        have h4 := h3 (o, i) ho
        simp only [hle, decide_false, Bool.false_or] at h4 ⊢
        exact h4
      | exit k => exact q6.elim
      | ret => exact q6.elim

theorem aregion_wp (hmix : P.follows .mixedOrders = true) (hty : ∀ t T, C.ty t = some T → TyOK P t T) (hcall : CallOK P C call) (hA : ∀ b, N.w.heap.size ≤ b → A b) (hF : FrOK N F) {id : Nat} {arr : Array Oper} {draw : Bool}
    (hr : aregion C call F id arr.toList draw E σ = some (x, E', σ')) (h : Inv C A N E σ R I a w) (hQ : Post C A N Q E' σ' x) : (Code.region id arr draw).wp P Q a w := by
  unfold aregion at hr
  split at hr
  · cases hr
  · rename_i ts _
    have hi : Inv C A N (filterE ts E) (giveUp C F id (filterE ts E) σ) R I a w := by
      unfold giveUp
      cases C.sw F.f id
      · exact filter_inv h ts
      · exact sweep_inv hF (filter_inv h ts)
    rw [hF.bases, hF.nt] at hr
    have drawn : ∀ tr, regOK C arr.toList = true → adraw C call N.bases N.nt arr.toList arr.toList (filterE ts E) (giveUp C F id (filterE ts E) σ) [] = some (x, E', σ', tr) → drawOK C arr.toList tr = true → (Code.region id arr true).wp P Q a w := by
            intro tr hreg htr hd
            obtain ⟨tr1, es, ss, h1, h2, h3, h4, h5, h6⟩ := adraw_spec _ _ _ _ _ htr
            rw [List.nil_append] at h1
            subst h1
            have H : Trace C call N.bases N.nt arr.toList tr es ss := ⟨regOK_facts hreg, h4, h5⟩
            refine wp_region_any hmix ?_
            refine draw_any hty hcall hA hd H h6 hQ arr.size _ 0 R I a _ ?_ ?_
            · unfold left
              exact Nat.le_trans List.countP_le_length (by simp)
            · have hfalse : ∀ j, ¬ (Array.replicate arr.size false).getD j false = true := fun j => by
                by_cases hj : j < arr.size <;> simp [Array.getD_eq_getD_getElem?, hj]
              refine ⟨by simp, fun j o _ hL => absurd hL (hfalse j), Nat.zero_le _, fun j _ => ⟨fun hL => absurd hL (hfalse j), fun hL => absurd hL (Nat.not_lt_zero _)⟩, fun j hL => absurd hL (hfalse j), ?_, fun j o T d _ _ hL => absurd hL (hfalse j), fun t v hv _ => ?_⟩
              · rw [h3]
                exact ⟨hi.rel.heapEq rfl, hi.barr, hi.ext, ⟨hi.frm.os, hi.frm.tape, hi.frm.output, hi.frm.size, hi.frm.same⟩, hi.fresh, hi.nt, hi.def0⟩
              · rw [h3]; rw [h2] at hv; exact hi.env t v hv
    cases hb : (draw && !easyOK C arr.toList) with
    | true =>
      rw [hb] at hr
      simp only [cond_true] at hr
      obtain ⟨rfl, _⟩ := (Bool.and_eq_true _ _).mp hb
      split at hr
      · rename_i hreg
        split at hr
        · rename_i x1 E1 σ1 tr htr
          split at hr
          · rename_i hd
            simp only [Option.some.injEq, Prod.mk.injEq] at hr
            obtain ⟨rfl, rfl, rfl⟩ := hr
            exact drawn tr hreg htr hd
          · cases hr
        · cases hr
      · cases hr
    | false =>
     rw [hb] at hr
     simp only [cond_false] at hr
     cases draw with
     | true =>
      have he : easyOK C arr.toList = true := by simpa using hb
      obtain ⟨tr, htr⟩ := adraw_of_aops (tr0 := []) arr.toList _ _ hr
      exact drawn tr ((Bool.and_eq_true _ _).mp he).1 htr (easy_draw he htr)
     | false =>
      refine wp_region ?_
      have := aops_wp (arr := arr) hty hcall hA hQ arr.toList [] rfl _ _ R I a w hi hr
      rw [List.range_eq_range', ← Array.length_toList (xs := arr)]; exact this

theorem aloop_wp {c : Code} {body : Env → ASt → Option (AExit × Env × ASt)}
    (hbody : ∀ (Q : Exit → Act → World → Prop) E σ x E' σ' R I a w, body E σ = some (x, E', σ') → Inv C A N E σ R I a w → Post C A N Q E' σ' x → c.wp P Q a w)
    (hQ : Post C A N Q E' σ' x) : ∀ (n : Nat) (E : Env) (σ : ASt) (R : Ren) (I : Imm) (a : Act) (w : World), aloop body n E σ = some (x, E', σ') → Inv C A N E σ R I a w → ∀ (b : Frame) (k : List Item) (cs : List Frame),
      ∃ e a' w', Q e a' w' ∧ Arrives P (lone (b.at a (.code c :: .inLoop c :: k)) cs w) b k cs e a' w'
  | 0, E, σ, R, I, a, w, h, _ => by simp [aloop] at h
  | n + 1, E, σ, R, I, a, w, h, hi => fun b k cs => by
    unfold aloop at h
    cases hb : body E σ with
    | none => rw [hb] at h; cases h
    | some r =>
      obtain ⟨x1, E1, σ1⟩ := r
      rw [hb] at h
      by_cases hx : x1 = .normal
      · subst hx
        simp only at h
        have hw := hbody (Exit.then (fun a w => ∃ R I, Inv C A N E1 σ1 R I a w) Q) E σ .normal E1 σ1 R I a w hb hi (fun R I a w hi => ⟨R, I, hi⟩)
        obtain ⟨e, a1, w1, hq, harr⟩ := hw b (.inLoop c :: k) cs
        cases e with
        | normal =>
          obtain ⟨R1, I1, hi1⟩ := hq
          obtain ⟨e2, a2, w2, hq2, harr2⟩ := aloop_wp hbody hQ n E1 σ1 R1 I1 a1 w1 h hi1 b k cs
          exact ⟨e2, a2, w2, hq2, .of_steps (Steps.trans harr (.one step_inLoop)) harr2⟩
        | exit id => exact ⟨_, a1, w1, hq, .pass (x := .inLoop c) rfl (fun _ _ => .inl (by simp)) harr⟩
        | goto l => exact ⟨_, a1, w1, hq, .pass (x := .inLoop c) rfl (fun _ _ => .inl (by simp)) harr⟩
        | ret => exact ⟨_, a1, w1, hq, .pass (x := .inLoop c) rfl (fun _ _ => .inl (by simp)) harr⟩
        | panic ch => exact ⟨_, a1, w1, hq, .pass (x := .inLoop c) rfl (fun _ _ => .inl (by simp)) harr⟩
        | outgrown => exact ⟨_, a1, w1, hq, .pass (x := .inLoop c) rfl (fun _ _ => .inl (by simp)) harr⟩
      · have h' : (x1, E1, σ1) = (x, E', σ') := by
          cases x1 <;> first | exact absurd rfl hx | (simp only at h; injection h)
        injection h' with e1 e2
        injection e2 with e2 e3
        subst e1 e2 e3
        have hw := hbody (Exit.then (fun _ _ => False) Q) E σ x1 E1 σ1 R I a w hb hi (by cases x1 <;> first | exact absurd rfl hx | exact hQ)
        obtain ⟨e, a1, w1, hq, harr⟩ := hw b (.inLoop c :: k) cs
        cases e with
        | normal => exact hq.elim
        | exit id => exact ⟨_, a1, w1, hq, .pass (x := .inLoop c) rfl (fun _ _ => .inl (by simp)) harr⟩
        | goto l => exact ⟨_, a1, w1, hq, .pass (x := .inLoop c) rfl (fun _ _ => .inl (by simp)) harr⟩
        | ret => exact ⟨_, a1, w1, hq, .pass (x := .inLoop c) rfl (fun _ _ => .inl (by simp)) harr⟩
        | panic ch => exact ⟨_, a1, w1, hq, .pass (x := .inLoop c) rfl (fun _ _ => .inl (by simp)) harr⟩
        | outgrown => exact ⟨_, a1, w1, hq, .pass (x := .inLoop c) rfl (fun _ _ => .inl (by simp)) harr⟩

theorem acode_wp (hmix : P.follows .mixedOrders = true) (hty : ∀ t T, C.ty t = some T → TyOK P t T) (hcall : CallOK P C call) (hA : ∀ b, N.w.heap.size ≤ b → A b) (hF : FrOK N F) (fuel : Nat) :
    ∀ (c : Code) (Q : Exit → Act → World → Prop) (E : Env) (σ : ASt) (x : AExit) (E' : Env) (σ' : ASt) (R : Ren) (I : Imm) (a : Act) (w : World), acode C call F fuel c E σ = some (x, E', σ') → Inv C A N E σ R I a w → Post C A N Q E' σ' x → c.wp P Q a w := by
  intro c
  induction c with
  | skip =>
    intro Q E σ x E' σ' R I a w h hi hQ
    simp only [acode, Option.some.injEq, Prod.mk.injEq] at h
    obtain ⟨rfl, rfl, rfl⟩ := h
    exact wp_skip (hQ R I a w hi)
  | label l =>
    intro Q E σ x E' σ' R I a w h hi hQ
    simp only [acode, Option.some.injEq, Prod.mk.injEq] at h
    obtain ⟨rfl, rfl, rfl⟩ := h
    exact wp_label (hQ R I a w hi)
  | exit i =>
    intro Q E σ x E' σ' R I a w h hi hQ
    simp only [acode, Option.some.injEq, Prod.mk.injEq] at h
    obtain ⟨rfl, rfl, rfl⟩ := h
    exact wp_exit (hQ R I a w hi)
  | ret =>
    intro Q E σ x E' σ' R I a w h hi hQ
    simp only [acode, Option.some.injEq, Prod.mk.injEq] at h
    obtain ⟨rfl, rfl, rfl⟩ := h
    exact wp_ret (hQ R I a w hi)
  | region id ops draw =>
    intro Q E σ x E' σ' R I a w h hi hQ
    exact aregion_wp hmix hty hcall hA hF h hi hQ
  | seq c d ih1 ih2 =>
    intro Q E σ x E' σ' R I a w h hi hQ
    unfold acode at h
    cases hc : acode C call F fuel c E σ with
    | none => rw [hc] at h; cases h
    | some r =>
      obtain ⟨x1, E1, σ1⟩ := r
      rw [hc] at h
      refine wp_seq (ih1 _ E σ x1 E1 σ1 R I a w hc hi ?_)
      cases x1 with
      | normal => exact fun R I a w hi => ih2 Q E1 σ1 x E' σ' R I a w h hi hQ
      | exit i => injection h with h; injection h with h1 h2; injection h2 with h2 h3; subst h1 h2 h3; exact hQ
      | ret => injection h with h; injection h with h1 h2; injection h2 with h2 h3; subst h1 h2 h3; exact hQ
      | panic v => injection h with h; injection h with h1 h2; injection h2 with h2 h3; subst h1 h2 h3; exact hQ
  | cond o c d ih1 ih2 =>
    intro Q E σ x E' σ' R I a w h hi hQ
    unfold acode at h
    split at h
    · rename_i b hb
      have hev := eval_rel hi.env hb
      cases b with
      | true => exact wp_cond (t := true) hev (ih1 Q E σ x E' σ' R I a w h hi hQ)
      | false => exact wp_cond (t := false) hev (ih2 Q E σ x E' σ' R I a w h hi hQ)
    · cases h
  | block id c ih =>
    intro Q E σ x E' σ' R I a w h hi hQ
    unfold acode at h
    cases hc : acode C call F fuel c E σ with
    | none => rw [hc] at h; cases h
    | some r =>
      obtain ⟨x1, E1, σ1⟩ := r
      rw [hc] at h
      refine wp_block (ih _ E σ x1 E1 σ1 R I a w hc hi ?_)
      cases x1 with
      | normal => injection h with h; injection h with h1 h2; injection h2 with h2 h3; subst h1 h2 h3; exact hQ
      | exit i =>
        simp only at h
        split at h
        · rename_i hid
          injection h with h; injection h with h1 h2; injection h2 with h2 h3; subst h1 h2 h3
          intro R I a w hi
          simp only [Exit.inBlock, hid, if_true]
          exact hQ R I a w hi
        · rename_i hid
          injection h with h; injection h with h1 h2; injection h2 with h2 h3; subst h1 h2 h3
          intro R I a w hi
          simp only [Exit.inBlock, hid, if_false]
          exact hQ R I a w hi
      | ret => injection h with h; injection h with h1 h2; injection h2 with h2 h3; subst h1 h2 h3; exact hQ
      | panic v => injection h with h; injection h with h1 h2; injection h2 with h2 h3; subst h1 h2 h3; exact hQ
  | loop c ih =>
    intro Q E σ x E' σ' R I a w h hi hQ
    unfold acode at h
    intro b k cs
    obtain ⟨e, a', w', hq, harr⟩ := aloop_wp (P := P) ih hQ fuel E σ R I a w h hi b k cs
    exact ⟨e, a', w', hq, .of_steps (.one step_loop) harr⟩
  | _ =>
    intro Q E σ x E' σ' R I a w h hi hQ
    unfold acode at h
    cases h

end
end Go.Ax
