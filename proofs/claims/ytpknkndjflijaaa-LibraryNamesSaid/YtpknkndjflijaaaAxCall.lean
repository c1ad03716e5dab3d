/- Calls. -/
import Derived.Test.YtpknkndjflijaaaAxCode
namespace Go.Ax

section
variable {P : Program} {C : Cfg} {A : Nat → Prop} {N : Ent} {σ : ASt} {R : Ren} {I I' : Imm} {E : Env} {a : Act} {w : World}

theorem argEnv_get : ∀ (l : List AV) (i t : Nat), (argEnv i l).get t = if t < i then none else l[t - i]?
  | [], i, t => by simp [argEnv, Env.get]
  | v :: l, i, t => by
    unfold argEnv
    rw [Env.get_cons, argEnv_get l (i + 1) t]
    by_cases h : i = t
    · subst h; simp
    · rw [if_neg h]
      by_cases h2 : t < i
      · rw [if_pos h2, if_pos (by omega)]
      · rw [if_neg h2, if_neg (by omega), show t - i = (t - (i + 1)) + 1 by omega, List.getElem?_cons_succ]

/-- What a result comes to. -/
def resF (a : Act) : ResultVar → Sem Value
  | .tmp t => pure (a.tmps.getD t undef)
  | .cell b t => do loadVar t (← asAddr (a.tmps.getD b undef))

theorem aresults_run (hty : ∀ t T, C.ty t = some T → TyOK P t T) (h : WRel C A σ R I w) (hE : EnvRel C I E σ R a) : ∀ {l : List ResultVar} {vs : List AV}, aresults C E σ l = some vs →
    ∃ us, (l.mapM (resF a)).run P w = .ok us w ∧ RelL C I vs σ R us
  | [], vs, hr => by
    simp only [aresults, Option.some.injEq] at hr; subst hr
    exact ⟨[], by simp, rfl⟩
  | r :: l, vs, hr => by
    unfold aresults at hr
    split at hr
    · rename_i v vs' h1 h2
      injection hr with hr; subst hr
      obtain ⟨us, hus, hrel⟩ := aresults_run hty h hE h2
      cases r with
      | tmp t =>
        refine ⟨a.tmps.getD t undef :: us, ?_, _, _, rfl, hE t v h1, hrel⟩
        simp only [List.mapM_cons, Sem.run_bind, Sem.run_pure, Result.andThen_ok, hus, resF]
      | cell b t =>
        simp only [aresult] at h1
        split at h1
        · rename_i p hp
          obtain ⟨u, hu, hur⟩ := run_loadAt hty h (hE b p hp) h1
          have hx : ∃ ad, a.tmps.getD b undef = .pointer (some ad) := by
            have hpr := hE b p hp
            unfold aload at h1
            split at h1
            · obtain ⟨_, b', he, _⟩ := hpr; exact ⟨_, he⟩
            · obtain ⟨b', o', vs', he, _⟩ := hpr; exact ⟨_, he⟩
            · cases h1
          obtain ⟨ad, hx⟩ := hx
          rw [hx] at hu
          refine ⟨u :: us, ?_, _, _, rfl, hur, hrel⟩
          simp only [Instr.loadAt, Instr.sureAddr, Sem.run_bind, Sem.run_pure, Result.andThen_ok] at hu
          simp only [List.mapM_cons, Sem.run_bind, Sem.run_pure, Result.andThen_ok, hx, asAddr, hu, hus, resF]
        · cases h1
    · cases hr

theorem tupled_run (hty : ∀ t T, C.ty t = some T → TyOK P t T) (h : WRel C A σ R I w) (hE : EnvRel C I E σ R a) {fn : Func} {vs : List AV} (hr : aresults C E σ fn.results.toList = some vs) :
    ∃ u, (results fn a.tmps).run P w = .ok u w ∧ Rel C I (tupled vs) σ R u := by
  obtain ⟨us, hus, hrel⟩ := aresults_run hty h hE hr
  have hl := hrel.length
  refine ⟨if h : us.toArray.size = 1 then us.toArray[0] else .tuple us.toArray, ?_, ?_⟩
  · have he : results fn a.tmps = (do let vs ← fn.results.mapM (resF a); pure (if h : vs.size = 1 then vs[0] else .tuple vs)) := rfl
    rw [he, Array.mapM_eq_mapM_toList]
    simp [hus]
  · match vs, us, hrel with
    | [], us, hrel => simp only [RelL] at hrel; subst hrel; exact ⟨[], rfl, rfl⟩
    | [v], us, hrel =>
      obtain ⟨u, us', rfl, h1, h2⟩ := hrel
      simp only [RelL] at h2; subst h2
      exact h1
    | v :: v' :: vs, us, hrel =>
      have hl := hrel.length
      have hne : ¬ us.toArray.size = 1 := by simp [hl]
      rw [dif_neg hne]
      exact ⟨us, rfl, hrel⟩

/-! ### At a function's end -/

open Classical in
/-- All cells of the rows from 'len' on are never written again. -/
noncomputable def immAll (σ : ASt) (R : Ren) (I : Imm) (w : World) (len : Nat) : Imm := fun b o =>
  if ∃ n e cs, len ≤ n ∧ σ[n]? = some (.cells e cs) ∧ R.b n = b ∧ o < cs.length then w.cell? ⟨b, o, none⟩ else I b o

theorem immAll_mono (h : WRel C A σ R I w) (len : Nat) : ∀ b o v, I b o = some v → immAll σ R I w len b o = some v := fun b o v hb => by
  unfold immAll
  rw [if_neg]
  · exact hb
  · rintro ⟨n, e, cs, _, hn, hbn, _⟩
    exact h.sep b o v n hb ⟨_, hn, by simp⟩ hbn.symm

theorem immAll_covers (h : WRel C A σ R I w) (len : Nat) : Covers C σ R I (immAll σ R I w len) len := fun n e cs hn hg => by
  obtain ⟨us, hus, hc⟩ := h.at_ hg
  refine ⟨us, hus, fun i u hu => ?_⟩
  have := hc i u hu
  rw [Nat.zero_add] at this
  unfold immAll
  rw [if_pos]
  · exact this
  · refine ⟨n, e, cs, hn, hg, rfl, ?_⟩
    rw [← hus.length]; exact (List.getElem?_eq_some_iff.1 hu).1

theorem take_cut (σ : ASt) (len : Nat) : Cut σ (σ.take len) (fun n => n < len) :=
  ⟨fun n h1 h2 => by simp; omega, fun n h => .inl (by rw [List.getElem?_take, if_pos (by simp at h; omega)])⟩

theorem take_rel (h : WRel C A σ R I w) {bases : List Nat} (hb : Barr bases σ) {len : Nat} (hlen : len ∈ bases) : WRel C A (σ.take len) R (immAll σ R I w len) w := by
  have h1 : WRel C A (σ.take len) R I w := h.cut (take_cut σ len) fun n r hn hr k hk => rowUnder_mask ((hb len hlen).2 n r (by simp at hn; omega) hr) k hk
  have hx : Ext (σ.take len) R I (σ.take len) R (immAll σ R I w len) := Ext.imms (immAll_mono h len)
  refine ⟨h1.inj, h1.al, fun n e cs hn => ?_, fun n es hn => ?_, h1.iter, fun b o v hb => ?_, fun b o v n hb hn => ?_⟩
  · obtain ⟨c, q1, q2, q3, q4, q5⟩ := h1.cells n e cs hn
    exact ⟨c, q1, q2, q3, q4.ext hx, q5⟩
  · obtain ⟨c, d, q1, q2, q3⟩ := h1.map n es hn
    exact ⟨c, d, q1, q2.ext hx, q3.ext hx⟩
  · unfold immAll at hb
    split at hb
    · exact hb
    · exact h.imm b o v hb
  · unfold immAll at hb
    split at hb
    · rename_i hex
      obtain ⟨m, e, cs, hm, hg, hbm, _⟩ := hex
      obtain ⟨r, hr, hd⟩ := hn
      have hlt := (List.getElem?_eq_some_iff.1 hr).1
      have hlt2 : n < len := by simp at hlt; omega
      rw [List.getElem?_take, if_pos hlt2] at hr
      intro he
      have := h.inj m n ⟨_, hg, by simp⟩ ⟨r, hr, hd⟩ (hbm.trans he)
      omega
    · exact h1.sep b o v n hb hn

theorem retv_rel (h : WRel C A σ R I w) {len : Nat} {v v' : AV} {u : Value} (hr : retv C σ len v = some v') (hv : Rel C I v σ R u) : Rel C (immAll σ R I w len) v' (σ.take len) R u := by
  have hmono := immAll_mono h len
  have frz : ∀ {v v' : AV} {u : Value}, frz C σ len 100000 v = some v' → Rel C I v σ R u → Rel C (immAll σ R I w len) v' (σ.take len) R u := fun hf hv =>
    ((frz_rel hmono (immAll_covers h len) 100000).1 _ _ _ hv hf).ext (Ext.nil fun _ _ _ h => h)
  have low : ∀ {v : AV} {u : Value}, (∀ n, v.mask.testBit n = true → n < len) → Rel C I v σ R u → Rel C (immAll σ R I w len) v (σ.take len) R u := fun hm hv =>
    (hv.cut (take_cut σ len) hm).ext (Ext.imms hmono)
  unfold retv at hr
  split at hr
  · split at hr
    · rename_i hlt
      injection hr with hr; subst hr
      exact low (fun k hk => by simp [AV.mask, Nat.testBit_two_pow] at hk; omega) hv
    · exact frz hr hv
  · split at hr
    · rename_i hlt
      injection hr with hr; subst hr
      exact low (fun k hk => by simp [AV.mask, Nat.testBit_two_pow] at hk; omega) hv
    · cases hr
  · exact frz hr hv

theorem retvL_rel (h : WRel C A σ R I w) {len : Nat} : ∀ {vs vs' : List AV} {us : List Value}, retvL C σ len vs = some vs' → RelL C I vs σ R us → RelL C (immAll σ R I w len) vs' (σ.take len) R us
  | [], vs', us, hr, hv => by
    simp only [retvL, Option.some.injEq] at hr; subst hr; exact hv
  | v :: vs, vs', us, hr, hv => by
    unfold retvL at hr
    split at hr
    · rename_i x xs h1 h2
      injection hr with hr; subst hr
      obtain ⟨u, us', rfl, h3, h4⟩ := hv
      exact ⟨u, us', rfl, retv_rel h h1 h3, retvL_rel h h2 h4⟩
    · cases hr

theorem retV_rel (h : WRel C A σ R I w) {len : Nat} {v v' : AV} {u : Value} (hr : retV C σ len v = some v') (hv : Rel C I v σ R u) : Rel C (immAll σ R I w len) v' (σ.take len) R u := by
  unfold retV at hr
  split at hr
  · rw [Option.map_eq_some_iff] at hr
    obtain ⟨l, hl, rfl⟩ := hr
    obtain ⟨us, rfl, hus⟩ := hv
    exact ⟨us, rfl, retvL_rel h hl hus⟩
  · exact retv_rel h hr hv

/-! ### The rule -/

/-- What is shown of a function that is answered for otherwise. -/
def ExtOK (P : Program) (C : Cfg) (f : Nat) (g : List AV → ASt → Option (AEnd × ASt)) : Prop := ∀ bases args σ e σ', g args σ = some (e, σ') → ∀ A R I w cargs, WRel C A σ R I w → Barr bases σ → RelL C I args σ R cargs → (∀ b, w.heap.size ≤ b → A b) →
  (∃ fn, P.funcs[f]? = some fn ∧ fn.body.isSome = true ∧ (fn.name == "runtime.NumGoroutine") = false) ∧
  Calls P f cargs.toArray w (fun ce w' => ∃ R' I', Stp C A bases σ R I w σ' R' I' w' ∧ ERel C I' e σ' R' ce)

structure OK (P : Program) (C : Cfg) : Prop where
  mix : P.follows .mixedOrders = true
  ty : ∀ t T, C.ty t = some T → TyOK P t T
  fn : ∀ f fn, C.fn f = some fn → P.funcs[f]? = some fn ∧ (fn.name == "runtime.NumGoroutine") = false
  ext : ∀ f g, C.ext f = some g → ExtOK P C f g

theorem WRel.rowU (h : WRel C A σ R I w) : ∀ (n : Nat) (r : ARow), σ[n]? = some r → rowUnder σ.length r = true := fun n r hr => by
  cases r with
  | cells e cs => obtain ⟨c, _, _, _, q, _⟩ := h.cells n e cs hr; exact RelL.under (Nat.le_refl _) q
  | map es =>
    obtain ⟨c, d, _, q1, q2⟩ := h.map n es hr
    simp [rowUnder, RelL.under (Nat.le_refl _) q1, RelL.under (Nat.le_refl _) q2]
  | iter s p => rfl
  | dead => rfl

theorem Barr.cons (h : WRel C A σ R I w) {bases : List Nat} (hb : Barr bases σ) : Barr (σ.length :: bases) σ := fun b hm => by
  rcases List.mem_cons.1 hm with rfl | hm
  · exact ⟨Nat.le_refl _, fun n r _ hr => h.rowU n r hr⟩
  · exact hb b hm

theorem take_stp {bases : List Nat} {σ0 : ASt} {R0 : Ren} {I0 : Imm} {w0 : World} (hb0 : Barr bases σ0) (h : Stp C A (σ0.length :: bases) σ0 R0 I0 w0 σ R I w) : Stp C A bases σ0 R0 I0 w0 (σ.take σ0.length) R (immAll σ R I w σ0.length) w := by
  have hlen : (σ.take σ0.length).length = σ0.length := by rw [List.length_take]; have := h.ext.len; omega
  have hlow : ∀ n, n < σ0.length → (σ.take σ0.length)[n]? = σ[n]? := fun n hn => by rw [List.getElem?_take, if_pos hn]
  refine ⟨take_rel h.rel h.barr (List.mem_cons_self ..), fun b hb => ?_, ?_, h.frm, fun b o v hb => ?_⟩
  · have hle := (hb0 b hb).1
    refine ⟨by omega, fun n r hn hr => (h.barr b (List.mem_cons_of_mem _ hb)).2 n r hn ?_⟩
    rwa [hlow n (by omega)] at hr
  · exact ⟨by omega, fun b o v hv => immAll_mono h.rel _ b o v (h.ext.imm b o v hv), fun n e cs' hn hcs => h.ext.cells n e cs' hn (hlow n hn ▸ hcs), fun n es hn hcs => h.ext.map n es hn (hlow n hn ▸ hcs), fun n s p hn hcs => h.ext.iter n s p hn (hlow n hn ▸ hcs)⟩
  · unfold immAll at hb
    split at hb
    · rename_i hex
      obtain ⟨n, e, cs, _, hg, rfl, _⟩ := hex
      exact .inr (h.rel.al n ⟨_, hg, by simp⟩)
    · exact h.fresh b o v hb

theorem acall_sound (ok : OK P C) : ∀ k, CallOK P C (acall C k)
  | 0 => fun bases f args σ e σ' h => by simp [acall] at h
  | k + 1 => fun bases f args σ e σ' h A R I w cargs hrel hbarr hargs hA => by
    have ih := acall_sound ok k
    unfold acall at h
    split at h
    · rename_i g hg
      exact ok.ext f g hg bases args σ e σ' h A R I w cargs hrel hbarr hargs hA
    · split at h
      · cases h
      · rename_i fn hfn
        obtain ⟨hf, hname⟩ := ok.fn f fn hfn
        split at h
        · cases h
        · rename_i c hbody
          split at h
          · rename_i hle
            refine ⟨⟨fn, hf, by rw [hbody]; rfl, hname⟩, calls_of_wp hf hbody ?_⟩
            have hcl := hargs.length
            generalize hbs : (if C.inl f = true then bases else σ.length :: bases) = bs at h
            have hbar' : Barr bs σ := by
              subst hbs
              split
              · exact hbarr
              · exact hbarr.cons hrel
            have hlow : ∀ b ∈ bs, b ≤ σ.length := fun b hb => (hbar' b hb).1
            generalize hfb : (if C.inl f = true then bases.headD 0 else σ.length) = fb at h
            have hF : FrOK ⟨fn.ntmps, bs, σ, R, I, w⟩ ⟨f, fn.ntmps, fb, σ.length, bs⟩ := by
              refine ⟨rfl, ?_, ?_, hlow, rfl, rfl⟩
              · subst hfb
                show (if C.inl f = true then bases.headD 0 else σ.length) ≤ σ.length
                split
                · cases bases with
                  | nil => exact Nat.zero_le _
                  | cons b l => exact (hbarr b (List.mem_cons_self ..)).1
                · exact Nat.le_refl _
              · subst hfb hbs
                show (if C.inl f = true then bases.headD 0 else σ.length) = 0 ∨ (if C.inl f = true then bases.headD 0 else σ.length) ∈ (if C.inl f = true then bases else σ.length :: bases)
                split
                · cases bases with
                  | nil => exact .inl rfl
                  | cons b l => exact .inr (List.mem_cons_self ..)
                · exact .inr (List.mem_cons_self ..)
            have hi : Inv C A ⟨fn.ntmps, bs, σ, R, I, w⟩ (argEnv 0 args) σ R I { tmps := cargs.toArray ++ Array.replicate (fn.ntmps - cargs.toArray.size) undef, defers := [] } w := by
              refine { rel := hrel, barr := hbar', ext := Ext.refl .., frm := Frm.refl .., fresh := fun _ _ _ h => .inl h, nt := by simp; omega, def0 := rfl, env := fun t v hv => ?_ }
              rw [argEnv_get, if_neg (by omega), Nat.sub_zero] at hv
              obtain ⟨u, hu, hr⟩ := hargs.get hv
              have hlt : t < cargs.length := (List.getElem?_eq_some_iff.1 hu).1
              have : (cargs.toArray ++ Array.replicate (fn.ntmps - cargs.toArray.size) undef).getD t undef = u := by
                rw [Array.getD_eq_getD_getElem?, Array.getElem?_append_left (by simpa using hlt)]
                simp [hu]
              rw [this]; exact hr
            cases hc : acode C (acall C k) ⟨f, fn.ntmps, fb, σ.length, bs⟩ k c (argEnv 0 args) σ with
            | none => rw [hc] at h; cases h
            | some r =>
              obtain ⟨x, E1, σ1⟩ := r
              rw [hc] at h
              refine acode_wp ok.mix ok.ty ih hA hF k c _ _ _ x E1 σ1 R I _ w hc hi ?_
              have out : ∀ (v : AV) (mk : AV → AEnd), (if (C.inl f || C.own f) = true then some (mk v, σ1) else match retV C σ1 σ.length v with
                  | some v => some (mk v, σ1.take σ.length)
                  | none => none) = some (e, σ') → ∀ R1 I1 a1 w1 u, Mid C A ⟨fn.ntmps, bs, σ, R, I, w⟩ σ1 R1 I1 a1 w1 → Rel C I1 v σ1 R1 u →
                  ∃ R' I' v', Stp C A bases σ R I w σ' R' I' w1 ∧ Rel C I' v' σ' R' u ∧ e = mk v' := fun v mk hm R1 I1 a1 w1 u hmid hu => by
                split at hm
                · rename_i hinl
                  injection hm with hm; injection hm with h1 h2; subst h1 h2
                  refine ⟨R1, I1, v, ⟨hmid.rel, ?_, hmid.ext, hmid.frm, hmid.fresh⟩, hu, rfl⟩
                  have hbb : Barr bs σ1 := hmid.barr
                  subst hbs
                  split at hbb
                  · exact hbb
                  · exact fun b hb => hbb b (List.mem_cons_of_mem _ hb)
                · rename_i hinl
                  rw [Bool.or_eq_true, not_or] at hinl
                  rw [if_neg hinl.1] at hbs
                  subst hbs
                  split at hm
                  · rename_i v' hv'
                    injection hm with hm; injection hm with h1 h2; subst h1 h2
                    exact ⟨R1, _, v', take_stp hbarr ⟨hmid.rel, hmid.barr, hmid.ext, hmid.frm, hmid.fresh⟩, retV_rel hmid.rel hv' hu, rfl⟩
                  · cases hm
              cases x with
              | normal =>
                simp only [aend] at h
                split at h
                · rename_i vs hvs
                  intro R1 I1 a1 w1 hi1
                  obtain ⟨u, hu, hur⟩ := tupled_run ok.ty hi1.rel hi1.env hvs
                  obtain ⟨R', I', v', q1, q2, q3⟩ := out (tupled vs) .ret h R1 I1 a1 w1 u hi1.toMid hur
                  subst q3
                  exact ⟨hi1.def0, u, hu, R', I', q1, q2⟩
                · cases h
              | ret =>
                simp only [aend] at h
                split at h
                · rename_i vs hvs
                  intro R1 I1 a1 w1 hi1
                  obtain ⟨u, hu, hur⟩ := tupled_run ok.ty hi1.rel hi1.env hvs
                  obtain ⟨R', I', v', q1, q2, q3⟩ := out (tupled vs) .ret h R1 I1 a1 w1 u hi1.toMid hur
                  subst q3
                  exact ⟨hi1.def0, u, hu, R', I', q1, q2⟩
                · cases h
              | panic v =>
                simp only [aend] at h
                intro R1 I1 a1 w1 u hmid hu
                obtain ⟨R', I', v', q1, q2, q3⟩ := out v .panic h R1 I1 a1 w1 u hmid hu
                subst q3
                exact ⟨hmid.def0, R', I', q1, u, rfl, q2⟩
              | exit i => cases h
          · cases h

end
end Go.Ax
