/- One operation, whatever it is. -/
import Derived.Test.YtpknkndjflijaaaAxEff3
namespace Go.Ax

section
variable {P : Program} {C : Cfg} {A : Nat → Prop} {I I' : Imm} {σ : ASt} {R : Ren} {w : World} {bases : List Nat} {E : Env} {a : Act}

theorem afill_length (place : Nat → Option (Nat × Nat)) : ∀ {vs : List (Nat × AV)} {cells out : List AV}, afill place cells vs = some out → out.length = cells.length
  | [], cells, out, h => by simp only [afill, Option.some.injEq] at h; subst h; rfl
  | (i, v) :: vs, cells, out, h => by
    unfold afill at h
    split at h
    · cases h
    · split at h
      · rename_i hc
        rw [afill_length place h, length_splice (by omega)]
      · cases h

theorem opsame {o : Oper} {s : Sem Value} {v : AV} {σ' : ASt} {R' : Ren} {I' : Imm} {w' : World} {u : Value} (he : execOp a.eval o = (do pure (.value (← s)))) (hr : s.run P w = .ok u w') (hs : Stp C A bases σ R I w σ' R' I' w') (hv : Rel C I' v σ' R' u) :
    OpPost P C A bases σ R I w a o (.val v σ') := .value (by rw [he]; simp [hr]) hs hv

theorem aeff_post {o : Oper} (hty : ∀ t T, C.ty t = some T → TyOK P t T) {call : ACall} (hcall : CallOK P C call) (h : WRel C A σ R I w) (hb : Barr bases σ) (hA : ∀ b, w.heap.size ≤ b → A b) (hE : EnvRel C I E σ R a) {r : OR}
    (hr : aeff C call bases E σ o.op = some r) : OpPost P C A bases σ R I w a o r := by
  obtain ⟨dst, op, ty, pos, after, guard⟩ := o
  dsimp only at hr
  unfold aeff at hr
  split at hr
  · -- alloc
    rename_i t
    split at hr
    · rename_i T hT
      injection hr with hr; subst hr
      obtain ⟨z, hz, hzr, hzs⟩ := (hty t T hT).zero
      obtain ⟨_, _, _, _, _, _, _, _, hone, _⟩ := (hty t T hT).info
      refine newVar_post h hb hA (hzr C I σ R) hone ?_
      simp [execOp, Instr.alloc, hz, newVar, newRow]
    · cases hr
  · -- box
    rename_i t x
    split at hr
    · rename_i v hv
      split at hr
      · rename_i hone
        injection hr with hr; subst hr
        refine newVar_post h hb hA (eval_rel hE hv).cells hone ?_
        simp [execOp, Instr.box, newVar, newRow]
      · cases hr
    · cases hr
  · -- buildSlice
    rename_i t len parts
    split at hr
    · rename_i T ps hT hps
      split at hr
      · rename_i e hk
        split at hr
        · rename_i S hS
          split at hr
          · rename_i hsz
            split at hr
            · rename_i cells hfill
              split at hr
              · rename_i hc
                obtain ⟨hone, hpos⟩ := hc
                obtain ⟨h1, h2⟩ := evalP_rel hE hps
                have hcl := afill_length _ hfill
                rw [List.length_map, List.length_range] at hcl
                have he : execOp a.eval ⟨dst, .buildSlice t len parts, ty, pos, after, guard⟩ = (do pure (.value (← Instr.buildSlice t len (parts.map fun (i, x) => (i, a.eval x))))) := rfl
                obtain ⟨q1, q2⟩ := buildSlice_post hty h hb hA hT hk hS hsz hpos hone hfill (by rw [Array.toList_map]; exact h1) (by rw [Array.toList_map]; exact h2) hcl he
                split at hr
                · rename_i cs hcs
                  injection hr with hr; subst hr
                  split at hcs
                  · cases hcs
                  · exact q2 cs hcs
                · injection hr with hr; subst hr; exact q1
              · cases hr
            · cases hr
          · cases hr
        · cases hr
      · cases hr
    · cases hr
  · -- store
    rename_i t x y
    split at hr
    · rename_i p v hp hv
      split at hr
      · rename_i σ' hs
        injection hr with hr; subst hr
        obtain ⟨w', h1, h2, h3, h4, h5⟩ := run_storeAt hty h hb (eval_rel hE hp) (eval_rel hE hv) hs
        exact .skip (by simp [execOp, h1]) ⟨h2, h3, h4, h5, fun _ _ _ h => .inl h⟩
      · cases hr
    · cases hr
  · -- makeMap
    injection hr with hr; subst hr
    have hp := h.pushObj hA (.map []) (.map #[] 0) (.inl ⟨0, rfl, rfl⟩)
    refine .value (R' := R.set σ.length w.heap.size 0) (I' := I) (u := .map (some w.heap.size)) (by simp [execOp, Instr.makeMap]) ⟨hp, hb.push _, Ext.push .., Frm.alloc w hA _, fun _ _ _ h => .inl h⟩ ?_
    exact ⟨by simp, w.heap.size, rfl, fun es hc => by simp [Ren.set]⟩
  · -- insert
    rename_i t m k x
    split at hr
    · rename_i T n kv v hT hm hk hv
      split at hr
      · rename_i kt e es hTk hn hf
        split at hr
        · split at hr
          · rename_i hcond
            injection hr with hr; subst hr
            rw [hn] at hf
            exact insert_post hty h hb hT hTk hn hf hcond.1 hcond.2.1 (eval_rel hE hm) (eval_rel hE hk) (eval_rel hE hv) (fun _ => rfl) rfl
          · cases hr
        · split at hr
          · rename_i hcond
            injection hr with hr; subst hr
            rw [hn] at hf
            exact insert_post hty h hb hT hTk hn hf hcond.1 hcond.2.1 (eval_rel hE hm) (eval_rel hE hk) (eval_rel hE hv) (fun _ => rfl) rfl
          · cases hr
        · cases hr
      · cases hr
    · cases hr
  · -- range
    rename_i t x
    split at hr
    · rename_i T s hT hs
      split at hr
      · rename_i hk
        injection hr with hr; subst hr
        have hd := (hty t T hT).desc.h
        rw [hk] at hd
        have hp := h.pushObj hA (.iter s 0) (.stringIter ⟨s.toArray⟩ 0) (.inr ⟨s, 0, rfl, rfl⟩)
        have hx : a.eval x = .string ⟨s.toArray⟩ := eval_rel hE hs
        refine .value (R' := R.set σ.length w.heap.size 0) (I' := I) (u := .pointer (some ⟨w.heap.size, 0, none⟩)) (by simp [execOp, Instr.range, run_underlying hd, hx]) ⟨hp, hb.push _, Ext.push .., Frm.alloc w hA _, fun _ _ _ h => .inl h⟩ ?_
        exact ⟨by simp, w.heap.size, rfl, fun s p hc => by simp [Ren.set]⟩
      · cases hr
    · cases hr
  · -- next
    rename_i it
    split at hr
    · rename_i n hi
      split at hr
      · rename_i s p hn
        have := next_post (P := P) (o := ⟨dst, .next it true, ty, pos, after, guard⟩) (a := a) (ty := ty) h hb hn (eval_rel hE hi) rfl
        split at hr
        · rename_i hp
          rw [if_pos hp] at this
          injection hr with hr; subst hr; exact this
        · rename_i hp
          rw [if_neg hp] at this
          injection hr with hr; subst hr; exact this
      · cases hr
    · cases hr
  · -- panic
    rename_i x
    split at hr
    · rename_i t v hv
      injection hr with hr; subst hr
      obtain ⟨y, hy, hyr⟩ := eval_rel hE hv
      intro next Q hn
      unfold Oper.wp
      have hrun : (execOp a.eval ⟨dst, .panic x, ty, pos, after, guard⟩).run P w = .halt (.panic (.iface t y)) w := by
        simp [execOp, Instr.panic, hy]
      rw [hrun]
      exact hn R I w _ (Stp.refl h hb) ⟨y, rfl, hyr⟩
    · cases hr
  · -- call
    rename_i c
    split at hr
    · rename_i g hg
      split at hr
      · rename_i f caps args hf hargs
        obtain ⟨vs, hvs, hvr⟩ := eval_rel hE hf
        have hargr := evalL_rel hE hargs
        split at hr
        · rename_i v σ' hc
          injection hr with hr; subst hr
          refine call_post (cargs := c.args.map a.eval ++ vs.toArray) (e := .ret v) hcall h hb hA (by simpa using hargr.append hvr) hc (fun fn hfn hbody hname => ?_)
          have := callFunc_enters hfn hbody hname (c.args.map a.eval ++ vs.toArray) w
          simp [execOp, resolve, hg, hvs, Deferred.ofValue, invoke, this]
        · rename_i v σ' hc
          injection hr with hr; subst hr
          refine call_post (cargs := c.args.map a.eval ++ vs.toArray) (e := .panic v) hcall h hb hA (by simpa using hargr.append hvr) hc (fun fn hfn hbody hname => ?_)
          have := callFunc_enters hfn hbody hname (c.args.map a.eval ++ vs.toArray) w
          simp [execOp, resolve, hg, hvs, Deferred.ofValue, invoke, this]
        · cases hr
      · cases hr
    · rename_i hg
      split at hr
      · rename_i st xt s x hts hargs
        split at hr
        · rename_i v σ' ha
          injection hr with hr; subst hr
          have hargr := evalL_rel hE hargs
          obtain ⟨cs, l1, he1, hs, l2⟩ := hargr
          obtain ⟨cx, l3, he2, hx, l4⟩ := l2
          simp only [RelL] at l4
          subst l4 he2
          obtain ⟨u, R', w', hrun, hstp, hrel⟩ := run_append (ty := ty) hty h hb hA hs hx ha
          refine .value (u := u) ?_ hstp hrel
          have e1 : c.args.map a.eval = #[cs, cx] := by
            apply Array.ext'
            rw [Array.toList_map, he1]
          have e2 : c.argTypes = #[st, xt] := by
            apply Array.ext'
            rw [hts]
          simp [execOp, resolve, hg, invoke, builtin, e1, e2, hrun]
        · cases hr
      · cases hr
    · cases hr
  · cases hr

theorem aop_post {o : Oper} (hty : ∀ t T, C.ty t = some T → TyOK P t T) {call : ACall} (hcall : CallOK P C call) (h : WRel C A σ R I w) (hb : Barr bases σ) (hA : ∀ b, w.heap.size ≤ b → A b) (hE : EnvRel C I E σ R a) {r : OR}
    (hr : aop C call bases E σ o.op = some r) : OpPost P C A bases σ R I w a o r := by
  unfold aop at hr
  split at hr
  · rw [Option.map_eq_some_iff] at hr
    obtain ⟨v, hv, rfl⟩ := hr
    obtain ⟨u, hu, hrel⟩ := apure_gives hty hE hv
    exact .value (hu w) (Stp.refl h hb) hrel
  · rw [Option.map_eq_some_iff] at hr
    obtain ⟨v, hv, rfl⟩ := hr
    obtain ⟨u, hu, hrel⟩ := aread_gives hty h hE hv
    exact .value hu (Stp.refl h hb) hrel
  · exact aeff_post hty hcall h hb hA hE hr

end
end Go.Ax
