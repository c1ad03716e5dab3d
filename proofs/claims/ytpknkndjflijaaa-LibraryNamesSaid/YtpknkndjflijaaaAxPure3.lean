/- Operations that look at their operands alone: indexes, literals, lengths; all of them together. -/
import Derived.Test.YtpknkndjflijaaaAxPure2
namespace Go.Ax
section
variable {P : Program} {C : Cfg} {I : Imm} {σ : ASt} {R : Ren} {E : Env} {a : Act}

theorem bytes_get (l : List UInt8) (n : Nat) : (ByteArray.mk l.toArray)[n]? = l[n]? := by
  by_cases h : n < l.length
  · rw [Go.ByteArray.getElem?_lt' _ _ (by simpa [ByteArray.size] using h), List.getElem?_eq_getElem h]
    rfl
  · rw [Go.ByteArray.getElem?_ge' _ _ (by simpa [ByteArray.size] using h), List.getElem?_eq_none (by omega)]

theorem aindex_gives (hty : ∀ t T, C.ty t = some T → TyOK P t T) {t : Nat} {x i v : AV} {cx ci : Value} (hx : Rel C I x σ R cx) (hi : Rel C I i σ R ci) (h : aindex C t x i = some v) : Gives P C I σ R (Instr.index t cx ci) v := by
  unfold aindex at h
  split at h
  · rename_i T k j hT
    cases hi
    split at h
    · rename_i s hk
      have hd := (hty t T hT).desc.h
      rw [hk] at hd
      cases hx
      split at h
      · rename_i h0
        rw [Option.map_eq_some_iff] at h
        obtain ⟨b, hb, rfl⟩ := h
        refine ⟨_, fun w => ?_, rfl⟩
        simp [Instr.index, asIntOf, run_underlying hd, h0, bytes_get, hb]
      · cases h
    · rename_i m e cs hk
      have hd := (hty t T hT).desc.h
      rw [hk] at hd
      split at h
      · rename_i S hS
        split at h
        · rename_i hb
          obtain ⟨us, rfl, hl⟩ := hx
          obtain ⟨u, hu, hr⟩ := part_gives (hty e S hS) hl h
          refine ⟨u, fun w => ?_, hr⟩
          simp [Instr.index, asIntOf, run_underlying hd, hb, (hty e S hS).sizeOf, hu]
        · cases h
      · cases h
    · cases h
  · cases h

theorem evalP_rel (hE : EnvRel C I E σ R a) : ∀ {l : List (Nat × Operand)} {vs : List (Nat × AV)}, evalP E l = some vs →
    (l.map fun p => (p.1, a.eval p.2)).map (·.1) = vs.map (·.1) ∧ RelL C I (vs.map (·.2)) σ R ((l.map fun p => (p.1, a.eval p.2)).map (·.2))
  | [], vs, h => by simp only [evalP, Option.some.injEq] at h; subst h; exact ⟨rfl, rfl⟩
  | (i, x) :: l, vs, h => by
    unfold evalP at h
    split at h
    · rename_i v vs' h1 h2
      injection h with h; subst h
      obtain ⟨h3, h4⟩ := evalP_rel hE h2
      exact ⟨by simpa using h3, _, _, rfl, eval_rel hE h1, h4⟩
    · cases h

theorem foldl_set (off : Nat) : ∀ (us : List Value) (k : Nat) (cs : Array Value), off + k + us.length ≤ cs.size →
    ((us.zipIdx k).foldl (fun cs (p : Value × Nat) => cs.setIfInBounds (off + p.2) p.1) cs).toList = splice cs.toList (off + k) us
  | [], k, cs, _ => by simp [splice]
  | u :: us, k, cs, h => by
    simp only [List.length_cons] at h
    rw [List.zipIdx_cons, List.foldl_cons, foldl_set off us (k + 1) _ (by simp; omega)]
    have hc : cs.toList.length = cs.size := Array.length_toList
    apply List.ext_getElem?
    intro i
    rw [get_splice (by simp; omega), get_splice (by simp; omega)]
    simp only [Array.toList_setIfInBounds, List.length_cons, List.getElem?_set]
    by_cases h1 : i < off + k
    · rw [if_pos (by omega), if_pos h1, if_neg (by omega)]
    · rw [if_neg h1]
      by_cases h2 : i = off + k
      · subst h2
        rw [if_pos (by omega), if_pos rfl, if_pos (by omega), if_pos (by omega)]
        simp
      · rw [if_neg (by omega)]
        by_cases h3 : i < off + k + (us.length + 1)
        · rw [if_pos (by omega), if_pos h3]
          rw [show i - (off + k) = (i - (off + (k + 1))) + 1 by omega, List.getElem?_cons_succ]
        · rw [if_neg (by omega), if_neg h3, if_neg (by omega)]

theorem fill_rel (place : Nat → Option (Nat × Nat)) : ∀ {vs : List (Nat × AV)} {us : List (Nat × Value)} {cells out : List AV} {cc : Array Value}, us.map (·.1) = vs.map (·.1) → RelL C I (vs.map (·.2)) σ R (us.map (·.2)) →
    RelL C I cells σ R cc.toList → afill place cells vs = some out → ∃ co, Instr.fill place cc us = some co ∧ RelL C I out σ R co.toList
  | [], us, cells, out, cc, h1, _, hc, h => by
    have : us = [] := by simpa using h1
    subst this
    simp only [afill, Option.some.injEq] at h; subst h
    exact ⟨cc, rfl, hc⟩
  | (i, v) :: vs, [], cells, out, cc, h1, _, _, _ => by simp at h1
  | (i, v) :: vs, (j, u) :: us, cells, out, cc, h1, h2, hc, h => by
    simp only [List.map_cons, List.cons.injEq] at h1
    obtain ⟨rfl, h1⟩ := h1
    obtain ⟨u', us', he, h3, h4⟩ := h2
    simp only [List.map_cons, List.cons.injEq] at he
    obtain ⟨rfl, rfl⟩ := he
    unfold afill at h
    split at h
    · cases h
    · rename_i off size hp
      split at h
      · rename_i hcond
        obtain ⟨hs, ho⟩ := hcond
        have h3 : Rel C I v σ R u := h3
        have hvc := h3.cells
        have hvl := hvc.length
        have hcl := hc.length
        have hcc : cc.toList.length = cc.size := Array.length_toList
        have huc : u.cells.toList.length = u.cells.size := Array.length_toList
        have hf := foldl_set off u.cells.toList 0 cc (by omega)
        simp only [Nat.add_zero] at hf
        have hsp : RelL C I (splice cells off v.cells) σ R (splice cc.toList off u.cells.toList) := by
          unfold splice
          exact ((hc.take _).append hvc).append (by rw [hvl]; exact hc.drop _)
        rw [← hf] at hsp
        obtain ⟨co, h5, h6⟩ := fill_rel place h1 h4 hsp h
        refine ⟨co, ?_, h6⟩
        unfold Instr.fill
        rw [hp]
        have n1 : ¬ (u.cells.size ≠ size ∨ off + u.cells.size > cc.size) := by omega
        simp only [ne_eq, gt_iff_lt, Bool.or_eq_true, decide_eq_true_eq]
        rw [if_neg (by simpa using n1)]
        rw [← h5]
        congr 1
        rw [← Array.foldl_toList]
        simp
      · cases h

theorem abuild_gives (hty : ∀ t T, C.ty t = some T → TyOK P t T) {t : Nat} {vs : List (Nat × AV)} {us : Array (Nat × Value)} {v : AV} (h1 : us.toList.map (·.1) = vs.map (·.1)) (h2 : RelL C I (vs.map (·.2)) σ R (us.toList.map (·.2)))
    (h : abuild C t vs = some v) : Gives P C I σ R (Instr.build t us) v := by
  unfold abuild at h
  split at h
  · rename_i T hT
    have hd := (hty t T hT).desc.h
    obtain ⟨z, hz, hzr, hzs⟩ := (hty t T hT).zero
    split at h
    · rename_i fs hk
      rw [hk] at hd
      obtain ⟨fields, hd, hsome, hmap⟩ := hd
      rw [Option.map_eq_some_iff] at h
      obtain ⟨out, ho, rfl⟩ := h
      have hm : ∀ w, (fields.mapM (m := Sem) fun (f : Field) => do pure (f.offset, ← Go.sizeOf f.type)).run P w = .ok (fs.map fun (f : Nat × Nat × Nat) => (f.1, f.2.1)).toArray w := by
        intro w
        rw [Array.mapM_eq_mapM_toList]
        have key : ∀ (l : List Field), (∀ f ∈ l, (P.info? f.type).isSome = true) → (l.mapM (m := Sem) fun (f : Field) => do pure (f.offset, ← Go.sizeOf f.type)).run P w = .ok (l.map fun f => (f.offset, P.cellsOf f.type)) w := by
          intro l hl
          induction l with
          | nil => simp
          | cons f l ih =>
            simp only [List.mapM_cons, Sem.run_bind, cellsOf_run (hl f (by simp)), Result.andThen_ok, Sem.run_pure, ih (fun f hf => hl f (by simp [hf])), List.map_cons]
        simp only [Sem.run_map, key _ hsome, Result.andThen_ok]
        congr 1
        rw [← hmap]
        simp
      obtain ⟨co, h5, h6⟩ := fill_rel (fun i => (fs[i]?).map fun (f : Nat × Nat × Nat) => (f.1, f.2.1)) h1 h2 (hzr C I σ R) ho
      refine ⟨.agg co, fun w => ?_, co.toList, by simp, h6⟩
      have hpl : (fun (i : Nat) => ((fs.map fun (f : Nat × Nat × Nat) => (f.1, f.2.1)).toArray)[i]?) = fun (i : Nat) => (fs[i]?).map fun (f : Nat × Nat × Nat) => (f.1, f.2.1) := by
        funext i; simp
      simp only [Instr.build, Sem.run_bind, hz, Result.andThen_ok, run_underlying hd, hm, hpl, h5, Sem.run_pure]
    · rename_i n e hk
      rw [hk] at hd
      split at h
      · rename_i S hS
        rw [Option.map_eq_some_iff] at h
        obtain ⟨out, ho, rfl⟩ := h
        obtain ⟨co, h5, h6⟩ := fill_rel (fun i => some (i * S.size, S.size)) h1 h2 (hzr C I σ R) ho
        refine ⟨.agg co, fun w => ?_, co.toList, by simp, h6⟩
        simp only [Instr.build, Sem.run_bind, hz, Result.andThen_ok, run_underlying hd, (hty e S hS).sizeOf, h5, Sem.run_pure]
      · cases h
    · cases h
  · cases h

theorem alen_gives (hty : ∀ t T, C.ty t = some T → TyOK P t T) {t ty : Nat} {x v : AV} {cx : Value} (hx : Rel C I x σ R cx) (h : alen C t x = some v) : Gives P C I σ R (Builtin.len_ #[t] ty #[cx]) v := by
  unfold alen at h
  split at h
  · rename_i T hT
    have hd := (hty t T hT).desc.h
    split at h <;> (try cases h; done) <;> rename_i hk <;> rw [hk] at hd <;> injection h with h <;> subst h
    · rename_i s
      cases hx
      have hs : (ByteArray.mk s.toArray).size = s.length := by simp [ByteArray.size]
      exact ⟨.int .i64 s.length, fun w => by simp [Builtin.len_, run_underlying hd, goInt, hs], rfl⟩
    · cases hx
      exact ⟨_, fun w => by simp [Builtin.len_, run_underlying hd, Nl.val]; rfl, by simp [Rel, goInt]⟩
    · obtain ⟨ad, cap, rfl, _⟩ := hx
      exact ⟨_, fun w => by simp [Builtin.len_, run_underlying hd]; rfl, by simp [Rel, goInt]⟩
    · obtain ⟨_, b, cap, rfl, _⟩ := hx
      exact ⟨_, fun w => by simp [Builtin.len_, run_underlying hd]; rfl, by simp [Rel, goInt]⟩
    · exact ⟨_, fun w => by simp [Builtin.len_, run_underlying hd]; rfl, by simp [Rel, goInt]⟩
  · cases h

theorem amax_gives {ts : Array TypeId} {ty : Nat} {vs : List AV} {us : Array Value} {v : AV} (hx : RelL C I vs σ R us.toList) (h : amax vs = some v) : Gives P C I σ R (Builtin.max_ ts ty us) v := by
  unfold amax at h
  split at h
  · injection h with h; subst h
    obtain ⟨u1, l1, h1, r1, u2, l2, h2, r2, r3⟩ := hx
    cases r1; cases r2
    simp only [RelL] at r3; subst r3 h2
    exact ⟨_, fun w => by simp [Builtin.max_, h1, Builtin.max2], rfl⟩
  · cases h

theorem amin_gives {ts : Array TypeId} {ty : Nat} {vs : List AV} {us : Array Value} {v : AV} (hx : RelL C I vs σ R us.toList) (h : amin vs = some v) : Gives P C I σ R (Builtin.min_ ts ty us) v := by
  unfold amin at h
  split at h
  · injection h with h; subst h
    obtain ⟨u1, l1, h1, r1, u2, l2, h2, r2, r3⟩ := hx
    cases r1; cases r2
    simp only [RelL] at r3; subst r3 h2
    exact ⟨_, fun w => by simp [Builtin.min_, h1, Builtin.min2], rfl⟩
  · cases h

/-- The operation gives a value, in every world. -/
def GivesOp (P : Program) (C : Cfg) (I : Imm) (σ : ASt) (R : Ren) (a : Act) (o : Oper) (v : AV) : Prop := ∃ u, (∀ w, (execOp a.eval o).run P w = .ok (.value u) w) ∧ Rel C I v σ R u

theorem Gives.op {s : Sem Value} {v : AV} {o : Oper} (h : Gives P C I σ R s v) (he : execOp a.eval o = (do pure (.value (← s)))) : GivesOp P C I σ R a o v := by
  obtain ⟨u, h1, h2⟩ := h
  exact ⟨u, fun w => by rw [he]; simp [h1], h2⟩

theorem apure_gives (hty : ∀ t T, C.ty t = some T → TyOK P t T) (hE : EnvRel C I E σ R a) {o : Oper} {v : AV} (h : apure C E o.op = some v) : GivesOp P C I σ R a o v := by
  obtain ⟨dst, op, ty, pos, after, guard⟩ := o
  dsimp only at h
  unfold apure at h
  split at h
  · exact ⟨_, fun w => rfl, eval_rel hE h⟩
  · exact ⟨_, fun w => rfl, eval_rel hE h⟩
  · split at h
    · rename_i hc
      have hc' := eval_rel hE hc
      exact ⟨_, fun w => by simp only [execOp, Sem.run_bind]; rw [hc']; rfl, eval_rel hE h⟩
    · rename_i hc
      have hc' := eval_rel hE hc
      exact ⟨_, fun w => by simp only [execOp, Sem.run_bind]; rw [hc']; rfl, eval_rel hE h⟩
    · cases h
  · split at h <;> (try cases h; done) <;> rename_i hx <;> injection h with h <;> subst h <;> have hx' := eval_rel hE hx
    · have hr := hx'
      obtain ⟨_, b, hb, _⟩ := hx'
      exact ⟨_, fun w => by simp only [execOp, hb]; rfl, hb ▸ hr⟩
    · have hr := hx'
      obtain ⟨b, _, _, hb, _⟩ := hx'
      exact ⟨_, fun w => by simp only [execOp, hb]; rfl, hb ▸ hr⟩
    · have hr := hx'
      obtain ⟨_, hb, _⟩ := hx'
      exact ⟨_, fun w => by simp only [execOp, hb]; rfl, hb ▸ hr⟩
    · have hr := hx'
      obtain ⟨_, hb, _⟩ := hx'
      exact ⟨_, fun w => by simp only [execOp, hb]; rfl, hb ▸ hr⟩
  · split at h
    · rename_i hx hy
      exact (abinOp_gives hty (eval_rel hE hx) (eval_rel hE hy) h).op rfl
    · cases h
  · split at h
    · rename_i hx
      exact (aun_gives (eval_rel hE hx) h).op rfl
    · cases h
  · split at h
    · rename_i hx
      exact (aconv_gives hty (eval_rel hE hx) h).op rfl
    · cases h
  · split at h
    · rename_i t x _ _ T u hT hx
      split at h
      · cases h
      · rename_i hk
        injection h with h; subst h
        refine Gives.op (s := Instr.makeInterface t (a.eval x)) ⟨.iface t (a.eval x), fun w => run_makeInterface w t _ ?_, _, rfl, eval_rel hE hx⟩ rfl
        have hd := (hty t T hT).desc.h
        cases hkk : T.k <;> rw [hkk] at hd hk <;> dsimp only at hd <;> simp only [Program.concrete]
        case struct => obtain ⟨_, hd, _⟩ := hd; simp [hd]
        case iface => exact absurd rfl hk
        case func => obtain ⟨_, _, _, hd⟩ := hd; simp [hd]
        case other => obtain ⟨d, hd, hx⟩ := hd; rw [hd]; cases d <;> first | exact hx.elim | rfl
        all_goals simp [hd]
    · cases h
  · split at h
    · rename_i f first caps hz
      rw [Option.map_eq_some_iff] at h
      obtain ⟨vs, hvs, rfl⟩ := h
      have hf : first = #[] := by simpa using hz
      subst hf
      refine Gives.op (s := Instr.makeFunc (.func f) (#[].map a.eval) (caps.map a.eval)) ⟨_, fun w => rfl, caps.toList.map a.eval, ?_, evalL_rel hE hvs⟩ rfl
      have hc : caps.map a.eval = (caps.toList.map a.eval).toArray := by apply Array.ext'; simp
      rw [hc]
      simp
    · cases h
  · split at h
    · rename_i hx hl hh
      exact (aslice_gives hty (eval_rel hE hx) (optEval_rel hE hl) (optEval_rel hE hh) h).op rfl
    · cases h
  · split at h
    · rename_i hx
      exact (afieldAddr_gives hty (eval_rel hE hx) h).op rfl
    · cases h
  · split at h
    · rename_i hx
      exact (afield_gives hty (eval_rel hE hx) h).op rfl
    · cases h
  · split at h
    · rename_i hx hi
      exact (aindexAddr_gives hty (eval_rel hE hx) (eval_rel hE hi) h).op rfl
    · cases h
  · split at h
    · rename_i hx hi
      exact (aindex_gives hty (eval_rel hE hx) (eval_rel hE hi) h).op rfl
    · cases h
  · split at h
    · rename_i x i _ cs hx
      obtain ⟨us, hu, hl⟩ := eval_rel hE hx
      obtain ⟨u, h1, h2⟩ := hl.get h
      refine Gives.op (s := Instr.extract (a.eval x) i) ⟨u, fun w => ?_, h2⟩ rfl
      rw [hu]
      simp [Instr.extract, h1]
    · cases h
  · split at h
    · rename_i t parts _ ps hp
      obtain ⟨h1, h2⟩ := evalP_rel hE hp
      refine (abuild_gives (us := parts.map fun p => (p.1, a.eval p.2)) hty ?_ ?_ h).op rfl
      · simpa using h1
      · simpa using h2
    · cases h
  · rename_i c
    obtain ⟨callee, args, argTypes⟩ := c
    dsimp only at h
    split at h
    · split at h
      · rename_i x t ha ht
        split at h
        · rename_i u hx
          have ea : args = #[x] := by apply Array.ext'; simpa using ha
          have et : argTypes = #[t] := by apply Array.ext'; simpa using ht
          subst ea et
          refine (alen_gives (ty := ty) hty (eval_rel hE hx) h).op ?_
          simp [execOp, resolve, invoke, builtin]
        · cases h
      · cases h
    · split at h
      · rename_i l hl
        refine (amax_gives (ts := argTypes) (ty := ty) (us := args.map a.eval) (by simpa using evalL_rel hE hl) h).op ?_
        simp [execOp, resolve, invoke, builtin]
      · cases h
    · split at h
      · rename_i l hl
        refine (amin_gives (ts := argTypes) (ty := ty) (us := args.map a.eval) (by simpa using evalL_rel hE hl) h).op ?_
        simp [execOp, resolve, invoke, builtin]
      · cases h
    · cases h
  · cases h

end
end Go.Ax
