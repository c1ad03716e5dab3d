/- Operations that act, all of them. -/
import Derived.Test.YtpknkndjflijaaaAxEff2
namespace Go.Ax

section
variable {P : Program} {C : Cfg} {A : Nat → Prop} {I I' : Imm} {σ : ASt} {R : Ren} {w : World} {bases : List Nat} {E : Env} {a : Act}

theorem buildSlice_post {o : Oper} (hty : ∀ t T, C.ty t = some T → TyOK P t T) (h : WRel C A σ R I w) (hb : Barr bases σ) (hA : ∀ b, w.heap.size ≤ b → A b) {t e len : Nat} {T S : ATy} {ps : List (Nat × AV)} {us : Array (Nat × Value)} {cells : List AV}
    (hT : C.ty t = some T) (hk : T.k = .slice e) (hS : C.ty e = some S) (hsz : len * S.size ≤ 16777216) (hpos : 0 < S.size) (hone : cells.all AV.one = true)
    (hfill : afill (fun i => some (i * S.size, S.size)) ((List.range (len * S.size)).map fun j => S.zero.getD (j % S.zero.length) (.nil .undef)) ps = some cells)
    (h1 : us.toList.map (·.1) = ps.map (·.1)) (h2 : RelL C I (ps.map (·.2)) σ R (us.toList.map (·.2))) (hcl : cells.length = len * S.size)
    (he : execOp a.eval o = (do pure (.value (← Instr.buildSlice t len us)))) :
    OpPost P C A bases σ R I w a o (.val (.row σ.length 0 len S.size) (σ ++ [.cells e cells])) ∧
    ∀ cs, frzL C σ σ.length 100000 cells = some cs → OpPost P C A bases σ R I w a o (.val (.tree len cs true) σ) := by
  have hd := (hty t T hT).desc.h
  rw [hk] at hd
  obtain ⟨z, hz, hzr, hzs⟩ := (hty e S hS).zero
  have hzl : S.zero.length = S.size := by
    have := (hzr C I σ R).length
    rw [Array.length_toList] at this
    omega
  have hzero := zeros_rel (hzr C I σ R) (len * S.size) (.inr (by omega))
  have hmain : ∀ (zz : Array Value), (if len * S.size = 0 then zz = #[] else zz = z.cells) → RelL C I ((List.range (len * S.size)).map fun j => S.zero.getD (j % S.zero.length) (.nil .undef)) σ R ((Array.range (len * S.size)).map (fun i => zz[i % zz.size]!)).toList := by
    intro zz hzz
    split at hzz
    · rename_i h0
      rw [h0]; simp [RelL]
    · subst hzz; exact hzero
  have hsrun := (hty e S hS).sizeOf w
  have hrun : ∃ c : Array Value, RelL C I cells σ R c.toList ∧ (execOp a.eval o).run P w = .ok (.value (.slice (some ⟨w.heap.size, 0, none⟩) len len)) (w.alloc (.cells c e)) := by
    by_cases h0 : len * S.size = 0
    · obtain ⟨c, hc1, hc2⟩ := fill_rel (fun i => some (i * S.size, S.size)) h1 h2 (hmain #[] (by simp [h0])) hfill
      refine ⟨c, hc2, ?_⟩
      rw [he]
      have hng : ¬ (len * S.size > 16777216) := by omega
      simp only [Instr.buildSlice, Sem.run_bind, run_underlying hd, Result.andThen_ok, hsrun, Sem.run_pure]
      have hr0 : Array.range 0 = #[] := rfl
      simp only [h0, hr0, Array.map_empty] at hc1
      simp [h0, hr0, hc1, newRow]
    · obtain ⟨c, hc1, hc2⟩ := fill_rel (fun i => some (i * S.size, S.size)) h1 h2 (hmain z.cells (by simp [h0])) hfill
      refine ⟨c, hc2, ?_⟩
      rw [he]
      have hng : ¬ (len * S.size > 16777216) := by omega
      simp only [Instr.buildSlice, Sem.run_bind, run_underlying hd, Result.andThen_ok, hsrun, Sem.run_pure]
      have hng' : ¬ (len * S.size > 2 ^ 24) := by omega
      simp only [hng', h0, if_false, Sem.run_bind, Sem.run_pure, Result.andThen_ok, hz, hc1]
      simp [newRow]
  obtain ⟨c, hc, hrun⟩ := hrun
  have hcs : c.size = cells.length := by rw [← Array.length_toList, hc.length]
  refine ⟨?_, fun cs hcs' => ?_⟩
  · have hp := h.push hA e cells c (by rw [List.take_of_length_le (by rw [Array.length_toList]; omega)]; exact hc) (by omega) hone
    refine .value (R' := R.set σ.length w.heap.size c.size) (I' := I) hrun ⟨hp, hb.push _, Ext.push .., Frm.alloc w hA _, fun _ _ _ h => .inl h⟩ ?_
    refine ⟨by simp, w.heap.size, len, rfl, Nat.le_refl _, fun e' cs' hc' => ?_⟩
    simp at hc'
    obtain ⟨rfl, rfl⟩ := hc'
    refine ⟨by omega, fun _ => ⟨by simp [Ren.set], ?_⟩⟩
    simp only [Ren.set, if_true]; omega
  · obtain ⟨hp, hmono⟩ := h.immPush (I' := fun b o => if b = w.heap.size then c[o]? else I b o) e c rfl
    refine .value (R' := R) (I' := fun b o => if b = w.heap.size then c[o]? else I b o) hrun ⟨hp, hb, Ext.imms hmono, Frm.alloc w hA _, fun b o v hb' => by
      split at hb'
      · rename_i hbs; exact .inr (hA _ (by omega))
      · exact .inl hb'⟩ ?_
    have hcov : Covers C σ R I (fun b o => if b = w.heap.size then c[o]? else I b o) σ.length := fun n e cs hn hg => by
      have := (List.getElem?_eq_some_iff.1 hg).1
      omega
    have hrel := (frz_rel hmono hcov 100000).2 _ _ _ hc hcs'
    refine ⟨_, len, rfl, Nat.le_refl _, fun _ => rfl, .inr ⟨w.heap.size, 0, c.toList, rfl, hrel, fun i u hu => ?_⟩⟩
    simpa using hu

theorem next_post {o : Oper} (h : WRel C A σ R I w) (hb : Barr bases σ) {n : Nat} {s : List UInt8} {pos : Nat} {ty : Nat} {ci : Value} (hn : σ[n]? = some (.iter s pos)) (hi : Rel C I (.iter n) σ R ci)
    (he : execOp a.eval o = (do pure (.value (← Instr.next ci true ty)))) : OpPost P C A bases σ R I w a o
      (if pos < s.length then .val (.tuple [.bool true, .int .i64 pos, .int .i32 (Utf8.decode ⟨s.toArray⟩ pos).1]) (σ.set n (.iter s (pos + (Utf8.decode ⟨s.toArray⟩ pos).2))) else .val (.tuple [.bool false]) σ) := by
  obtain ⟨hlt, b, rfl, hbb⟩ := hi
  obtain rfl := hbb s pos hn
  have hh := h.iter n s pos hn
  have hlive : live σ n := ⟨_, hn, by simp⟩
  have hlt2 : R.b n < w.heap.size := h.lt hlive
  have hsz : (ByteArray.mk s.toArray).size = s.length := by simp [ByteArray.size]
  split
  · rename_i hp
    have hrun : (execOp a.eval o).run P w = .ok (.value (.tuple #[.bool true, .int .i64 pos, .int .i32 (Utf8.decode ⟨s.toArray⟩ pos).1])) { w with heap := w.heap.setIfInBounds (R.b n) (.stringIter ⟨s.toArray⟩ (pos + (Utf8.decode ⟨s.toArray⟩ pos).2)) } := by
      rw [he]
      simp only [Instr.next, getObj, setObj, Sem.run_bind, Sem.run, hh, Result.andThen, hsz, hp, if_true]
      simp [goInt]
    have hx := Ext.setIter (R := R) (I := I) (p' := pos + (Utf8.decode ⟨s.toArray⟩ pos).2) hn
    refine .value (R' := R) (I' := I) hrun ⟨?_, hb.setRow fun b hbm hnb => rfl, hx, ⟨rfl, rfl, rfl, by simp, fun b hb' => ?_⟩, fun _ _ _ h => .inl h⟩ ⟨_, rfl, _, _, rfl, rfl, _, _, rfl, rfl, _, _, rfl, rfl, rfl⟩
    · refine h.upd n hx (fun m hm => by rw [List.getElem?_set_ne (Ne.symm hm)]) (fun m hm => ⟨rfl, rfl⟩) (.inl ⟨hlive, rfl⟩) (h.al n hlive) (fun b hb _ => ?_) (fun e2 cs2 hc => ?_) (fun es2 hc => ?_) (fun s' p' hc => ?_)
      · simp [Array.getElem?_setIfInBounds_ne (Ne.symm hb)]
      · rw [List.getElem?_set_self hlt] at hc; cases hc
      · rw [List.getElem?_set_self hlt] at hc; cases hc
      · rw [List.getElem?_set_self hlt] at hc
        injection hc with hc; injection hc with h1 h2; subst h1 h2
        simp [hlt2]
    · have : b ≠ R.b n := fun hh => hb' (hh ▸ h.al n hlive)
      simp [Array.getElem?_setIfInBounds_ne (Ne.symm this)]
  · rename_i hp
    have hrun : (execOp a.eval o).run P w = .ok (.value (.tuple #[.bool false])) w := by
      rw [he]
      simp [Instr.next, getObj, Sem.run, hh, hsz, hp]
    exact .value (R' := R) (I' := I) hrun (Stp.refl h hb) ⟨_, rfl, _, _, rfl, rfl, rfl⟩

theorem call_post {o : Oper} {call : ACall} (hcall : CallOK P C call) (h : WRel C A σ R I w) (hb : Barr bases σ) (hA : ∀ b, w.heap.size ≤ b → A b) {f : Nat} {args : List AV} {cargs : Array Value} {e : AEnd} {σ' : ASt}
    (hargs : RelL C I args σ R cargs.toList) (hc : call bases f args σ = some (e, σ'))
    (he : ∀ fn, P.funcs[f]? = some fn → fn.body.isSome = true → (fn.name == "runtime.NumGoroutine") = false → (execOp a.eval o).run P w = .ok (.enter f cargs) w) :
    OpPost P C A bases σ R I w a o (match e with | .ret v => .val v σ' | .panic v => .panic v σ') := by
  obtain ⟨⟨fn, hf, hbody, hname⟩, hcalls⟩ := hcall bases f args σ e σ' hc A R I w _ h hb hargs hA
  have hrun := he fn hf hbody hname
  cases e with
  | ret v =>
    intro next Q hn
    unfold Oper.wp
    rw [hrun, Oper.upon_enter]
    refine Calls.mono hcalls (fun ce w' hce => ?_)
    obtain ⟨R', I', hs, hr⟩ := hce
    cases ce with
    | returned u => exact hn R' I' w' u hs hr
    | panicked c => exact hr.elim
    | outgrown => exact hr.elim
  | panic v =>
    intro next Q hn
    unfold Oper.wp
    rw [hrun, Oper.upon_enter]
    refine Calls.mono hcalls (fun ce w' hce => ?_)
    obtain ⟨R', I', hs, hr⟩ := hce
    cases ce with
    | returned u => exact hr.elim
    | panicked c =>
      obtain ⟨u, rfl, hu⟩ := hr
      exact hn R' I' w' u hs hu
    | outgrown => exact hr.elim

end
end Go.Ax
