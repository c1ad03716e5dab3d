/- Operations that look at their operands alone, the rest of them, and all of them together. -/
import Derived.Test.YtpknkndjflijaaaAxPure
namespace Go.Ax
section
variable {P : Program} {C : Cfg} {I : Imm} {σ : ASt} {R : Ren} {E : Env} {a : Act}

def OptRel (C : Cfg) (I : Imm) (σ : ASt) (R : Ren) : Option AV → Option Value → Prop
  | none, none => True
  | some x, some u => Rel C I x σ R u
  | _, _ => False

theorem optEval_rel (hE : EnvRel C I E σ R a) {x : Option Operand} {v : Option AV} (h : optEval E x = some v) : OptRel C I σ R v (x.map a.eval) := by
  cases x with
  | none => simp only [optEval, Option.some.injEq] at h; subst h; trivial
  | some y =>
    simp only [optEval, Option.map_eq_some_iff] at h
    obtain ⟨u, h1, rfl⟩ := h
    exact eval_rel hE h1

theorem abound_run {x : Option AV} {cx : Option Value} {dflt most k : Nat} (hx : OptRel C I σ R x cx) (h : abound x dflt most = some k) (y : Nat) (hy : most ≤ y) (code : BoundsCode) (w : World) :
    (match cx with | some v => Instr.sliceBound v y code | none => pure dflt).run P w = .ok k w ∧ (k ≤ most ∨ k = dflt) := by
  cases x with
  | none =>
    cases cx with
    | none => simp only [abound, Option.some.injEq] at h; subst h; exact ⟨rfl, .inr rfl⟩
    | some u => exact hx.elim
  | some v =>
    cases cx with
    | none => exact hx.elim
    | some u =>
      unfold abound at h
      split at h
      · rename_i h'; cases h'
      · rename_i k' i h'
        injection h' with h'; subst h'
        cases hx
        split at h
        · rename_i hi
          injection h with h; subst h
          exact ⟨run_sliceBound w _ _ _ _ hi.1 (by omega), .inl (by omega)⟩
        · cases h
      · cases h

theorem aslice_gives (hty : ∀ t T, C.ty t = some T → TyOK P t T) {t : Nat} {x v : AV} {lo hi : Option AV} {cx : Value} {clo chi : Option Value} (hx : Rel C I x σ R cx) (hlo : OptRel C I σ R lo clo) (hhi : OptRel C I σ R hi chi)
    (h : aslice C t x lo hi = some v) : Gives P C I σ R (Instr.sliceAt t cx clo chi none) v := by
  unfold aslice at h
  split at h
  · rename_i s
    split at h
    · rename_i T hT
      split at h
      · rename_i hk
        have hd := (hty t T hT).desc.h
        rw [hk] at hd
        split at h
        · rename_i hh hbh
          split at h
          · rename_i l hbl
            injection h with h; subst h
            cases hx
            refine ⟨.string ⟨((s.take hh).drop l).toArray⟩, fun w => ?_, rfl⟩
            have hh1 := abound_run (P := P) hhi hbh s.length (Nat.le_refl _) .sliceAlen w
            have hl1 := abound_run (P := P) hlo hbl hh (Nat.le_refl _) .sliceB w
            have hle : hh ≤ s.length := by rcases hh1.2 with h | h <;> omega
            have hll : l ≤ hh := by rcases hl1.2 with h | h <;> omega
            have e1 := hh1.1
            have e2 := hl1.1
            have ex : (ByteArray.mk s.toArray).extract l hh = ⟨((s.take hh).drop l).toArray⟩ := by
              rw [Lib.extract_mk, List.drop_take]
            have hsz : (ByteArray.mk s.toArray).size = s.length := by simp [ByteArray.size]
            cases chi <;> cases clo <;> simp_all [Instr.sliceAt, Instr.slice, Instr.sliceBounds, run_underlying hd]
          · cases h
        · cases h
      · cases h
    · cases h
  · rename_i len cells full
    split at h
    · rename_i T hT
      split at h
      · rename_i e hk
        have hd := (hty t T hT).desc.h
        rw [hk] at hd
        split at h
        · rename_i S hS
          split at h
          · rename_i hh hbh
            split at h
            · rename_i l hbl
              injection h with h; subst h
              obtain ⟨ad, cap, rfl, hcap, _, hr⟩ := hx
              have hle : hh ≤ len := by rcases (abound_run (P := P) hhi hbh cap hcap .sliceAcap default).2 with h | h <;> omega
              have hll : l ≤ hh := by rcases (abound_run (P := P) hlo hbl hh (Nat.le_refl _) .sliceB default).2 with h | h <;> omega
              refine ⟨.slice (if cap = l then ad else ad.map (·.add (l * S.size))) (hh - l) (cap - l), fun w => ?_, ?_⟩
              · have e1 := (abound_run (P := P) hhi hbh cap hcap .sliceAcap w).1
                have e2 := (abound_run (P := P) hlo hbl hh (Nat.le_refl _) .sliceB w).1
                have e3 := (hty e S hS).sizeOf w
                cases chi <;> cases clo <;> simp_all [Instr.sliceAt, Instr.slice, Instr.sliceBounds, run_underlying hd]
              · refine ⟨_, _, rfl, by omega, by simp, ?_⟩
                by_cases hz : hh - l = 0
                · refine .inl ⟨hz, ?_⟩
                  apply List.drop_eq_nil_of_le
                  have : hh = l := by omega
                  subst this
                  simp [List.length_take]
                  omega
                · rcases hr with ⟨hr, _⟩ | ⟨b, off, vs, rfl, hvs, hi⟩
                  · omega
                  · refine .inr ⟨b, off + l * S.size, (vs.take (hh * S.size)).drop (l * S.size), ?_, (hvs.take _).drop _, fun i u hu => ?_⟩
                    · rw [if_neg (by omega)]; simp [Addr.add_lit]
                    · rw [List.getElem?_drop, List.getElem?_take] at hu
                      split at hu
                      · rw [Nat.add_assoc]; exact hi _ _ hu
                      · cases hu
            · cases h
          · cases h
        · cases h
      · cases h
    · cases h
  · cases h

theorem field_at {fields : Array Field} {fs : List (Nat × Nat × Nat)} (hm : fields.toList.map (fun f => (f.offset, P.cellsOf f.type, f.type)) = fs) {i off size ft : Nat} (h : fs[i]? = some (off, size, ft)) :
    ∃ f, fields[i]? = some f ∧ f ∈ fields.toList ∧ f.offset = off ∧ P.cellsOf f.type = size ∧ f.type = ft := by
  subst hm
  rw [List.getElem?_map, Option.map_eq_some_iff] at h
  obtain ⟨f, h1, h2⟩ := h
  injection h2 with h2 h3; injection h3 with h3 h4
  exact ⟨f, by simpa using h1, List.mem_of_getElem? h1, h2, h3, h4⟩

theorem cellsOf_run {t : Nat} (h : (P.info? t).isSome = true) (w : World) : (Go.sizeOf t).run P w = .ok (P.cellsOf t) w := by
  obtain ⟨i, hi⟩ := Option.isSome_iff_exists.1 h
  simp [Go.sizeOf, typeInfo, hi, Program.cellsOf]

theorem afieldAddr_gives (hty : ∀ t T, C.ty t = some T → TyOK P t T) {s f : Nat} {x v : AV} {cx : Value} (hx : Rel C I x σ R cx) (h : afieldAddr C s x f = some v) : Gives P C I σ R (Instr.fieldAt s cx f) v := by
  unfold afieldAddr at h
  split at h
  · rename_i T hT
    split at h
    · rename_i fs hk
      have hd := (hty s T hT).desc.h
      rw [hk] at hd
      obtain ⟨fields, hd, hsome, hmap⟩ := hd
      split at h
      · rename_i off size ft hf
        obtain ⟨fd, h1, h2, h3, h4, h5⟩ := field_at hmap hf
        have hsz := cellsOf_run (hsome fd h2)
        split at h
        · cases h
        · rename_i hnz
          split at h
          · injection h with h; subst h
            obtain ⟨hn, b, rfl, hb⟩ := hx
            refine ⟨_, fun w => ?_, ⟨hn, b, rfl, hb⟩⟩
            simp [Instr.fieldAt, run_underlying hd, h1, Instr.sureAddr, fieldPlace, hsz, h4, hnz, Addr.add_lit, h3]
          · injection h with h; subst h
            obtain ⟨b, o, vs, rfl, hvs, hi⟩ := hx
            refine ⟨.pointer (some ⟨b, o + off, none⟩), fun w => ?_, b, o + off, vs.drop off, rfl, hvs.drop _, fun i u hu => ?_⟩
            · simp [Instr.fieldAt, run_underlying hd, h1, Instr.sureAddr, fieldPlace, hsz, h4, hnz, Addr.add_lit, h3]
            · rw [List.getElem?_drop] at hu
              rw [Nat.add_assoc]; exact hi _ _ hu
          · cases h
      · cases h
    · cases h
  · cases h

theorem part_gives {t : Nat} {T : ATy} (hT : TyOK P t T) {cs : List AV} {us : List Value} (hl : RelL C I cs σ R us) {off : Nat} {v : AV} (hp : partOf T cs off = some v) : Gives P C I σ R (part t us.toArray off) v := by
  unfold partOf at hp
  split at hp
  · rename_i ha
    split at hp
    · injection hp with hp; subst hp
      refine ⟨.agg ((us.drop off).take T.size).toArray, fun w => ?_, _, rfl, (hl.drop off).take _⟩
      simp only [part, Sem.run_bind, hT.isAgg, ha, Result.andThen_ok, if_true, hT.sizeOf, Sem.run_pure]
      congr 2
      apply Array.ext'
      simp [List.take_drop]
    · cases hp
  · rename_i ha
    have ha' : T.agg = false := by simpa using ha
    obtain ⟨u, hu, hr⟩ := hl.get hp
    refine ⟨u, fun w => ?_, hr⟩
    have hu' : us.toArray[off]? = some u := by simpa using hu
    simp only [part, Sem.run_bind, hT.isAgg, ha', Result.andThen_ok, Bool.false_eq_true, if_false, hu', Sem.run_pure]

theorem afield_gives (hty : ∀ t T, C.ty t = some T → TyOK P t T) {s f : Nat} {x v : AV} {cx : Value} (hx : Rel C I x σ R cx) (h : afield C s x f = some v) : Gives P C I σ R (Instr.field s cx f) v := by
  unfold afield at h
  split at h
  · rename_i T hT
    split at h
    · rename_i fs hk
      have hd := (hty s T hT).desc.h
      rw [hk] at hd
      obtain ⟨fields, hd, hsome, hmap⟩ := hd
      split at h
      · rename_i off size ft cs hf
        obtain ⟨fd, h1, h2, h3, h4, h5⟩ := field_at hmap hf
        split at h
        · rename_i F hF
          obtain ⟨us, rfl, hl⟩ := hx
          obtain ⟨u, hu, hr⟩ := part_gives (hty ft F hF) hl h
          refine ⟨u, fun w => ?_, hr⟩
          simp [Instr.field, run_underlying hd, h1, asAgg, h3, h5, hu]
        · cases h
      · cases h
    · cases h
  · cases h

theorem aindexAddr_gives (hty : ∀ t T, C.ty t = some T → TyOK P t T) {t : Nat} {x i v : AV} {cx ci : Value} (hx : Rel C I x σ R cx) (hi : Rel C I i σ R ci) (h : aindexAddr C t x i = some v) : Gives P C I σ R (Instr.indexAt t cx ci) v := by
  unfold aindexAddr at h
  split at h
  · rename_i T k j hT
    cases hi
    split at h
    · rename_i e hk
      have hd := (hty t T hT).desc.h
      rw [hk] at hd
      split at h
      · rename_i S hS
        have hsz := (hty e S hS).sizeOf
        split at h
        · split at h
          · rename_i n off len sz hb
            obtain ⟨hb0, hb1, rfl⟩ := hb
            injection h with h; subst h
            obtain ⟨hn, b, cap, rfl, hle, hbb⟩ := hx
            refine ⟨.pointer (some ⟨b, off + j.toNat * S.size, none⟩), fun w => by simp [Instr.indexAt, asIntOf, run_underlying hd, hb0, hb1, hsz, Addr.add_lit], hn, b, rfl, fun e' cs hc => ?_⟩
            obtain ⟨h1, h2⟩ := hbb e' cs hc
            exact ⟨h1, fun h => (h2 h).1⟩
          · cases h
        · split at h
          · rename_i len cells full hb
            injection h with h; subst h
            obtain ⟨ad, cap, rfl, hle, _, ⟨hr, _⟩ | ⟨b, off, vs, rfl, hvs, hii⟩⟩ := hx
            · omega
            · refine ⟨.pointer (some ⟨b, off + j.toNat * S.size, none⟩), fun w => by simp [Instr.indexAt, asIntOf, run_underlying hd, hb, hsz, Addr.add_lit], b, _, _, rfl, hvs.drop _, fun i u hu => ?_⟩
              rw [List.getElem?_drop] at hu
              rw [Nat.add_assoc]; exact hii _ _ hu
          · cases h
        · cases h
      · cases h
    · rename_i m e hk
      have hd := (hty t T hT).desc.h
      rw [hk] at hd
      split at h
      · rename_i S hS
        have hsz := (hty e S hS).sizeOf
        split at h
        · split at h
          · rename_i n ver off hb
            injection h with h; subst h
            obtain ⟨hn, b, rfl, hbb⟩ := hx
            exact ⟨.pointer (some ⟨b, off + j.toNat * S.size, none⟩), fun w => by simp [Instr.indexAt, asIntOf, run_underlying hd, Instr.sureAddr, hb, hsz, Addr.add_lit], hn, b, rfl, hbb⟩
          · cases h
        · split at h
          · rename_i cells hb
            injection h with h; subst h
            obtain ⟨b, off, vs, rfl, hvs, hii⟩ := hx
            refine ⟨.pointer (some ⟨b, off + j.toNat * S.size, none⟩), fun w => by simp [Instr.indexAt, asIntOf, run_underlying hd, Instr.sureAddr, hb, hsz, Addr.add_lit], b, _, _, rfl, hvs.drop _, fun i u hu => ?_⟩
            rw [List.getElem?_drop] at hu
            rw [Nat.add_assoc]; exact hii _ _ hu
          · cases h
        · cases h
      · cases h
    · cases h
  · cases h

end
end Go.Ax
