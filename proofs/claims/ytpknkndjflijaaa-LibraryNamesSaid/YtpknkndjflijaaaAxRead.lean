/- Operations that read. -/
import Derived.Test.YtpknkndjflijaaaAxPure3
import Derived.Laws.BytesString
import Derived.Laws.StructEq
namespace Go.Ax
section
variable {P : Program} {C : Cfg} {A : Nat → Prop} {I : Imm} {σ : ASt} {R : Ren} {E : Env} {a : Act} {w : World}

theorem Ext.nil (h : ∀ b o v, I b o = some v → I b o = some v) : Ext [] Ren.nil I σ R I :=
  ⟨Nat.zero_le _, h, fun _ _ _ hn => absurd hn (Nat.not_lt_zero _), fun _ _ hn => absurd hn (Nat.not_lt_zero _), fun _ _ _ hn => absurd hn (Nat.not_lt_zero _)⟩

/-- What a slice holds lies in memory. -/
theorem sliceOf_rel (h : WRel C A σ R I w) {e m : Nat} {x : AV} {cells : List AV} {cx : Value} (hx : Rel C I x σ R cx) (hns : ∀ s, x ≠ .str s) (hs : sliceOf C σ e x = some (m, cells)) :
    ∃ ad cap, cx = .slice ad m cap ∧ m ≤ cap ∧ ((m = 0 ∧ cells = []) ∨ ∃ b off us, ad = some ⟨b, off, none⟩ ∧ RelL C I cells σ R us ∧ ∀ i u, us[i]? = some u → w.cell? ⟨b, off + i, none⟩ = some u) := by
  unfold sliceOf at hs
  split at hs
  · injection hs with hs; injection hs with h1 h2; subst h1 h2
    cases hx
    exact ⟨none, 0, rfl, Nat.le_refl _, .inl ⟨rfl, rfl⟩⟩
  · injection hs with hs; injection hs with h1 h2; subst h1 h2
    obtain ⟨ad, cap, rfl, hle, _, hr⟩ := hx
    refine ⟨ad, cap, rfl, hle, hr.imp id ?_⟩
    rintro ⟨b, off, vs, rfl, hvs, hi⟩
    exact ⟨b, off, vs, rfl, hvs.ext (Ext.nil fun _ _ _ h => h), fun i u hu => h.imm _ _ _ (hi i u hu)⟩
  · rename_i n off len sz
    split at hs
    · rename_i e' cs T hn hT
      split at hs
      · rename_i hc
        injection hs with hs; injection hs with h1 h2; subst h1 h2
        obtain ⟨_, b, cap, rfl, hle, hb⟩ := hx
        obtain ⟨rfl, _⟩ := (hb e' cs hn).2 hc.1
        obtain ⟨us, hus, hcell⟩ := h.at_ hn
        refine ⟨_, cap, rfl, hle, .inr ⟨R.b n, off, us.drop off, rfl, hus.drop _, fun i u hu => ?_⟩⟩
        rw [List.getElem?_drop] at hu
        have := hcell _ _ hu
        rwa [Nat.zero_add] at this
      · cases hs
    · cases hs
  · rename_i s
    exact absurd rfl (hns s)
  · cases hs

theorem bytesOf_rel : ∀ {cells : List AV} {bs : List UInt8} {us : List Value}, bytesOf cells = some bs → RelL C I cells σ R us →
    ∃ ns : List Int, us = ns.map (Value.int .u8) ∧ bs = ns.map fun n => UInt8.ofNat n.toNat
  | [], bs, us, h, hr => by
    simp only [bytesOf, Option.some.injEq] at h; subst h
    simp only [RelL] at hr; subst hr
    exact ⟨[], rfl, rfl⟩
  | v :: l, bs, us, h, hr => by
    obtain ⟨u, us', rfl, hu, hr⟩ := hr
    unfold bytesOf at h
    split at h
    · rename_i he; cases he
    · rename_i n l' he
      injection he with h1 h2
      subst h1 h2
      rw [Option.map_eq_some_iff] at h
      obtain ⟨bs', h1, rfl⟩ := h
      cases hu
      obtain ⟨ns, rfl, rfl⟩ := bytesOf_rel h1 hr
      exact ⟨n :: ns, rfl, rfl⟩
    · cases h

theorem foldl_push : ∀ (ns : List Int) (l : List UInt8), ns.foldl (fun r n => r.push (UInt8.ofNat n.toNat)) (⟨l.toArray⟩ : ByteArray) = ⟨(l ++ ns.map fun n => UInt8.ofNat n.toNat).toArray⟩
  | [], l => by simp
  | n :: ns, l => by
    rw [List.foldl_cons]
    have : (ByteArray.mk l.toArray).push (UInt8.ofNat n.toNat) = ⟨(l ++ [UInt8.ofNat n.toNat]).toArray⟩ := by
      simp [ByteArray.push]
    rw [this, foldl_push ns]
    simp

theorem afind_run {kd : TypeDesc} {k : AV} {ck : Value} (hk : Rel C I k σ R ck) (hkd : (∃ q, kd = .int q) ∨ kd = .string) : ∀ {es : List (AV × AV)} {ents : List MapEntry} {r : Option AV} (i : Nat), RelL C I (es.map (·.1)) σ R (ents.map (·.key)) →
    RelL C I (es.map (·.2)) σ R (ents.map (·.val)) → afind k es = some r → (kd = .string → ∃ s, k = .str s) → ((∃ q, kd = .int q) → ∃ q n, k = .int q n) →
    (r = none ∧ Instr.findNow kd ck ents i = some none) ∨ ∃ v j cv, r = some v ∧ Instr.findNow kd ck ents i = some (some (j, cv)) ∧ Rel C I v σ R cv
  | [], ents, r, i, h1, _, h, _, _ => by
    have : ents = [] := by simpa [RelL] using h1
    subst this
    simp only [afind, Option.some.injEq] at h; subst h
    exact .inl ⟨rfl, rfl⟩
  | (k', v) :: es, [], r, i, h1, _, _, _, _ => by
    obtain ⟨u, us, he, _⟩ := h1
    cases he
  | (k', v) :: es, e :: ents, r, i, h1, h2, h, hs, hi => by
    obtain ⟨u, us, he, r1, r1'⟩ := h1
    simp only [List.map_cons, List.cons.injEq] at he
    obtain ⟨rfl, rfl⟩ := he
    obtain ⟨u2, us2, he, r2, r2'⟩ := h2
    simp only [List.map_cons, List.cons.injEq] at he
    obtain ⟨rfl, rfl⟩ := he
    have q1 : Rel C I k' σ R e.key := r1
    have q2 : Rel C I v σ R e.val := r2
    clear r1 r2
    unfold afind at h
    split at h
    · rename_i p x q y
      have e1 : ck = .int p x := hk
      have e2 : e.key = .int q y := q1
      split at h
      · rename_i hpq
        subst hpq
        have hint : ∃ q, kd = .int q := hkd.resolve_right fun hh => by obtain ⟨s, hs⟩ := hs hh; cases hs
        obtain ⟨q', rfl⟩ := hint
        split at h
        · rename_i hxy
          subst hxy
          injection h with h; subst h
          refine .inr ⟨v, i, e.val, rfl, ?_, q2⟩
          simp [Instr.findNow, Instr.sameNow, e1, e2]
        · rename_i hxy
          have := afind_run hk hkd (i + 1) r1' r2' h hs hi
          have hf : Instr.findNow (.int q') ck (e :: ents) i = Instr.findNow (.int q') ck ents (i + 1) := by
            simp [Instr.findNow, Instr.sameNow, e1, e2, (beq_eq_false_iff_ne.2 hxy : (x == y) = false)]
          rw [hf]; exact this
      · cases h
    · rename_i s r'
      have e1 : ck = .string ⟨s.toArray⟩ := hk
      have e2 : e.key = .string ⟨r'.toArray⟩ := q1
      have hstr : kd = .string := hkd.resolve_left fun hh => by obtain ⟨q, n, hs⟩ := hi hh; cases hs
      subst hstr
      split at h
      · rename_i hxy
        subst hxy
        injection h with h; subst h
        refine .inr ⟨v, i, e.val, rfl, ?_, q2⟩
        simp [Instr.findNow, Instr.sameNow, e1, e2, beq_toListBytes]
      · rename_i hxy
        have := afind_run hk hkd (i + 1) r1' r2' h hs hi
        have hne : ((ByteArray.mk s.toArray) == (ByteArray.mk r'.toArray)) = false := by
          rw [beq_toListBytes, ByteArray.toList_mk, ByteArray.toList_mk, beq_eq_false_iff_ne]
          exact hxy
        have hf : Instr.findNow .string ck (e :: ents) i = Instr.findNow .string ck ents (i + 1) := by
          simp [Instr.findNow, Instr.sameNow, e1, e2, hne]
        rw [hf]; exact this
    · cases h

theorem keyTy_spec (hty : ∀ t T, C.ty t = some T → TyOK P t T) {t : Nat} {k : AV} (h : keyTy C t k = true) : ∃ kd, P.underlying t = some kd ∧ ((∃ q, kd = .int q) ∨ kd = .string) ∧
    (kd = .string → ∃ s, k = .str s) ∧ ((∃ q, kd = .int q) → ∃ q n, k = .int q n) := by
  unfold keyTy at h
  split at h
  · rename_i K hK
    have hd := (hty t K hK).desc.h
    split at h
    · rename_i q q' n hk; rw [hk] at hd; exact ⟨_, hd, .inl ⟨q, rfl⟩, fun h => (by cases h), fun _ => ⟨_, _, rfl⟩⟩
    · rename_i s hk; rw [hk] at hd; exact ⟨_, hd, .inr rfl, fun _ => ⟨_, rfl⟩, fun ⟨q, h⟩ => (by cases h)⟩
    · cases h
  · cases h

theorem aread_gives (hty : ∀ t T, C.ty t = some T → TyOK P t T) (h : WRel C A σ R I w) (hE : EnvRel C I E σ R a) {o : Oper} {v : AV} (hr : aread C σ E o.op = some v) :
    ∃ u, (execOp a.eval o).run P w = .ok (.value u) w ∧ Rel C I v σ R u := by
  obtain ⟨dst, op, ty, pos, after, guard⟩ := o
  dsimp only at hr
  unfold aread at hr
  split at hr
  · split at hr
    · rename_i x hx
      obtain ⟨u, h1, h2⟩ := run_loadAt hty h (eval_rel hE hx) hr
      exact ⟨u, by simp only [execOp, Sem.run_bind, h1, Result.andThen_ok, Sem.run_pure], h2⟩
    · cases hr
  · split at hr
    · rename_i t m k _ _ x y hx hy
      unfold alookup at hr
      split at hr
      · rename_i T n hT
        have hd := (hty t T hT).desc.h
        split at hr
        · rename_i kt e es hk hn
          rw [hk] at hd
          split at hr
          · rename_i hkt
            obtain ⟨kd, hkd, hkk, hs1, hs2⟩ := keyTy_spec hty hkt
            obtain ⟨_, b, hxb, hb⟩ := eval_rel hE hx
            obtain rfl := hb es hn
            obtain ⟨ents, clock, hh, hks, hvs⟩ := h.map n es hn
            have hyr := eval_rel hE hy
            have hget : (getObj (R.b n)).run P w = .ok (.map ents clock) w := by simp [getObj, Sem.run, hh]
            have hck : ∀ b', (Instr.checkKey b' 10000 kt (a.eval k)).run P w = .ok () w := by
              intro b'
              show (Instr.checkKey b' (9999 + 1) kt (a.eval k)).run P w = _
              unfold Instr.checkKey
              rcases hkk with ⟨q, rfl⟩ | rfl
              · simp [run_underlying hkd]
              · simp [run_underlying hkd]
            split at hr
            · rename_i S v' hS hf
              injection hr with hr; subst hr
              rcases afind_run hyr hkk 0 hks hvs hf hs1 hs2 with ⟨hh1, _⟩ | ⟨v2, j, cv, he, hfn, hrel⟩
              · cases hh1
              · injection he with he; subst he
                refine ⟨cv, ?_, hrel⟩
                simp only [execOp, hxb]
                simp [Instr.lookup, run_underlying hd, hget, hck, Instr.findKey, run_underlying hkd, hfn]
            · rename_i S hS hf
              rcases afind_run hyr hkk 0 hks hvs hf hs1 hs2 with ⟨_, hfn⟩ | ⟨v2, j, cv, he, _⟩
              · split at hr
                · cases hr
                · rename_i hagg
                  obtain ⟨i, z, hi, hs, hb, hz, hm, hzl, _, hzo⟩ := (hty e S hS).info
                  have hzo := hzo (by simpa using hagg)
                  have hzc : z.cells = #[z] := by cases z <;> first | rfl | cases hzo
                  have hzr := mapM_ofValue (C := C) (I := I) (σ := σ) (R := R) hm
                  rw [hzc] at hzr
                  obtain ⟨u, hu, hur⟩ := hzr.get hr
                  simp at hu
                  obtain ⟨_, rfl⟩ := hu
                  refine ⟨z, ?_, hur⟩
                  have hzv : (zeroValue e).run P w = .ok z w := by simp [zeroValue, Go.typeInfo, hi, hz]
                  simp only [execOp, hxb]
                  simp [Instr.lookup, run_underlying hd, hget, hck, Instr.findKey, run_underlying hkd, hfn, hzv]
              · cases he
            · cases hr
          · cases hr
        · cases hr
      · cases hr
    · cases hr
  · split at hr
    · rename_i src dst x _ _ _ u S D hx hS hD
      have hsd := (hty src S hS).desc.h
      have hdd := (hty dst D hD).desc.h
      split at hr
      · rename_i e hk1 hk2
        rw [hk1] at hsd
        rw [hk2] at hdd
        split at hr
        · rename_i B hB
          have hbd := (hty e B hB).desc.h
          split at hr
          · rename_i m cells hk3 hs
            rw [hk3] at hbd
            split at hr
            · cases hr
            · rename_i hns
              split at hr
              · rename_i hlen
                rw [Option.map_eq_some_iff] at hr
                obtain ⟨bs, hbs, rfl⟩ := hr
                have hns' : ∀ s, u ≠ .str s := fun s he => hns s he
                obtain ⟨ad, cap, hc, _, hz | ⟨b, off, us, rfl, hus, hcell⟩⟩ := sliceOf_rel h (eval_rel hE hx) hns' hs
                · obtain ⟨rfl, rfl⟩ := hz
                  simp only [bytesOf, Option.some.injEq] at hbs; subst hbs
                  refine ⟨.string ⟨#[]⟩, ?_, rfl⟩
                  have hrun : (Conv.bytesToString (.slice ad 0 cap)).run P w = .ok (.string ⟨#[]⟩) w := by
                    cases ad with
                    | none => rfl
                    | some ad => exact run_bytesToString w ad 0 cap [] rfl
                  simp only [execOp, Sem.run_bind, hc, (run_convert_bytes_string w src dst e ad 0 cap hsd hbd hdd).trans hrun, Result.andThen_ok, Sem.run_pure]
                · obtain ⟨ns, rfl, rfl⟩ := bytesOf_rel hbs hus
                  have hl := hus.length
                  have hlc := run_loadCells_lit P w b off (ns.map (Value.int .u8)) hcell
                  rw [hl, hlen] at hlc
                  have hrun := run_bytesToString w ⟨b, off, none⟩ m cap ns hlc
                  have hrun2 := (run_convert_bytes_string w src dst e (some ⟨b, off, none⟩) m cap hsd hbd hdd).trans hrun
                  refine ⟨_, ?_, rfl⟩
                  simp only [execOp, Sem.run_bind, hc, hrun2, Result.andThen_ok, Sem.run_pure]
                  congr 3
                  have := foldl_push ns []
                  rw [List.nil_append] at this
                  exact this
              · cases hr
          · cases hr
        · cases hr
      · cases hr
    · cases hr
  · cases hr

end
end Go.Ax
