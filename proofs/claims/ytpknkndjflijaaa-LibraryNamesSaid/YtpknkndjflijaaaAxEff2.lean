/- Operations that act: what each must show. -/
import Derived.Test.YtpknkndjflijaaaAxEff
import Derived.Laws.RangeAny
namespace Go.Ax

section
variable {P : Program} {C : Cfg} {A : Nat → Prop} {I I' : Imm} {σ : ASt} {R : Ren} {w : World} {bases : List Nat} {E : Env} {a : Act}

theorem Barr.setRow (h : Barr bases σ) {n : Nat} {r' : ARow} (hb : ∀ b ∈ bases, n < b → rowUnder b r' = true) : Barr bases (σ.set n r') := fun b hbm => by
  obtain ⟨h1, h2⟩ := h b hbm
  refine ⟨by simpa using h1, fun m r hm hr => ?_⟩
  rw [List.getElem?_set] at hr
  split at hr
  · rename_i hnm
    subst hnm
    split at hr
    · injection hr with hr; subst hr; exact hb b hbm hm
    · cases hr
  · exact h2 m r hm hr

theorem Ext.setMap {n : Nat} {es es' : List (AV × AV)} (hn : σ[n]? = some (.map es)) : Ext σ R I (σ.set n (.map es')) R I := by
  have hlt : n < σ.length := (List.getElem?_eq_some_iff.1 hn).1
  refine ⟨by simp, fun _ _ _ h => h, fun m e2 cs2 hm hc => ?_, fun m es hm hc => ?_, fun m s p hm hc => ?_⟩ <;> rw [List.getElem?_set] at hc <;> split at hc
  · rename_i hnm
    subst hnm
    cases hc
  · exact ⟨cs2, hc, .inl ⟨rfl, rfl, rfl⟩⟩
  · rename_i hnm
    subst hnm
    exact ⟨_, hn, rfl⟩
  · exact ⟨es, hc, rfl⟩
  · rename_i hnm
    subst hnm
    cases hc
  · exact ⟨s, p, hc, rfl⟩

theorem Ext.setIter {n : Nat} {s : List UInt8} {p p' : Nat} (hn : σ[n]? = some (.iter s p)) : Ext σ R I (σ.set n (.iter s p')) R I := by
  have hlt : n < σ.length := (List.getElem?_eq_some_iff.1 hn).1
  refine ⟨by simp, fun _ _ _ h => h, fun m e2 cs2 hm hc => ?_, fun m es hm hc => ?_, fun m s2 p2 hm hc => ?_⟩ <;> rw [List.getElem?_set] at hc <;> split at hc
  · rename_i hnm
    subst hnm
    cases hc
  · exact ⟨cs2, hc, .inl ⟨rfl, rfl, rfl⟩⟩
  · rename_i hnm
    subst hnm
    cases hc
  · exact ⟨es, hc, rfl⟩
  · rename_i hnm
    subst hnm
    simp only [hlt, if_true, Option.some.injEq, ARow.iter.injEq] at hc
    obtain ⟨rfl, rfl⟩ := hc
    exact ⟨_, _, hn, rfl⟩
  · exact ⟨s2, p2, hc, rfl⟩

/-- A new variable. -/
theorem newVar_post {o : Oper} (h : WRel C A σ R I w) (hb : Barr bases σ) (hA : ∀ b, w.heap.size ≤ b → A b) {t : Nat} {cs : List AV} {u : Value} (hl : RelL C I cs σ R u.cells.toList) (h1 : cs.all AV.one = true)
    (hr : (execOp a.eval o).run P w = .ok (.value (.pointer (some ⟨w.heap.size, 0, none⟩))) (w.alloc (.cells u.cells t))) :
    OpPost P C A bases σ R I w a o (.val (.ptr σ.length cs.length 0) (σ ++ [.cells t cs])) := by
  have hlen : u.cells.size = cs.length := by rw [← Array.length_toList, hl.length]
  have hp := h.push hA t cs u.cells (by rw [List.take_of_length_le (by rw [Array.length_toList]; omega)]; exact hl) (by omega) h1
  refine .value (R' := R.set σ.length w.heap.size u.cells.size) (I' := I) hr ⟨hp, hb.push _, Ext.push .., Frm.alloc w hA _, fun _ _ _ h => .inl h⟩ ?_
  refine ⟨by simp, w.heap.size, rfl, fun e' cs' hc => ?_⟩
  simp at hc
  obtain ⟨rfl, rfl⟩ := hc
  exact ⟨Nat.le_refl _, fun _ => by simp [Ren.set]⟩

theorem zeros_rel {σ' : ASt} {R' : Ren} {zs : List AV} {z : Array Value} (hz : RelL C I zs σ' R' z.toList) (n : Nat) (hpos : n = 0 ∨ 0 < zs.length) :
    RelL C I ((List.range n).map fun j => zs.getD (j % zs.length) (.nil .undef)) σ' R' ((Array.range n).map (fun i => z[i % z.size]!)).toList := by
  have hl := hz.length
  rw [Array.length_toList] at hl
  refine RelL.of_get (by simp) (fun i v u hv hu => ?_)
  have hi : i < n := by
    have := (List.getElem?_eq_some_iff.1 hv).1
    simpa using this
  have hpos : 0 < zs.length := hpos.resolve_left (by omega)
  have hm : i % zs.length < zs.length := Nat.mod_lt _ hpos
  simp [hi] at hv hu
  obtain ⟨u', h1, h2⟩ := hz.get (i := i % zs.length) (v := zs[i % zs.length]) (by simp [hm])
  rw [List.getElem?_eq_getElem hm] at hv
  simp only [Option.getD_some] at hv
  subst hv
  have : u' = u := by
    rw [← hu, hl]
    have : z[i % zs.length]? = some u' := by simpa using h1
    simp [getElem!_def, this]
  exact this ▸ h2

theorem underL_map_fst {m : Nat} {es : List (AV × AV)} {k v : AV} (h : rowUnder m (.map es) = true) (hk : k.under m = true) (hv : v.under m = true) : rowUnder m (.map (es ++ [(k, v)])) = true := by
  simp only [rowUnder, Bool.and_eq_true, underL_mem] at *
  refine ⟨fun x hx => ?_, fun x hx => ?_⟩
  · rw [List.map_append, List.mem_append] at hx
    rcases hx with hx | hx
    · exact h.1 x hx
    · simp at hx; subst hx; exact hk
  · rw [List.map_append, List.mem_append] at hx
    rcases hx with hx | hx
    · exact h.2 x hx
    · simp at hx; subst hx; exact hv

theorem insert_post {o : Oper} (hty : ∀ t T, C.ty t = some T → TyOK P t T) (h : WRel C A σ R I w) (hb : Barr bases σ) {t n : Nat} {T : ATy} {kt e : Nat} {es : List (AV × AV)} {kv v : AV} {ck cv cm : Value}
    (hT : C.ty t = some T) (hk : T.k = .map kt e) (hn : σ[n]? = some (.map es)) (hf : afind kv es = some none) (hkey : keyTy C kt kv = true) (hbar : barrier bases n [v] = true)
    (hm : Rel C I (.map n) σ R cm) (hkr : Rel C I kv σ R ck) (hvr : Rel C I v σ R cv) (hku : ∀ m, kv.under m = true)
    (he : execOp a.eval o = (do (Instr.mapUpdate t cm ck cv); pure .skip)) : OpPost P C A bases σ R I w a o (.val (.nil .undef) (σ.set n (.map (es ++ [(kv, v)])))) := by
  have hd := (hty t T hT).desc.h
  rw [hk] at hd
  obtain ⟨kd, hkd, hkk, hs1, hs2⟩ := keyTy_spec hty hkey
  obtain ⟨hlt, b, rfl, hbb⟩ := hm
  obtain rfl := hbb es hn
  obtain ⟨ents, clock, hh, hks, hvs⟩ := h.map n es hn
  have hlive : live σ n := ⟨_, hn, by simp⟩
  have hget : (getObj (R.b n)).run P w = .ok (.map ents clock) w := by simp [getObj, Sem.run, hh]
  have hck : (Instr.checkKey false 10000 kt ck).run P w = .ok () w := by
    show (Instr.checkKey false (9999 + 1) kt ck).run P w = _
    unfold Instr.checkKey
    rcases hkk with ⟨q, rfl⟩ | rfl
    · simp [run_underlying hkd]
    · simp [run_underlying hkd]
  rcases afind_run hkr hkk 0 hks hvs hf hs1 hs2 with ⟨_, hfn⟩ | ⟨v2, j, cv2, hx, _⟩
  · have hlt2 : R.b n < w.heap.size := h.lt hlive
    have hrun : (execOp a.eval o).run P w = .ok .skip { w with heap := w.heap.setIfInBounds (R.b n) (.map (ents.push { key := ck, val := cv, born := clock }) (clock + 1)) } := by
      rw [he]
      simp [Instr.mapUpdate, run_underlying hd, hget, hck, Instr.findKey, run_underlying hkd, hfn, setObj, Sem.run, hh]
    have hx := Ext.setMap (R := R) (I := I) (es' := es ++ [(kv, v)]) hn
    refine .skip (R' := R) (I' := I) hrun ⟨?_, hb.setRow fun b hbm hnb => ?_, hx, ⟨rfl, rfl, rfl, by simp, fun b hb' => ?_⟩, fun _ _ _ h => .inl h⟩
    · refine h.upd n hx (fun m hm => by rw [List.getElem?_set_ne (Ne.symm hm)]) (fun m hm => ⟨rfl, rfl⟩) (.inl ⟨hlive, rfl⟩) (h.al n hlive) (fun b hb _ => ?_) (fun e2 cs2 hc => ?_) (fun es2 hc => ?_) (fun s p hc => ?_)
      · simp [Array.getElem?_setIfInBounds_ne (Ne.symm hb)]
      · rw [List.getElem?_set_self hlt] at hc; cases hc
      · rw [List.getElem?_set_self hlt] at hc
        injection hc with hc; injection hc with hc; subst hc
        refine ⟨ents.push { key := ck, val := cv, born := clock }, clock + 1, by simp [hlt2], ?_, ?_⟩
        · rw [List.map_append, Array.toList_push, List.map_append]
          exact (hks.ext hx).append ⟨ck, [], rfl, hkr.ext hx, rfl⟩
        · rw [List.map_append, Array.toList_push, List.map_append]
          exact (hvs.ext hx).append ⟨cv, [], rfl, hvr.ext hx, rfl⟩
      · rw [List.getElem?_set_self hlt] at hc; cases hc
    · refine underL_map_fst ((hb b hbm).2 n _ hnb hn) (hku b) ?_
      have := barrier_spec hbar b hbm hnb
      simpa [underL] using this
    · have : b ≠ R.b n := fun hh => hb' (hh ▸ h.al n hlive)
      simp [Array.getElem?_setIfInBounds_ne (Ne.symm this)]
  · cases hx

end
end Go.Ax
