/- Operations that act. -/
import Derived.Test.YtpknkndjflijaaaAxAppend
namespace Go.Ax

section
variable {P : Program} {C : Cfg} {A : Nat → Prop} {I I' : Imm} {σ : ASt} {R : Ren} {w : World} {bases : List Nat} {E : Env} {a : Act}

/-! ### What is handed on as never written again -/

def Covers (C : Cfg) (σ : ASt) (R : Ren) (I I' : Imm) (fb : Nat) : Prop := ∀ n e cs, fb ≤ n → σ[n]? = some (.cells e cs) → ∃ us, RelL C I cs σ R us ∧ ∀ i u, us[i]? = some u → I' (R.b n) i = some u

theorem Ext.imms (h : ∀ b o v, I b o = some v → I' b o = some v) : Ext σ R I σ R I' :=
  ⟨Nat.le_refl _, h, fun _ _ cs' _ h => ⟨cs', h, .inl ⟨rfl, rfl, rfl⟩⟩, fun _ es' _ h => ⟨es', h, rfl⟩, fun _ s p' _ h => ⟨s, p', h, rfl⟩⟩

theorem Rel.tree_false {len : Nat} {cells : List AV} {full : Bool} {u : Value} {σ' : ASt} {R' : Ren} (h : Rel C I (.tree len cells full) σ R u) : Rel C I (.tree len cells false) σ' R' u := by
  obtain ⟨a, cap, rfl, hle, _, hr⟩ := h
  exact ⟨a, cap, rfl, hle, by simp, hr⟩

theorem frz_rel (hI : ∀ b o v, I b o = some v → I' b o = some v) {fb : Nat} (hc : Covers C σ R I I' fb) : ∀ (k : Nat),
    (∀ (v v' : AV) (u : Value), Rel C I v σ R u → frz C σ fb k v = some v' → Rel C I' v' [] Ren.nil u) ∧
    (∀ (vs vs' : List AV) (us : List Value), RelL C I vs σ R us → frzL C σ fb k vs = some vs' → RelL C I' vs' [] Ren.nil us)
  | 0 => ⟨fun _ _ _ _ h => by simp [frz] at h, fun _ _ _ _ h => by simp [frzL] at h⟩
  | k + 1 => by
    obtain ⟨ih1, ih2⟩ := frz_rel hI hc k
    refine ⟨fun v v' u hr h => ?_, fun vs vs' us hr h => ?_⟩
    · unfold frz at h
      split at h
      · rename_i n off len sz
        split at h
        · cases h
        · rename_i hfb
          split at h
          · rename_i e cs hn
            split at h
            · rename_i hlen
              rw [Option.map_eq_some_iff] at h
              obtain ⟨l, hl, rfl⟩ := h
              obtain ⟨_, b, cap, rfl, hle, hb⟩ := hr
              obtain ⟨rfl, _⟩ := (hb e cs hn).2 hlen
              obtain ⟨us, hus, hcell⟩ := hc n e cs (by omega) hn
              refine ⟨_, cap, rfl, hle, by simp, .inr ⟨R.b n, off, us.drop off, rfl, ih2 _ _ _ (hus.drop off) hl, fun i u hu => ?_⟩⟩
              rw [List.getElem?_drop] at hu
              exact hcell _ _ hu
            · cases h
          · cases h
      · injection h with h; subst h
        cases hr
        exact ⟨none, 0, rfl, Nat.le_refl _, by simp, .inl ⟨rfl, rfl⟩⟩
      · injection h with h; subst h
        exact (hr.ext (Ext.imms hI)).tree_false
      · rw [Option.map_eq_some_iff] at h
        obtain ⟨l, hl, rfl⟩ := h
        obtain ⟨us, rfl, hus⟩ := hr
        exact ⟨us, rfl, ih2 _ _ _ hus hl⟩
      · rw [Option.map_eq_some_iff] at h
        obtain ⟨l, hl, rfl⟩ := h
        obtain ⟨us, rfl, hus⟩ := hr
        exact ⟨us, rfl, ih2 _ _ _ hus hl⟩
      · rw [Option.map_eq_some_iff] at h
        obtain ⟨l, hl, rfl⟩ := h
        obtain ⟨y, rfl, hy⟩ := hr
        exact ⟨y, rfl, ih1 _ _ _ hy hl⟩
      · injection h with h; subst h; exact hr
      · injection h with h; subst h; exact hr
      · injection h with h; subst h; exact hr
      · injection h with h; subst h; exact hr
      · injection h with h; subst h
        have := hr.ext (Ext.imms (σ := σ) (R := R) hI)
        exact this
      · injection h with h; subst h
        obtain ⟨us, rfl, hus⟩ := hr
        simp only [RelL] at hus; subst hus
        exact ⟨[], rfl, rfl⟩
      · cases h
    · unfold frzL at h
      split at h
      · injection h with h; subst h; exact hr
      · rename_i v l
        split at h
        · rename_i x xs h1 h2
          injection h with h; subst h
          obtain ⟨u, us', rfl, hr1, hr2⟩ := hr
          exact ⟨u, us', rfl, ih1 _ _ _ hr1 h1, ih2 _ _ _ hr2 h2⟩
        · cases h

/-! ### New objects -/

theorem WRel.immPush (h : WRel C A σ R I w) (e : Nat) (c : Array Value) (hI : I' = fun b o => if b = w.heap.size then c[o]? else I b o) : WRel C A σ R I' (w.alloc (.cells c e)) ∧ ∀ b o v, I b o = some v → I' b o = some v := by
  have hmono : ∀ b o v, I b o = some v → I' b o = some v := fun b o v hb => by
    subst hI
    have := h.immlt hb
    simp only
    rw [if_neg (by omega)]; exact hb
  have hx : Ext σ R I σ R I' := Ext.imms hmono
  have ho : ∀ n, live σ n → (w.alloc (.cells c e)).heap[R.b n]? = w.heap[R.b n]? := fun n hl => Go.RowKit.Below.heap_alloc w _ _ (h.lt hl)
  have hself : (w.alloc (.cells c e)).heap[w.heap.size]? = some (.cells c e (0, 0)) := by
    show (w.heap.push _)[w.heap.size]? = _
    simp
  refine ⟨⟨h.inj, h.al, fun n e' cs hn => ?_, fun n es hn => ?_, fun n s p hn => ?_, fun b o v hb => ?_, fun b o v n hb hl => ?_⟩, hmono⟩
  · obtain ⟨c', h1, h2, h3, h4, h5⟩ := h.cells n e' cs hn
    exact ⟨c', by rw [ho n ⟨_, hn, by simp⟩]; exact h1, h2, h3, h4.ext hx, h5⟩
  · obtain ⟨c', d, h1, h2, h3⟩ := h.map n es hn
    exact ⟨c', d, by rw [ho n ⟨_, hn, by simp⟩]; exact h1, h2.ext hx, h3.ext hx⟩
  · rw [ho n ⟨_, hn, by simp⟩]; exact h.iter n s p hn
  · subst hI
    simp only at hb
    split at hb
    · rename_i hbs
      subst hbs
      simp only [World.cell?, hself]
      simpa using hb
    · rw [World.cell?_of_block (w := w) (Go.RowKit.Below.heap_alloc w _ b (h.immlt hb))]; exact h.imm b o v hb
  · subst hI
    simp only at hb
    split at hb
    · rename_i hbs; have := h.lt hl; omega
    · exact h.sep b o v n hb hl

theorem WRel.pushObj (h : WRel C A σ R I w) (hA : ∀ b, w.heap.size ≤ b → A b) (r : ARow) (o : Obj) (hr : (∃ c, r = .map [] ∧ o = .map #[] c) ∨ ∃ s p, r = .iter s p ∧ o = .stringIter ⟨s.toArray⟩ p) :
    WRel C A (σ ++ [r]) (R.set σ.length w.heap.size 0) I (w.alloc o) := by
  have hself : (w.alloc o).heap[w.heap.size]? = some o := by
    show (w.heap.push _)[w.heap.size]? = _
    simp
  refine h.upd σ.length (Ext.push ..) (fun m hm => ?_) (fun m hm => by simp [Ren.set, hm]) (.inr (by simp [Ren.set])) (by simp only [Ren.set, if_true]; exact hA _ (Nat.le_refl _)) (fun b hb hlt => Go.RowKit.Below.heap_alloc w _ b hlt) (fun e' cs' hc => ?_) (fun es hc => ?_) (fun s p hc => ?_)
  · by_cases hlt : m < σ.length
    · exact List.getElem?_append_left hlt
    · rw [List.getElem?_eq_none (by simp; omega), List.getElem?_eq_none (by omega)]
  · simp at hc
    rcases hr with ⟨c, rfl, rfl⟩ | ⟨s, p, rfl, rfl⟩ <;> cases hc
  · simp at hc
    rcases hr with ⟨c, rfl, rfl⟩ | ⟨s, p, rfl, rfl⟩
    · cases hc
      exact ⟨#[], c, by simp only [Ren.set, if_true]; exact hself, rfl, rfl⟩
    · cases hc
  · simp at hc
    rcases hr with ⟨c, rfl, rfl⟩ | ⟨s', p', rfl, rfl⟩
    · cases hc
    · cases hc
      simp only [Ren.set, if_true]; exact hself

/-- What an operation must show. -/
def OpPost (P : Program) (C : Cfg) (A : Nat → Prop) (bases : List Nat) (σ : ASt) (R : Ren) (I : Imm) (w : World) (a : Act) (o : Oper) : OR → Prop
  | .val v σ' => ∀ (next : Act → World → Prop) (Q : Exit → Act → World → Prop), (∀ R' I' w' u, Stp C A bases σ R I w σ' R' I' w' → Rel C I' v σ' R' u → next (a.put o.dst u) w') → o.wp P a w next Q
  | .panic v σ' => ∀ (next : Act → World → Prop) (Q : Exit → Act → World → Prop), (∀ R' I' w' u, Stp C A bases σ R I w σ' R' I' w' → Rel C I' v σ' R' u → Q (.panic [{ v := u, recovered := false }]) a w') → o.wp P a w next Q

theorem OpPost.value {o : Oper} {v : AV} {σ' : ASt} {R' : Ren} {I' : Imm} {w' : World} {u : Value} (hr : (execOp a.eval o).run P w = .ok (.value u) w') (hs : Stp C A bases σ R I w σ' R' I' w') (hv : Rel C I' v σ' R' u) :
    OpPost P C A bases σ R I w a o (.val v σ') := fun next Q h => by
  unfold Oper.wp
  rw [hr]
  exact h R' I' w' u hs hv

theorem OpPost.skip {o : Oper} {σ' : ASt} {R' : Ren} {I' : Imm} {w' : World} (hr : (execOp a.eval o).run P w = .ok .skip w') (hs : Stp C A bases σ R I w σ' R' I' w') :
    OpPost P C A bases σ R I w a o (.val (.nil .undef) σ') := fun next Q h => by
  unfold Oper.wp
  rw [hr]
  exact h R' I' w' undef hs rfl

def ERel (C : Cfg) (I : Imm) : AEnd → ASt → Ren → Ending → Prop
  | .ret v, σ, R, .returned u => Rel C I v σ R u
  | .panic v, σ, R, .panicked chain => ∃ u, chain = [{ v := u, recovered := false }] ∧ Rel C I v σ R u
  | _, _, _, _ => False

/-- What a call must show. -/
def CallOK (P : Program) (C : Cfg) (call : ACall) : Prop := ∀ bases f args σ e σ', call bases f args σ = some (e, σ') → ∀ A R I w cargs, WRel C A σ R I w → Barr bases σ → RelL C I args σ R cargs → (∀ b, w.heap.size ≤ b → A b) →
  (∃ fn, P.funcs[f]? = some fn ∧ fn.body.isSome = true ∧ (fn.name == "runtime.NumGoroutine") = false) ∧
  Calls P f cargs.toArray w (fun ce w' => ∃ R' I', Stp C A bases σ R I w σ' R' I' w' ∧ ERel C I' e σ' R' ce)

theorem callFunc_enters {f : Nat} {fn : Func} (hf : P.funcs[f]? = some fn) (hb : fn.body.isSome = true) (hn : (fn.name == "runtime.NumGoroutine") = false) (args : Array Value) (w : World) : (callFunc f args).run P w = .ok (.enter f args) w := by
  have hb' : fn.body.isNone = false := by cases h : fn.body <;> simp_all
  have hn' : ¬ fn.name = "runtime.NumGoroutine" := by simpa using hn
  have hb2 : ¬ fn.body = none := by cases h : fn.body <;> simp_all
  simp [callFunc, hf, hn', hb2]

end
end Go.Ax
