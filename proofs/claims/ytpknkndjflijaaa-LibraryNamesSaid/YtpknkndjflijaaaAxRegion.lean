/- A region whose operations come in the order of the text. -/
import Derived.Test.YtpknkndjflijaaaAxEff4
namespace Go.Ax

section
variable {P : Program} {C : Cfg} {A : Nat → Prop} {I I' : Imm} {σ : ASt} {R : Ren} {w : World} {bases : List Nat} {E : Env} {a : Act}

/-- Where a function was entered. -/
structure Ent where
  nt : Nat
  bases : List Nat
  σ : ASt
  R : Ren
  I : Imm
  w : World

/-- What stands on the way, the temporaries left out. -/
structure Mid (C : Cfg) (A : Nat → Prop) (N : Ent) (σ : ASt) (R : Ren) (I : Imm) (a : Act) (w : World) : Prop where
  rel : WRel C A σ R I w
  barr : Barr N.bases σ
  ext : Ext N.σ N.R N.I σ R I
  frm : Frm A N.w w
  fresh : ∀ b o v, I b o = some v → N.I b o = some v ∨ A b
  nt : a.tmps.size = N.nt
  def0 : a.defers = []

/-- What stands on the way through a function's code. -/
structure Inv (C : Cfg) (A : Nat → Prop) (N : Ent) (E : Env) (σ : ASt) (R : Ren) (I : Imm) (a : Act) (w : World) : Prop extends Mid C A N σ R I a w where
  env : EnvRel C I E σ R a

/-- What is asked where the code is left. -/
def Post (C : Cfg) (A : Nat → Prop) (N : Ent) (Q : Exit → Act → World → Prop) (E : Env) (σ : ASt) : AExit → Prop
  | .normal => ∀ R I a w, Inv C A N E σ R I a w → Q .normal a w
  | .exit i => ∀ R I a w, Inv C A N E σ R I a w → Q (.exit i) a w
  | .ret => ∀ R I a w, Inv C A N E σ R I a w → Q .ret a w
  | .panic v => ∀ R I a w u, Mid C A N σ R I a w → Rel C I v σ R u → Q (.panic [{ v := u, recovered := false }]) a w

variable {N : Ent}

theorem Mid.hA (h : Mid C A N σ R I a w) (hA : ∀ b, N.w.heap.size ≤ b → A b) : ∀ b, w.heap.size ≤ b → A b := fun b hb => hA b (Nat.le_trans h.frm.size hb)

theorem Mid.step (h : Mid C A N σ R I a w) {σ' : ASt} {R' : Ren} {I' : Imm} {w' : World} (s : Stp C A N.bases σ R I w σ' R' I' w') : Mid C A N σ' R' I' a w' :=
  ⟨s.rel, s.barr, h.ext.trans s.ext, h.frm.trans s.frm, fun b o v hb => (s.fresh b o v hb).elim (h.fresh b o v) .inr, h.nt, h.def0⟩

theorem put_size (dst : Option Nat) (u : Value) : (a.put dst u).tmps.size = a.tmps.size := by cases dst <;> simp [Act.put]

theorem put_defers (dst : Option Nat) (u : Value) : (a.put dst u).defers = a.defers := by cases dst <;> rfl

theorem Mid.put (h : Mid C A N σ R I a w) (dst : Option Nat) (u : Value) : Mid C A N σ R I (a.put dst u) w :=
  ⟨h.rel, h.barr, h.ext, h.frm, h.fresh, by rw [put_size]; exact h.nt, by rw [put_defers]; exact h.def0⟩

theorem EnvRel.ext (h : EnvRel C I E σ R a) {σ' : ASt} {R' : Ren} {I' : Imm} (hx : Ext σ R I σ' R' I') : EnvRel C I' E σ' R' a := fun t v ht => (h t v ht).ext hx

theorem put_get {d t : Nat} {u : Value} (hd : d < a.tmps.size) : (a.put (some d) u).tmps.getD t undef = if d = t then u else a.tmps.getD t undef := by
  simp only [Act.put]
  by_cases h : d = t
  · subst h; simp [hd]
  · simp [h, Array.getElem?_setIfInBounds_ne h]

theorem Env.get_cons {d t : Nat} {v : AV} : Env.get ((d, v) :: E) t = if d = t then some v else E.get t := by
  simp only [Env.get]
  by_cases h : d = t
  · subst h; simp [Nat.beq_refl]
  · have hb : Nat.beq d t = false := by
      cases hb : Nat.beq d t with
      | false => rfl
      | true => exact absurd (Nat.eq_of_beq_eq_true hb) h
    simp [h, hb]

theorem EnvRel.put (h : EnvRel C I E σ R a) {o : Oper} {v : AV} {u : Value} {E' : Env} (hs : setDst a.tmps.size o v E = some E') (hv : Rel C I v σ R u) : EnvRel C I E' σ R (a.put o.dst u) := by
  unfold setDst at hs
  split at hs
  · rename_i hd
    injection hs with hs; subst hs
    rw [hd]; exact h
  · rename_i d hd
    split at hs
    · rename_i hlt
      injection hs with hs; subst hs
      intro t x ht
      rw [hd, put_get hlt]
      rw [Env.get_cons] at ht
      split at ht
      · rename_i hdt
        injection ht with ht; subst ht
        rw [if_pos hdt]; exact hv
      · rename_i hdt
        rw [if_neg hdt]; exact h t x ht
    · cases hs

theorem awanted_spec {arr : Array Oper} {o : Oper} {b : Bool} (hE : EnvRel C I E σ R a) (h : awanted arr.toList E o = some b) : Region.wanted o (yielded arr a.tmps) = b := by
  unfold awanted at h
  unfold Region.wanted
  split at h
  · rename_i hg; rw [hg]; injection h with h
  · rename_i j want hg
    rw [hg]
    simp only
    split at h
    · cases h
    · rename_i d hd
      have hd' : (arr[j]?).bind (·.dst) = some d := by
        have : arr.toList[j]? = arr[j]? := by simp
        rw [← this]; exact hd
      unfold yielded
      rw [hd']
      simp only [Option.bind_some]
      split at h
      · rename_i b' hb
        injection h with h; subst h
        have := hE d _ hb
        have h2 : a.tmps.getD d undef = .bool b' := this
        have h3 : a.tmps[d]? = some (.bool b') := by
          rw [Array.getD_eq_getD_getElem?] at h2
          cases h4 : a.tmps[d]? with
          | none => rw [h4] at h2; cases h2
          | some x => rw [h4] at h2; simp at h2; rw [h2]
        rw [h3]
        cases b' <;> cases want <;> rfl
      · rename_i hb
        injection h with h; subst h
        have := hE d _ hb
        have h2 : a.tmps.getD d undef = .tuple #[] := this
        have h3 : a.tmps[d]? = none ∨ a.tmps[d]? = some (.tuple #[]) := by
          rw [Array.getD_eq_getD_getElem?] at h2
          cases h4 : a.tmps[d]? with
          | none => exact .inl rfl
          | some x => rw [h4] at h2; simp at h2; rw [h2]; exact .inr rfl
        rcases h3 with h3 | h3 <;> rw [h3] <;> rfl
      · cases h

theorem aops_wp (hty : ∀ t T, C.ty t = some T → TyOK P t T) {call : ACall} (hcall : CallOK P C call) (hA : ∀ b, N.w.heap.size ≤ b → A b) {arr : Array Oper} {x : AExit} {E' : Env} {σ' : ASt} {Q : Exit → Act → World → Prop} (hQ : Post C A N Q E' σ' x) :
    ∀ (rest : List Oper) (pre : List Oper), arr.toList = pre ++ rest → ∀ (E : Env) (σ : ASt) (R : Ren) (I : Imm) (a : Act) (w : World), Inv C A N E σ R I a w → aops C call N.bases N.nt arr.toList rest E σ = some (x, E', σ') → wpOps P arr Q (List.range' pre.length rest.length) a w
  | [], pre, _, E, σ, R, I, a, w, hi, h => by
    simp only [aops, Option.some.injEq, Prod.mk.injEq] at h
    obtain ⟨rfl, rfl, rfl⟩ := h
    exact hQ R I a w hi
  | o :: rest, pre, hpre, E, σ, R, I, a, w, hi, h => by
    have ho : arr[pre.length]? = some o := by
      have : arr.toList[pre.length]? = some o := by rw [hpre]; simp
      simpa using this
    have hrest : arr.toList = (pre ++ [o]) ++ rest := by rw [hpre]; simp
    have hlen : (pre ++ [o]).length = pre.length + 1 := by simp
    have ih := aops_wp hty hcall hA hQ rest (pre ++ [o]) hrest
    rw [hlen] at ih
    show wpOps P arr Q (List.range' pre.length (rest.length + 1)) a w
    rw [List.range'_succ]
    simp only [wpOps, ho]
    unfold aops at h
    split at h
    · cases h
    · rename_i hw
      rw [awanted_spec hi.env hw]
      simp only [Bool.false_eq_true, if_false]
      split at h
      · rename_i E1 hE1
        rw [← hi.nt] at hE1
        exact ih E1 σ R I _ w { hi.toMid.put o.dst undef with env := hi.env.put hE1 rfl } h
      · cases h
    · rename_i hw
      rw [awanted_spec hi.env hw]
      simp only [if_true]
      refine .inl ?_
      split at h
      · cases h
      · rename_i v σ1 hop
        simp only [Option.some.injEq, Prod.mk.injEq] at h
        obtain ⟨rfl, rfl, rfl⟩ := h
        exact aop_post hty hcall hi.rel hi.barr (hi.toMid.hA hA) hi.env hop _ Q (fun R' I' w' u hs hu => hQ R' I' a w' u (hi.toMid.step hs) hu)
      · rename_i v σ1 hop
        split at h
        · rename_i E1 hE1
          rw [← hi.nt] at hE1
          exact aop_post hty hcall hi.rel hi.barr (hi.toMid.hA hA) hi.env hop _ Q (fun R' I' w' u hs hu =>
            ih E1 σ1 R' I' _ w' { (hi.toMid.step hs).put o.dst u with env := (hi.env.ext hs.ext).put hE1 hu } h)
        · cases h

end
end Go.Ax
