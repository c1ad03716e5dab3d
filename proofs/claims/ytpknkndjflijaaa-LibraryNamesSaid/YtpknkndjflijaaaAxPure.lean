/- Operations that look at their operands alone: what the abstract run answers is what the machine does. -/
import Derived.Test.YtpknkndjflijaaaAxWrite
import Derived.Lib.TrimByte
import Derived.Laws.Cover1
import Derived.Laws.Concat
namespace Go.Ax

structure OKTy (P : Program) (C : Cfg) : Prop where
  ty : ∀ t T, C.ty t = some T → TyOK P t T

def EnvRel (C : Cfg) (I : Imm) (E : Env) (σ : ASt) (R : Ren) (a : Act) : Prop := ∀ t v, E.get t = some v → Rel C I v σ R (a.tmps.getD t undef)

section
variable {P : Program} {C : Cfg} {I : Imm} {σ : ASt} {R : Ren} {E : Env} {a : Act}

theorem eval_rel (hE : EnvRel C I E σ R a) {x : Operand} {v : AV} (h : eval E x = some v) : Rel C I v σ R (a.eval x) := by
  cases x with
  | tmp t => exact hE t v h
  | const u => exact ofValue_rel h
  | global g => cases h
  | func f => simp only [eval, Option.some.injEq] at h; subst h; exact ⟨[], rfl, rfl⟩

theorem evalL_rel (hE : EnvRel C I E σ R a) : ∀ {l : List Operand} {vs : List AV}, evalL E l = some vs → RelL C I vs σ R (l.map a.eval)
  | [], vs, h => by simp only [evalL, Option.some.injEq] at h; subst h; rfl
  | x :: l, vs, h => by
    unfold evalL at h
    split at h
    · rename_i v vs' h1 h2
      injection h with h; subst h
      exact ⟨_, _, rfl, eval_rel hE h1, evalL_rel hE h2⟩
    · cases h

/-- An operation that gives a value and leaves the world alone. -/
def Gives (P : Program) (C : Cfg) (I : Imm) (σ : ASt) (R : Ren) (s : Sem Value) (v : AV) : Prop := ∃ u, (∀ w, s.run P w = .ok u w) ∧ Rel C I v σ R u

theorem abin_gives {op : BinOp} {t : Nat} {x y v : AV} {cx cy : Value} (hx : Rel C I x σ R cx) (hy : Rel C I y σ R cy) (h : abin op x y = some v) :
    Gives P C I σ R (binOp op t cx cy) v ∧ ∀ ox oy, eqGuard op t ox oy cx cy = pure () := by
  unfold abin at h
  split at h
  · rename_i k a k' b
    cases hx; cases hy
    refine ⟨?_, fun ox oy => eqGuard_at_int ..⟩
    split at h
    · split at h
      · cases h
      · rename_i hb
        injection h with h; subst h
        exact ⟨_, fun w => by simp only [binOp_shl, Op.shift, hb, if_false, Sem.run_pure], rfl⟩
    · split at h
      · cases h
      · rename_i hb
        injection h with h; subst h
        exact ⟨_, fun w => by simp only [binOp_shr, Op.shift, hb, if_false, Sem.run_pure], rfl⟩
    all_goals
      split at h
      · rename_i hk
        first
          | (obtain ⟨rfl, hz⟩ := hk; injection h with h; subst h; refine ⟨_, fun w => ?_, rfl⟩; simp [binOp, Op.intDiv, hz]; done)
          | (subst hk; injection h with h; subst h; refine ⟨_, fun w => ?_, rfl⟩; simp [binOp, Op.intArith, Op.intCmp, Op.intBits, bits]; done)
      · cases h
  · rename_i s r
    cases hx; cases hy
    refine ⟨?_, fun ox oy => eqGuard_at_string ..⟩
    split at h
    · split at h
      · rename_i hl
        injection h with h; subst h
        refine ⟨_, fun w => ?_, rfl⟩
        rw [binOp_string_add, run_string_add_sum]
        · congr 2
        · simp only [ByteArray.size, List.size_toArray]; omega
      · cases h
    all_goals first
      | (injection h with h; subst h; refine ⟨_, fun w => ?_, rfl⟩; simp [binOp_string_eql, binOp_string_neq, binOp_string_lss, binOp_string_leq, binOp_string_gtr, binOp_string_geq]; done)
      | cases h
  · cases h

theorem aeql_gives (hty : ∀ t T, C.ty t = some T → TyOK P t T) {t : Nat} {T : ATy} (hT : C.ty t = some T) {ox oy : Operand} {x y : AV} {cx cy : Value} {b : Bool} (hx : Rel C I x σ R cx) (hy : Rel C I y σ R cy) (ex : cx = a.eval ox) (ey : cy = a.eval oy)
    (h : aeql T.k (isCst ox || isCst oy) x y = some b) :
    (∀ d w, (Op.equalIn (d + 1) t cx cy).run P w = .ok b w) ∧ (∀ op, (binOp .eql t cx cy) = (do pure (.bool (← Op.equal t cx cy))) ∧ (binOp .neq t cx cy) = (do pure (.bool (!(← Op.equal t cx cy)))) ∧ eqGuard op t ox oy cx cy = pure ()) := by
  have hd := (hty t T hT).desc.h
  unfold aeql at h
  split at h <;> rename_i hk <;> (try cases h; done) <;> (try rw [hk] at hd) <;> dsimp only at hd
  · cases hx; cases hy; injection h with h; subst h
    exact ⟨fun d w => by simp [Op.equalIn, run_underlying hd], fun op => ⟨rfl, rfl, eqGuard_at_bool ..⟩⟩
  · cases hx; cases hy; injection h with h; subst h
    exact ⟨fun d w => by simp [Op.equalIn, run_underlying hd, Nl.val], fun op => ⟨rfl, rfl, eqGuard_at_pointer ..⟩⟩
  · obtain ⟨_, b, rfl, _⟩ := hx; cases hy; injection h with h; subst h
    exact ⟨fun d w => by simp [Op.equalIn, run_underlying hd, Nl.val], fun op => ⟨rfl, rfl, eqGuard_at_pointer ..⟩⟩
  · obtain ⟨b, _, _, rfl, _⟩ := hx; cases hy; injection h with h; subst h
    exact ⟨fun d w => by simp [Op.equalIn, run_underlying hd, Nl.val], fun op => ⟨rfl, rfl, eqGuard_at_pointer ..⟩⟩
  · cases hx; cases hy; injection h with h; subst h
    exact ⟨fun d w => by simp [Op.equalIn, run_underlying hd, Nl.val], fun op => ⟨rfl, rfl, eqGuard_at_slice ..⟩⟩
  · obtain ⟨_, b, c, rfl, _⟩ := hx; cases hy; injection h with h; subst h
    exact ⟨fun d w => by simp [Op.equalIn, run_underlying hd, Nl.val], fun op => ⟨rfl, rfl, eqGuard_at_slice ..⟩⟩
  · obtain ⟨ad, c, rfl, _, _, hz | ⟨b, off, vs, rfl, _⟩⟩ := hx
    · exact absurd hz.1 (by omega)
    · cases hy; injection h with h; subst h
      exact ⟨fun d w => by simp [Op.equalIn, run_underlying hd, Nl.val], fun op => ⟨rfl, rfl, eqGuard_at_slice ..⟩⟩
  · obtain ⟨vs, rfl, _⟩ := hx; cases hy; injection h with h; subst h
    obtain ⟨ps, rs, vv, hd⟩ := hd
    exact ⟨fun d w => by simp [Op.equalIn, run_underlying hd, Nl.val], fun op => ⟨rfl, rfl, eqGuard_at_func ..⟩⟩
  · cases hx; cases hy; injection h with h; subst h
    obtain ⟨ps, rs, vv, hd⟩ := hd
    exact ⟨fun d w => by simp [Op.equalIn, run_underlying hd, Nl.val], fun op => ⟨rfl, rfl, eqGuard_at_nilFunc ..⟩⟩
  · cases hx; cases hy
    split at h
    · rename_i hc
      injection h with h; subst h
      obtain ⟨ms, hd⟩ := hd
      refine ⟨fun d w => by simp [Op.equalIn, run_underlying hd, Nl.val], fun op => ⟨rfl, rfl, ?_⟩⟩
      cases ox <;> cases oy <;> simp [isCst] at hc <;> first | exact eqGuard_nil_constR .. | exact eqGuard_nil_constL ..
    · cases h
  · obtain ⟨y, rfl, _⟩ := hx; cases hy; injection h with h; subst h
    obtain ⟨ms, hd⟩ := hd
    exact ⟨fun d w => by simp [Op.equalIn, run_underlying hd, Nl.val], fun op => ⟨rfl, rfl, eqGuard_at_iface ..⟩⟩

theorem abinOp_gives (hty : ∀ t T, C.ty t = some T → TyOK P t T) {op : BinOp} {t : Nat} {ox oy : Operand} {x y v : AV} (hx : Rel C I x σ R (a.eval ox)) (hy : Rel C I y σ R (a.eval oy))
    (h : abinOp C op t (isCst ox || isCst oy) x y = some v) : Gives P C I σ R (do eqGuard op t ox oy (a.eval ox) (a.eval oy); binOp op t (a.eval ox) (a.eval oy)) v := by
  unfold abinOp at h
  split at h
  · rename_i v' hv
    injection h with h; subst h
    obtain ⟨⟨u, h1, h2⟩, hg⟩ := abin_gives (P := P) (t := t) hx hy hv
    exact ⟨u, fun w => by rw [hg]; simpa using h1 w, h2⟩
  · split at h
    · cases h
    · rename_i T hT
      split at h
      · rw [Option.map_eq_some_iff] at h
        obtain ⟨b, hb, rfl⟩ := h
        obtain ⟨h0, h2⟩ := aeql_gives (a := a) hty hT hx hy rfl rfl hb
        have h1 : ∀ w, (Op.equal t (a.eval ox) (a.eval oy)).run P w = .ok b w := fun w => h0 9999 w
        exact ⟨.bool b, fun w => by rw [(h2 .eql).2.2, (h2 .eql).1]; simp [h1], rfl⟩
      · rw [Option.map_eq_some_iff] at h
        obtain ⟨b, hb, rfl⟩ := h
        obtain ⟨h0, h2⟩ := aeql_gives (a := a) hty hT hx hy rfl rfl hb
        have h1 : ∀ w, (Op.equal t (a.eval ox) (a.eval oy)).run P w = .ok b w := fun w => h0 9999 w
        exact ⟨.bool (!b), fun w => by rw [(h2 .neq).2.2, (h2 .neq).2.1]; simp [h1], rfl⟩
      · cases h

theorem aun_gives {op : UnOp} {x v : AV} {cx : Value} (hx : Rel C I x σ R cx) (h : aun op x = some v) : Gives P C I σ R (Op.unary op cx) v := by
  unfold aun at h
  split at h
  · cases hx; injection h with h; subst h
    exact ⟨_, fun w => by simp [Op.unary, Op.intArith], rfl⟩
  · cases hx; injection h with h; subst h
    exact ⟨_, fun w => by simp [Op.unary, Op.intBits, bits], rfl⟩
  · cases hx; injection h with h; subst h
    exact ⟨_, fun w => by simp [Op.unary], rfl⟩
  · cases h

theorem TyOK.und {t : Nat} {T : ATy} (h : TyOK P t T) : ∃ d, P.underlying t = some d := by
  have hd := h.desc.h
  cases hk : T.k <;> rw [hk] at hd <;> dsimp only at hd
  case struct => obtain ⟨_, hd, _⟩ := hd; exact ⟨_, hd⟩
  case iface => obtain ⟨_, hd⟩ := hd; exact ⟨_, hd⟩
  case func => obtain ⟨_, _, _, hd⟩ := hd; exact ⟨_, hd⟩
  case other => obtain ⟨_, hd, _⟩ := hd; exact ⟨_, hd⟩
  all_goals exact ⟨_, hd⟩

theorem aconv_gives (hty : ∀ t T, C.ty t = some T → TyOK P t T) {src dst : Nat} {x v : AV} {cx : Value} (hx : Rel C I x σ R cx) (h : aconv C src dst x = some v) : Gives P C I σ R (convert src dst cx) v := by
  unfold aconv at h
  split at h
  · rename_i S D k n hS hD
    split at h
    · rename_i k' hk
      injection h with h; subst h
      cases hx
      have hd := (hty dst D hD).desc.h
      rw [hk] at hd
      obtain ⟨s, hs⟩ := (hty src S hS).und
      exact ⟨_, fun w => by simp [convert, run_underlying hs, run_underlying hd, Conv.intToInt], rfl⟩
    · cases h
  · rename_i S D s hS hD
    split at h
    · rename_i hk
      injection h with h; subst h
      cases hx
      have hd := (hty dst D hD).desc.h
      rw [hk] at hd
      obtain ⟨s', hs⟩ := (hty src S hS).und
      exact ⟨_, fun w => by simp [convert, run_underlying hs, run_underlying hd], rfl⟩
    · cases h
  · cases h

end
end Go.Ax
