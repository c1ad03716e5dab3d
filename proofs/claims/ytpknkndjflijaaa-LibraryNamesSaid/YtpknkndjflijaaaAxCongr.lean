/- An operation looks at its operands alone. -/
import Derived.Test.YtpknkndjflijaaaAxRegion
namespace Go.Ax

section
variable {C : Cfg} {σ : ASt} {bases : List Nat} {E E' : Env}

theorem evalL_congr : ∀ {l : List Operand}, (∀ x ∈ l, eval E x = eval E' x) → evalL E l = evalL E' l
  | [], _ => rfl
  | o :: l, h => by
    unfold evalL
    rw [h o (List.mem_cons_self ..), evalL_congr fun x hx => h x (List.mem_cons_of_mem _ hx)]

theorem evalP_congr : ∀ {l : List (Nat × Operand)}, (∀ x ∈ l.map (·.2), eval E x = eval E' x) → evalP E l = evalP E' l
  | [], _ => rfl
  | (i, o) :: l, h => by
    unfold evalP
    rw [h o (by simp), evalP_congr fun x hx => h x (List.mem_cons_of_mem _ hx)]

theorem optEval_congr {x : Option Operand} (h : ∀ y, x = some y → eval E y = eval E' y) : optEval E x = optEval E' x := by
  cases x with
  | none => rfl
  | some y => simp only [optEval]; rw [h y rfl]

theorem call_congr (c : Call) (h : ∀ x ∈ c.operands, eval E x = eval E' x) : evalL E c.args.toList = evalL E' c.args.toList ∧ ∀ g, c.callee = .value g → eval E g = eval E' g := by
  refine ⟨evalL_congr fun x hx => h x (by simp [Call.operands, Array.mem_toList_iff.1 hx]), fun g hg => h g (by simp [Call.operands, hg])⟩

theorem apure_congr {op : Op} (h : ∀ x ∈ op.operands, eval E x = eval E' x) : apure C E op = apure C E' op := by
  cases op <;> simp only [Op.operands] at h
  case build t ps =>
    have := evalP_congr (E := E) (E' := E') (l := ps.toList) (fun x hx => h x (by simpa using hx))
    simp only [apure, this]
  case makeFunc fn first captured =>
    cases fn <;> try rfl
    have := evalL_congr (E := E) (E' := E') (l := captured.toList) (fun x hx => h x (by simp [Array.mem_toList_iff.1 hx]))
    simp only [apure, this]
  case call c =>
    obtain ⟨h1, h2⟩ := call_congr c h
    simp only [apure, h1]
    split
    · split
      · rename_i x t hx ht
        have : eval E x = eval E' x := h x (by
          have : x ∈ c.args.toList := by rw [hx]; simp
          simp [Call.operands, Array.mem_toList_iff.1 this])
        rw [this]
      · rfl
    · rfl
    · rfl
    · rfl
  case slice t x lo hi mx =>
    have h1 : eval E x = eval E' x := h x (by simp)
    have h2 : optEval E lo = optEval E' lo := optEval_congr fun y hy => h y (by subst hy; simp)
    have h3 : optEval E hi = optEval E' hi := optEval_congr fun y hy => h y (by subst hy; simp)
    cases mx <;> simp only [apure, h1, h2, h3]
  all_goals (first | rfl | (simp_all [apure]; done))

theorem aread_congr {op : Op} (h : ∀ x ∈ op.operands, eval E x = eval E' x) : aread C σ E op = aread C σ E' op := by
  cases op <;> simp only [Op.operands] at h
  case lookup t m k ok =>
    have h1 : eval E m = eval E' m := h m (by simp)
    have h2 : eval E k = eval E' k := h k (by simp)
    cases ok <;> simp only [aread, h1, h2]
  case load t x =>
    have h1 : eval E x = eval E' x := h x (by simp)
    simp only [aread, h1]
  case convert s d x =>
    have h1 : eval E x = eval E' x := h x (by simp)
    simp only [aread, h1]
  all_goals rfl

theorem aeff_congr {call : ACall} {op : Op} (h : ∀ x ∈ op.operands, eval E x = eval E' x) : aeff C call bases E σ op = aeff C call bases E' σ op := by
  cases op <;> simp only [Op.operands] at h
  case buildSlice t n ps =>
    have := evalP_congr (E := E) (E' := E') (l := ps.toList) (fun x hx => h x (by simpa using hx))
    simp only [aeff, this]
  case call c =>
    obtain ⟨h1, h2⟩ := call_congr c h
    simp only [aeff, h1]
    split
    · rename_i g hg; rw [h2 g hg]
    · rfl
    · rfl
  case makeMap t r => cases r <;> rfl
  case insert t m k x =>
    have h1 : eval E m = eval E' m := h m (by simp)
    have h2 : eval E k = eval E' k := h k (by simp)
    have h3 : eval E x = eval E' x := h x (by simp)
    simp only [aeff, h1, h2, h3]
  case next it s =>
    have h1 : eval E it = eval E' it := h it (by simp)
    cases s <;> simp only [aeff, h1]
  case store t x y =>
    have h1 : eval E x = eval E' x := h x (by simp)
    have h2 : eval E y = eval E' y := h y (by simp)
    simp only [aeff, h1, h2]
  all_goals (first | rfl | (simp_all [aeff]; done))

theorem aop_congr {call : ACall} {op : Op} (h : ∀ x ∈ op.operands, eval E x = eval E' x) : aop C call bases E σ op = aop C call bases E' σ op := by
  unfold aop
  rw [apure_congr h, aread_congr h, aeff_congr h]

theorem opTmps_eval {o : Oper} (h : ∀ t ∈ opTmps o, E.get t = E'.get t) : ∀ x ∈ o.op.operands, eval E x = eval E' x := fun x hx => by
  cases x with
  | tmp t => exact h t (by unfold opTmps; exact List.mem_filterMap.2 ⟨.tmp t, by simpa using hx, rfl⟩)
  | _ => rfl

theorem awanted_congr {ops : List Oper} {o : Oper} (h : ∀ t ∈ guardTmp ops o, E.get t = E'.get t) : awanted ops E o = awanted ops E' o := by
  unfold awanted
  split
  · rfl
  · rename_i j want hg
    split
    · rfl
    · rename_i d hd
      rw [h d (by unfold guardTmp; rw [hg]; simp only; rw [hd]; simp)]

end
end Go.Ax
