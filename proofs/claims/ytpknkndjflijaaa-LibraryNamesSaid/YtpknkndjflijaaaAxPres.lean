/- What must come ahead of what, in a region. -/
import Derived.Test.YtpknkndjflijaaaAxCongr
namespace Go.Ax

def Pre (ops : List Oper) (j i : Nat) : Prop := ((pres [] ops).getD j 0).testBit i = true

theorem foldl_or (acc : List Nat) (i : Nat) : ∀ (l : List Edge) (s : Nat), (l.foldl (fun s e => if Region.binds .any e then s ||| 2 ^ e.on ||| acc.getD e.on 0 else s) s).testBit i = true →
    s.testBit i = true ∨ ∃ e ∈ l, Region.binds .any e = true ∧ (i = e.on ∨ (acc.getD e.on 0).testBit i = true)
  | [], s, h => .inl h
  | e :: l, s, h => by
    rw [List.foldl_cons] at h
    rcases foldl_or acc i l _ h with h | ⟨e', he, hb, hx⟩
    · split at h
      · rename_i hb
        rw [Nat.testBit_or, Nat.testBit_or, Nat.testBit_two_pow] at h
        simp only [Bool.or_eq_true, decide_eq_true_eq] at h
        rcases h with (h | h) | h
        · exact .inl h
        · exact .inr ⟨e, List.mem_cons_self .., hb, .inl h.symm⟩
        · exact .inr ⟨e, List.mem_cons_self .., hb, .inr h⟩
      · exact .inl h
    · exact .inr ⟨e', List.mem_cons_of_mem _ he, hb, hx⟩

theorem pres_eq : ∀ (l : List Oper) (acc : List Nat), (∃ tl, pres acc l = acc ++ tl ∧ tl.length = l.length) ∧ ∀ k o, l[k]? = some o → (pres acc l)[acc.length + k]? = some (preOf ((pres acc l).take (acc.length + k)) o)
  | [], acc => ⟨⟨[], by simp [pres], rfl⟩, fun k o h => by simp at h⟩
  | o :: l, acc => by
    obtain ⟨⟨tl, h1, h2⟩, h3⟩ := pres_eq l (acc ++ [preOf acc o])
    have he : pres acc (o :: l) = pres (acc ++ [preOf acc o]) l := rfl
    refine ⟨⟨preOf acc o :: tl, by rw [he, h1]; simp, by simp [h2]⟩, fun k o' h => ?_⟩
    cases k with
    | zero =>
      simp at h; subst h
      rw [he, h1]
      simp
    | succ k =>
      have := h3 k o' (by simpa using h)
      rw [he]
      rw [List.length_append, List.length_singleton] at this
      rw [show acc.length + (k + 1) = acc.length + 1 + k by omega]
      exact this

theorem Pre.edge {ops : List Oper} {j i : Nat} (h : Pre ops j i) : ∃ o, ops[j]? = some o ∧ ∃ e ∈ o.after.toList, Region.binds .any e = true ∧ (i = e.on ∨ (e.on < j ∧ Pre ops e.on i)) := by
  obtain ⟨⟨tl, h1, h2⟩, h3⟩ := pres_eq ops []
  rw [List.nil_append] at h1
  have hj : j < ops.length := by
    rcases Nat.lt_or_ge j ops.length with hlt | hge
    · exact hlt
    · unfold Pre at h
      rw [h1, List.getD_eq_getElem?_getD, List.getElem?_eq_none (by omega)] at h
      simp at h
  obtain ⟨o, ho⟩ : ∃ o, ops[j]? = some o := ⟨ops[j], List.getElem?_eq_getElem hj⟩
  have h4 := h3 j o ho
  simp only [List.length_nil, Nat.zero_add] at h4
  refine ⟨o, ho, ?_⟩
  unfold Pre at h
  rw [List.getD_eq_getElem?_getD, h4, Option.getD_some] at h
  rcases foldl_or _ i _ _ h with h | ⟨e, he, hb, hx⟩
  · simp at h
  · refine ⟨e, he, hb, hx.imp id fun hx => ?_⟩
    rw [List.getD_eq_getElem?_getD, List.getElem?_take] at hx
    split at hx
    · rename_i hlt
      exact ⟨hlt, by unfold Pre; rw [List.getD_eq_getElem?_getD]; exact hx⟩
    · simp at hx

def Closed (ops : List Oper) (L : Array Bool) : Prop := ∀ j o, ops[j]? = some o → L.getD j false = true → ∀ e ∈ o.after.toList, Region.binds .any e = true → L.getD e.on false = true

/-- j could come now. -/
def Rdy (ops : List Oper) (L : Array Bool) (j : Nat) : Prop := ∃ o, ops[j]? = some o ∧ ∀ e ∈ o.after.toList, Region.binds .any e = true → L.getD e.on false = true

theorem Closed.pre {ops : List Oper} {L : Array Bool} (hc : Closed ops L) : ∀ (j i : Nat), Rdy ops L j → Pre ops j i → L.getD i false = true := by
  intro j
  induction j using Nat.strongRecOn with
  | _ j ih =>
    intro i hr hp
    obtain ⟨o, ho, e, he, hb, hx⟩ := hp.edge
    obtain ⟨o', ho', hall⟩ := hr
    rw [ho] at ho'; injection ho' with ho'; subst ho'
    have hL := hall e he hb
    rcases hx with rfl | ⟨hlt, hp'⟩
    · exact hL
    · obtain ⟨o2, ho2, _⟩ := hp'.edge
      exact ih e.on hlt i ⟨o2, ho2, hc _ o2 ho2 hL⟩ hp'

theorem Closed.rdy {ops : List Oper} {L : Array Bool} (hc : Closed ops L) {j : Nat} {o : Oper} (ho : ops[j]? = some o) (hL : L.getD j false = true) : Rdy ops L j := ⟨o, ho, hc j o ho hL⟩

/-- What the check of a region tells. -/
structure RegFacts (C : Cfg) (ops : List Oper) : Prop where
  edge : ∀ (j : Nat) (o : Oper), ops[j]? = some o → ∀ e ∈ o.after.toList, Region.binds .any e = true → e.on < j
  dst : ∀ (i j : Nat) (p o : Oper) d, ops[i]? = some p → ops[j]? = some o → i ≠ j → p.dst = some d → o.dst ≠ some d
  uses : ∀ (i j : Nat) (p o : Oper) d, ops[i]? = some p → ops[j]? = some o → p.dst = some d → d ∈ opTmps o ++ guardTmp ops o → (i < j → Pre ops j i) ∧ (j < i → Pre ops i j)
  effs : ∀ (i j : Nat) (p o : Oper), ops[i]? = some p → ops[j]? = some o → i < j → cls C p.op = .eff → cls C o.op = .eff → Pre ops j i

theorem regOK_facts {C : Cfg} {ops : List Oper} (h : regOK C ops = true) : RegFacts C ops := by
  unfold regOK at h
  simp only [List.all_eq_true] at h
  have key : ∀ j o, ops[j]? = some o → (o, j) ∈ ops.zipIdx := fun j o ho => by
    rw [List.mem_zipIdx_iff_getElem?]; exact ho
  simp only [Bool.and_eq_true, List.all_eq_true] at h
  refine ⟨fun j o ho e he hb => ?_, fun i j p o d hp ho hij hd hd' => ?_, fun i j p o d hp ho hd hm => ?_, fun i j p o hp ho hij h1 h2 => ?_⟩
  · have := (h (o, j) (key j o ho)).1 e he
    simpa [hb] using this
  · have := ((h (o, j) (key j o ho)).2 (p, i) (key i p hp)).1.1
    simp [hd, hd', hij] at this
  · have := ((h (o, j) (key j o ho)).2 (p, i) (key i p hp)).1.2
    have hc : (opTmps o ++ guardTmp ops o).contains d = true := by simpa using hm
    simp only [hd, hc, if_true] at this
    refine ⟨fun hlt => ?_, fun hlt => ?_⟩
    · have hne : (i == j) = false := by simp; omega
      rw [hne, Bool.false_or, if_pos hlt] at this
      exact this
    · have hne : (i == j) = false := by simp; omega
      rw [hne, Bool.false_or, if_neg (by omega)] at this
      exact this
  · have := ((h (o, j) (key j o ho)).2 (p, i) (key i p hp)).2
    rw [h1, h2] at this
    simp [hij] at this
    exact this

theorem RegFacts.lt {C : Cfg} {ops : List Oper} (hf : RegFacts C ops) : ∀ (j i : Nat), Pre ops j i → i < j := by
  intro j
  induction j using Nat.strongRecOn with
  | _ j ih =>
    intro i hp
    obtain ⟨o, ho, e, he, hb, hx⟩ := hp.edge
    have := hf.edge j o ho e he hb
    rcases hx with rfl | ⟨hlt, hp'⟩
    · exact this
    · have := ih e.on hlt i hp'; omega

mutual
theorem AV.beq_eq : ∀ {a b : AV}, a.beq b = true → a = b
  | .int _ _, b, h => by cases b <;> simp [AV.beq] at h ⊢; exact h
  | .bool _, b, h => by cases b <;> simp [AV.beq] at h ⊢; exact h
  | .str _, b, h => by cases b <;> simp [AV.beq] at h ⊢; exact h
  | .nil _, b, h => by cases b <;> simp [AV.beq] at h ⊢; exact h
  | .ptr _ _ _, b, h => by cases b <;> simp [AV.beq] at h ⊢; exact ⟨h.1.1, h.1.2, h.2⟩
  | .row _ _ _ _, b, h => by cases b <;> simp [AV.beq] at h ⊢; exact ⟨h.1.1.1, h.1.1.2, h.1.2, h.2⟩
  | .tree _ c _, b, h => by cases b <;> simp [AV.beq] at h ⊢; exact ⟨h.1.1, beqL_eq h.2, h.1.2⟩
  | .iptr c, b, h => by cases b <;> simp [AV.beq] at h ⊢; exact beqL_eq h
  | .agg c, b, h => by cases b <;> simp [AV.beq] at h ⊢; exact beqL_eq h
  | .tuple c, b, h => by cases b <;> simp [AV.beq] at h ⊢; exact beqL_eq h
  | .func _ c, b, h => by cases b <;> simp [AV.beq] at h ⊢; exact ⟨h.1, beqL_eq h.2⟩
  | .iface _ v, b, h => by cases b <;> simp [AV.beq] at h ⊢; exact ⟨h.1, AV.beq_eq h.2⟩
  | .map _, b, h => by cases b <;> simp [AV.beq] at h ⊢; exact h
  | .iter _, b, h => by cases b <;> simp [AV.beq] at h ⊢; exact h
theorem beqL_eq : ∀ {a b : List AV}, beqL a b = true → a = b
  | [], b, h => by cases b <;> simp [beqL] at h ⊢
  | x :: l, b, h => by
    cases b with
    | nil => simp [beqL] at h
    | cons y m =>
      simp only [beqL, Bool.and_eq_true] at h
      rw [AV.beq_eq h.1, beqL_eq h.2]
end

end Go.Ax
