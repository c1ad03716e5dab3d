/- What is run on an empty store holds at any store: its rows come behind those that are there. -/
import Derived.Test.YtpknkndjflijaaaAxOKs
namespace Go.Ax

mutual
/-- Names moved on by d. -/
def AV.sh (d : Nat) : AV → AV
  | .ptr n ver off => .ptr (d + n) ver off
  | .row n off len sz => .row (d + n) off len sz
  | .map n => .map (d + n)
  | .iter n => .iter (d + n)
  | .agg cs => .agg (shL d cs)
  | .tuple cs => .tuple (shL d cs)
  | .func f cs => .func f (shL d cs)
  | .iface t v => .iface t (v.sh d)
  | .int k n => .int k n
  | .bool b => .bool b
  | .str s => .str s
  | .nil k => .nil k
  | .tree l c f => .tree l c f
  | .iptr c => .iptr c
def shL (d : Nat) : List AV → List AV
  | [] => []
  | v :: l => v.sh d :: shL d l
end

def ARow.sh (d : Nat) : ARow → ARow
  | .cells e cs => .cells e (shL d cs)
  | .map es => .map (es.map fun e => (e.1.sh d, e.2.sh d))
  | .iter s p => .iter s p
  | .dead => .dead

def AEnd.sh (d : Nat) : AEnd → AEnd
  | .ret v => .ret (v.sh d)
  | .panic v => .panic (v.sh d)

def shR (d : Nat) (σ : ASt) : ASt := σ.map (ARow.sh d)

def Ren.add (d : Nat) (R R1 : Ren) : Ren := ⟨fun n => if n < d then R.b n else R1.b (n - d), fun n => if n < d then R.k n else R1.k (n - d)⟩

theorem shL_length (d : Nat) : ∀ l : List AV, (shL d l).length = l.length
  | [] => rfl
  | v :: l => by simp [shL, shL_length d l]

theorem shL_map (d : Nat) : ∀ l : List AV, shL d l = l.map (AV.sh d)
  | [] => rfl
  | v :: l => by simp [shL, shL_map d l]

theorem AV.one_sh (d : Nat) (v : AV) : (v.sh d).one = v.one := by cases v <;> try rfl

section
variable {P : Program} {C : Cfg} {A : Nat → Prop} {I I1 : Imm} {σ σ1 : ASt} {R R1 : Ren} {w w1 : World} {bases : List Nat}

theorem sh_at (σ σ1 : ASt) (n : Nat) : (σ ++ shR σ.length σ1)[σ.length + n]? = (σ1[n]?).map (ARow.sh σ.length) := by
  rw [List.getElem?_append_right (by omega), show σ.length + n - σ.length = n by omega]
  simp [shR]

theorem add_hi (n : Nat) (d : Nat) : (Ren.add d R R1).b (d + n) = R1.b n ∧ (Ren.add d R R1).k (d + n) = R1.k n := by
  have h1 : ¬ d + n < d := by omega
  have h2 : d + n - d = n := by omega
  simp only [Ren.add, h1, if_false, h2, and_self]

theorem add_lo {n d : Nat} (h : n < d) : (Ren.add d R R1).b n = R.b n ∧ (Ren.add d R R1).k n = R.k n := by
  simp [Ren.add, h]

mutual
theorem Rel.sh : ∀ {v : AV} {u : Value}, Rel C I v σ1 R1 u → Rel C I (v.sh σ.length) (σ ++ shR σ.length σ1) (Ren.add σ.length R R1) u
  | .int _ _, _, h => h
  | .bool _, _, h => h
  | .str _, _, h => h
  | .nil _, _, h => h
  | .tree _ _ _, _, h => h
  | .iptr _, _, h => h
  | .ptr n ver off, u, h => by
    obtain ⟨hn, b, rfl, hb⟩ := h
    refine ⟨by simp [shR]; omega, b, rfl, fun e cs hc => ?_⟩
    rw [sh_at, Option.map_eq_some_iff] at hc
    obtain ⟨r, hr, he⟩ := hc
    cases r <;> simp only [ARow.sh] at he <;> try (cases he; done)
    rename_i e' cs'
    injection he with h1 h2; subst h1 h2
    obtain ⟨q1, q2⟩ := hb e' cs' hr
    rw [shL_length, (add_hi n σ.length).1]
    exact ⟨q1, q2⟩
  | .row n off len sz, u, h => by
    obtain ⟨hn, b, cap, rfl, hle, hb⟩ := h
    refine ⟨by simp [shR]; omega, b, cap, rfl, hle, fun e cs hc => ?_⟩
    rw [sh_at, Option.map_eq_some_iff] at hc
    obtain ⟨r, hr, he⟩ := hc
    cases r <;> simp only [ARow.sh] at he <;> try (cases he; done)
    rename_i e' cs'
    injection he with h1 h2; subst h1 h2
    obtain ⟨q1, q2⟩ := hb e' cs' hr
    rw [shL_length, (add_hi n σ.length).1, (add_hi n σ.length).2]
    exact ⟨q1, q2⟩
  | .map n, u, h => by
    obtain ⟨hn, b, rfl, hb⟩ := h
    refine ⟨by simp [shR]; omega, b, rfl, fun es hc => ?_⟩
    rw [sh_at, Option.map_eq_some_iff] at hc
    obtain ⟨r, hr, he⟩ := hc
    cases r <;> simp only [ARow.sh] at he <;> try (cases he; done)
    rw [(add_hi n σ.length).1]
    exact hb _ hr
  | .iter n, u, h => by
    obtain ⟨hn, b, rfl, hb⟩ := h
    refine ⟨by simp [shR]; omega, b, rfl, fun s p hc => ?_⟩
    rw [sh_at, Option.map_eq_some_iff] at hc
    obtain ⟨r, hr, he⟩ := hc
    cases r <;> simp only [ARow.sh] at he <;> try (cases he; done)
    rw [(add_hi n σ.length).1]
    exact hb _ _ hr
  | .agg cs, u, h => by
    obtain ⟨vs, rfl, hl⟩ := h
    exact ⟨vs, rfl, RelL.sh hl⟩
  | .tuple cs, u, h => by
    obtain ⟨vs, rfl, hl⟩ := h
    exact ⟨vs, rfl, RelL.sh hl⟩
  | .func f cs, u, h => by
    obtain ⟨vs, rfl, hl⟩ := h
    exact ⟨vs, rfl, RelL.sh hl⟩
  | .iface t x, u, h => by
    obtain ⟨y, rfl, hl⟩ := h
    exact ⟨y, rfl, Rel.sh hl⟩
theorem RelL.sh : ∀ {vs : List AV} {us : List Value}, RelL C I vs σ1 R1 us → RelL C I (shL σ.length vs) (σ ++ shR σ.length σ1) (Ren.add σ.length R R1) us
  | [], _, h => h
  | v :: l, us, h => by
    obtain ⟨u, us', rfl, h1, h2⟩ := h
    exact ⟨u, us', rfl, Rel.sh h1, RelL.sh h2⟩
end

theorem Ext.add (hi : ∀ b o v, I b o = some v → I1 b o = some v) : Ext σ R I (σ ++ shR σ.length σ1) (Ren.add σ.length R R1) I1 := by
  have hg : ∀ n, n < σ.length → (σ ++ shR σ.length σ1)[n]? = σ[n]? := fun n hn => List.getElem?_append_left hn
  exact ⟨by simp, hi, fun n e cs hn hc => ⟨cs, hg n hn ▸ hc, .inl ⟨rfl, (add_lo hn).1, (add_lo hn).2⟩⟩, fun n es hn hc => ⟨es, hg n hn ▸ hc, (add_lo hn).1⟩, fun n s p hn hc => ⟨s, p, hg n hn ▸ hc, (add_lo hn).1⟩⟩

theorem frame_rel (h : WRel C A σ R I w) (hb : Barr bases σ) (hA : ∀ b, w.heap.size ≤ b → A b) (hs : Stp C (fun b => w.heap.size ≤ b) [] [] Ren.nil I w σ1 R1 I1 w1) :
    Stp C A bases σ R I w (σ ++ shR σ.length σ1) (Ren.add σ.length R R1) I1 w1 := by
  have hx : Ext σ R I (σ ++ shR σ.length σ1) (Ren.add σ.length R R1) I1 := Ext.add hs.ext.imm
  have lo : ∀ n, n < σ.length → (σ ++ shR σ.length σ1)[n]? = σ[n]? := fun n hn => List.getElem?_append_left hn
  have cs : ∀ n r, (σ ++ shR σ.length σ1)[n]? = some r → (n < σ.length ∧ σ[n]? = some r) ∨ ∃ m r', n = σ.length + m ∧ σ1[m]? = some r' ∧ r = r'.sh σ.length := fun n r hr => by
    by_cases hn : n < σ.length
    · exact .inl ⟨hn, lo n hn ▸ hr⟩
    · right
      have he : n = σ.length + (n - σ.length) := by omega
      rw [he, sh_at, Option.map_eq_some_iff] at hr
      obtain ⟨r', h1, h2⟩ := hr
      exact ⟨n - σ.length, r', he, h1, h2.symm⟩
  have lv : ∀ n, live (σ ++ shR σ.length σ1) n → (n < σ.length ∧ live σ n) ∨ ∃ m, n = σ.length + m ∧ live σ1 m := fun n ⟨r, hr, hd⟩ => by
    rcases cs n r hr with ⟨h1, h2⟩ | ⟨m, r', h1, h2, h3⟩
    · exact .inl ⟨h1, r, h2, hd⟩
    · exact .inr ⟨m, h1, r', h2, fun he => hd (by rw [h3, he]; rfl)⟩
  have same : ∀ b, b < w.heap.size → w1.heap[b]? = w.heap[b]? := fun b hb => hs.frm.same b (by omega)
  refine ⟨⟨fun i j hi hj he => ?_, fun n hn => ?_, fun n e cells hn => ?_, fun n es hn => ?_, fun n s p hn => ?_, hs.rel.imm, fun b o v n hv hn => ?_⟩, fun b hbm => ?_, hx, ⟨hs.frm.os, hs.frm.tape, hs.frm.output, hs.frm.size, fun b hb => ?_⟩, fun b o v hv => ?_⟩
  · rcases lv i hi with ⟨i1, i2⟩ | ⟨m, rfl, i2⟩ <;> rcases lv j hj with ⟨j1, j2⟩ | ⟨m', rfl, j2⟩
    · rw [(add_lo i1).1, (add_lo j1).1] at he; exact h.inj i j i2 j2 he
    · rw [(add_lo i1).1, (add_hi m' σ.length).1] at he
      have q1 := h.lt i2
      have q2 : w.heap.size ≤ R1.b m' := hs.rel.al m' j2
      omega
    · rw [(add_lo j1).1, (add_hi m σ.length).1] at he
      have q1 := h.lt j2
      have q2 : w.heap.size ≤ R1.b m := hs.rel.al m i2
      omega
    · rw [(add_hi m σ.length).1, (add_hi m' σ.length).1] at he
      rw [hs.rel.inj m m' i2 j2 he]
  · rcases lv n hn with ⟨i1, i2⟩ | ⟨m, rfl, i2⟩
    · rw [(add_lo i1).1]; exact h.al n i2
    · rw [(add_hi m σ.length).1]; exact hA _ (hs.rel.al m i2)
  · rcases cs n _ hn with ⟨h1, h2⟩ | ⟨m, r', rfl, h2, h3⟩
    · obtain ⟨c, q1, q2, q3, q4, q5⟩ := h.cells n e cells h2
      refine ⟨c, ?_, by rw [(add_lo h1).2]; exact q2, q3, q4.ext hx, q5⟩
      rw [(add_lo h1).1, same _ (h.lt ⟨_, h2, by simp⟩)]; exact q1
    · cases r' <;> simp only [ARow.sh] at h3 <;> try (cases h3; done)
      rename_i e' cs'
      injection h3 with e1 e2; subst e1 e2
      obtain ⟨c, q1, q2, q3, q4, q5⟩ := hs.rel.cells m e cs' h2
      refine ⟨c, ?_, by rw [(add_hi m σ.length).2]; exact q2, by rw [shL_length]; exact q3, by rw [shL_length]; exact q4.sh, ?_⟩
      · rw [(add_hi m σ.length).1]; exact q1
      · rw [shL_map, List.all_map]
        rw [List.all_eq_true] at q5 ⊢
        intro x hx
        simpa [AV.one_sh] using q5 x hx
  · rcases cs n _ hn with ⟨h1, h2⟩ | ⟨m, r', rfl, h2, h3⟩
    · obtain ⟨c, d, q1, q2, q3⟩ := h.map n es h2
      refine ⟨c, d, ?_, q2.ext hx, q3.ext hx⟩
      rw [(add_lo h1).1, same _ (h.lt ⟨_, h2, by simp⟩)]; exact q1
    · cases r' <;> simp only [ARow.sh] at h3 <;> try (cases h3; done)
      rename_i es'
      injection h3 with e1; subst e1
      obtain ⟨c, d, q1, q2, q3⟩ := hs.rel.map m es' h2
      refine ⟨c, d, ?_, ?_, ?_⟩
      · rw [(add_hi m σ.length).1]; exact q1
      · have := q2.sh (σ := σ) (R := R)
        rw [shL_map, List.map_map] at this
        rw [List.map_map]; exact this
      · have := q3.sh (σ := σ) (R := R)
        rw [shL_map, List.map_map] at this
        rw [List.map_map]; exact this
  · rcases cs n _ hn with ⟨h1, h2⟩ | ⟨m, r', rfl, h2, h3⟩
    · rw [(add_lo h1).1, same _ (h.lt ⟨_, h2, by simp⟩)]; exact h.iter n s p h2
    · cases r' <;> simp only [ARow.sh] at h3 <;> try (cases h3; done)
      injection h3 with e1 e2; subst e1 e2
      rw [(add_hi m σ.length).1]; exact hs.rel.iter m s p h2
  · rcases lv n hn with ⟨i1, i2⟩ | ⟨m, rfl, i2⟩
    · rw [(add_lo i1).1]
      rcases hs.fresh b o v hv with hI | hI
      · exact h.sep b o v n hI i2
      · have := h.lt i2; omega
    · rw [(add_hi m σ.length).1]; exact hs.rel.sep b o v m hv i2
  · obtain ⟨q1, q2⟩ := hb b hbm
    refine ⟨by simp; omega, fun n r hn hr => q2 n r hn ?_⟩
    rwa [lo n (by omega)] at hr
  · exact hs.frm.same b fun hge => hb (hA b hge)
  · rcases hs.fresh b o v hv with hI | hI
    · exact .inl hI
    · exact .inr (hA b hI)

/-- Names nothing. -/
theorem Rel.toNil {v : AV} {u : Value} (h0 : v.mask = 0) (h : Rel C I v σ R u) : Rel C I v [] Ren.nil u := by
  have h1 := h.cut (σ' := []) (ok := fun _ => False) ⟨fun _ hf => hf.elim, fun n hn => absurd hn (Nat.not_lt_zero _)⟩ (fun n hn => by rw [h0] at hn; simp at hn)
  exact h1.ext ⟨Nat.le_refl _, fun _ _ _ h => h, fun _ _ _ hn => absurd hn (Nat.not_lt_zero _), fun _ _ hn => absurd hn (Nat.not_lt_zero _), fun _ _ _ hn => absurd hn (Nat.not_lt_zero _)⟩

theorem RelL.toNil {vs : List AV} {us : List Value} (h0 : maskL vs = 0) (h : RelL C I vs σ R us) : RelL C I vs [] Ren.nil us := by
  have h1 := h.cut (σ' := []) (ok := fun _ => False) ⟨fun _ hf => hf.elim, fun n hn => absurd hn (Nat.not_lt_zero _)⟩ (fun n hn => by rw [h0] at hn; simp at hn)
  exact h1.ext ⟨Nat.le_refl _, fun _ _ _ h => h, fun _ _ _ hn => absurd hn (Nat.not_lt_zero _), fun _ _ hn => absurd hn (Nat.not_lt_zero _), fun _ _ _ hn => absurd hn (Nat.not_lt_zero _)⟩

theorem ERel.sh {e : AEnd} {ce : Ending} (h : ERel C I e σ1 R1 ce) : ERel C I (e.sh σ.length) (σ ++ shR σ.length σ1) (Ren.add σ.length R R1) ce := by
  cases e <;> cases ce <;> try (exact h.elim)
  · exact Rel.sh (σ := σ) (R := R) h
  · obtain ⟨u, h1, h2⟩ := h
    exact ⟨u, h1, Rel.sh h2⟩

/-- The rule: what was run on the empty store stands for the function at those arguments. -/
theorem frame {call : ACall} (hc : CallOK P C call) {f : Nat} {args : List AV} {e : AEnd} (h0 : maskL args = 0) (h : call [] f args [] = some (e, σ1))
    (hrel : WRel C A σ R I w) (hb : Barr bases σ) {cargs : List Value} (hargs : RelL C I args σ R cargs) (hA : ∀ b, w.heap.size ≤ b → A b) :
    (∃ fn, P.funcs[f]? = some fn ∧ fn.body.isSome = true ∧ (fn.name == "runtime.NumGoroutine") = false) ∧
    Calls P f cargs.toArray w (fun ce w' => ∃ R' I', Stp C A bases σ R I w (σ ++ shR σ.length σ1) R' I' w' ∧ ERel C I' (e.sh σ.length) (σ ++ shR σ.length σ1) R' ce) := by
  have hw : WRel C (fun b => w.heap.size ≤ b) [] Ren.nil I w :=
    ⟨fun i j hi => by obtain ⟨r, hr, _⟩ := hi; simp at hr, fun n hn => by obtain ⟨r, hr, _⟩ := hn; simp at hr, fun n e cs hn => by simp at hn, fun n es hn => by simp at hn, fun n s p hn => by simp at hn, hrel.imm, fun b o v n _ hn => by obtain ⟨r, hr, _⟩ := hn; simp at hr⟩
  obtain ⟨h1, h2⟩ := hc [] f args [] e σ1 h _ Ren.nil I w cargs hw (fun b hb => by cases hb) (hargs.toNil h0) (fun b hb => hb)
  refine ⟨h1, Calls.mono h2 fun ce w' hce => ?_⟩
  obtain ⟨R1, I1, hs, he⟩ := hce
  exact ⟨_, I1, frame_rel hrel hb hA hs, he.sh⟩

end
end Go.Ax
