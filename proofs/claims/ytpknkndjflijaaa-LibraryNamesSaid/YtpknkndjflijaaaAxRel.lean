/- How an abstract value stands to a value of the machine, and an abstract store to a world. -/
import Derived.Test.YtpknkndjflijaaaAxRun
namespace Go.Ax

abbrev Imm := Nat → Nat → Option Value

/-- Where a named row lies, and how many cells its block has. -/
structure Ren where
  b : Nat → Nat
  k : Nat → Nat

def Ren.nil : Ren := ⟨fun _ => 0, fun _ => 0⟩

mutual
def Rel (C : Cfg) (I : Imm) : AV → ASt → Ren → Value → Prop
  | .int k n, _, _, v => v = .int k n
  | .bool b, _, _, v => v = .bool b
  | .str s, _, _, v => v = .string ⟨s.toArray⟩
  | .nil k, _, _, v => v = k.val
  | .ptr n ver off, σ, R, v => n < σ.length ∧ ∃ b, v = .pointer (some ⟨b, off, none⟩) ∧
      ∀ e cs, σ[n]? = some (.cells e cs) → ver ≤ cs.length ∧ (cs.length = ver → b = R.b n)
  | .row n off len sz, σ, R, v => n < σ.length ∧ ∃ b cap, v = .slice (some ⟨b, off, none⟩) len cap ∧ len ≤ cap ∧
      ∀ e cs, σ[n]? = some (.cells e cs) → off + len * sz ≤ cs.length ∧ (cs.length = off + len * sz → b = R.b n ∧ off + cap * sz ≤ R.k n)
  | .tree len cells full, _, _, v => ∃ a cap, v = .slice a len cap ∧ len ≤ cap ∧ (full = true → cap = len) ∧
      (len = 0 ∧ cells = [] ∨ ∃ b off vs, a = some ⟨b, off, none⟩ ∧ RelL C I cells [] Ren.nil vs ∧ ∀ i u, vs[i]? = some u → I b (off + i) = some u)
  | .iptr cells, _, _, v => ∃ b off vs, v = .pointer (some ⟨b, off, none⟩) ∧ RelL C I cells [] Ren.nil vs ∧ ∀ i u, vs[i]? = some u → I b (off + i) = some u
  | .agg cs, σ, R, v => ∃ vs, v = .agg vs.toArray ∧ RelL C I cs σ R vs
  | .tuple cs, σ, R, v => ∃ vs, v = .tuple vs.toArray ∧ RelL C I cs σ R vs
  | .func f caps, σ, R, v => ∃ vs, v = .func (.func f) #[] vs.toArray ∧ RelL C I caps σ R vs
  | .iface t x, σ, R, v => ∃ y, v = .iface t y ∧ Rel C I x σ R y
  | .map n, σ, R, v => n < σ.length ∧ ∃ b, v = .map (some b) ∧ ∀ es, σ[n]? = some (.map es) → b = R.b n
  | .iter n, σ, R, v => n < σ.length ∧ ∃ b, v = .pointer (some ⟨b, 0, none⟩) ∧ ∀ s p, σ[n]? = some (.iter s p) → b = R.b n
def RelL (C : Cfg) (I : Imm) : List AV → ASt → Ren → List Value → Prop
  | [], _, _, vs => vs = []
  | v :: l, σ, R, vs => ∃ u us, vs = u :: us ∧ Rel C I v σ R u ∧ RelL C I l σ R us
end

/-- What was known stays known. -/
structure Ext (σ : ASt) (R : Ren) (I : Imm) (σ' : ASt) (R' : Ren) (I' : Imm) : Prop where
  len : σ.length ≤ σ'.length
  imm : ∀ b o v, I b o = some v → I' b o = some v
  cells : ∀ n e cs', n < σ.length → σ'[n]? = some (.cells e cs') →
    ∃ cs, σ[n]? = some (.cells e cs) ∧ (cs.length = cs'.length ∧ R'.b n = R.b n ∧ R'.k n = R.k n ∨ cs.length < cs'.length)
  map : ∀ n es', n < σ.length → σ'[n]? = some (.map es') → ∃ es, σ[n]? = some (.map es) ∧ R'.b n = R.b n
  iter : ∀ n s p', n < σ.length → σ'[n]? = some (.iter s p') → ∃ s' p, σ[n]? = some (.iter s' p) ∧ R'.b n = R.b n

theorem Ext.refl (σ : ASt) (R : Ren) (I : Imm) : Ext σ R I σ R I :=
  ⟨Nat.le_refl _, fun _ _ _ h => h, fun _ _ cs' _ h => ⟨cs', h, .inl ⟨rfl, rfl, rfl⟩⟩, fun _ es' _ h => ⟨es', h, rfl⟩, fun _ s p' _ h => ⟨s, p', h, rfl⟩⟩

theorem Ext.trans {σ σ' σ'' : ASt} {R R' R'' : Ren} {I I' I'' : Imm} (h : Ext σ R I σ' R' I') (k : Ext σ' R' I' σ'' R'' I'') : Ext σ R I σ'' R'' I'' := by
  refine ⟨Nat.le_trans h.len k.len, fun b o v hv => k.imm _ _ _ (h.imm _ _ _ hv), fun n e cs'' hn hc => ?_, fun n es'' hn hc => ?_, fun n s p'' hn hc => ?_⟩
  · obtain ⟨cs', h1, h2⟩ := k.cells n e cs'' (Nat.lt_of_lt_of_le hn h.len) hc
    obtain ⟨cs, h3, h4⟩ := h.cells n e cs' hn h1
    refine ⟨cs, h3, ?_⟩
    rcases h2 with ⟨a, b, c⟩ | a <;> rcases h4 with ⟨x, y, z⟩ | x
    · exact .inl ⟨x.trans a, b.trans y, c.trans z⟩
    · exact .inr (by omega)
    · exact .inr (by omega)
    · exact .inr (by omega)
  · obtain ⟨es', h1, h2⟩ := k.map n es'' (Nat.lt_of_lt_of_le hn h.len) hc
    obtain ⟨es, h3, h4⟩ := h.map n es' hn h1
    exact ⟨es, h3, h2.trans h4⟩
  · obtain ⟨s', p', h1, h2⟩ := k.iter n s p'' (Nat.lt_of_lt_of_le hn h.len) hc
    obtain ⟨s'', p, h3, h4⟩ := h.iter n s' p' hn h1
    exact ⟨s'', p, h3, h2.trans h4⟩

mutual
theorem Rel.ext {C : Cfg} {σ σ' : ASt} {R R' : Ren} {I I' : Imm} (h : Ext σ R I σ' R' I') : ∀ {v : AV} {u : Value}, Rel C I v σ R u → Rel C I' v σ' R' u
  | .int _ _, _, hr => hr
  | .bool _, _, hr => hr
  | .str _, _, hr => hr
  | .nil _, _, hr => hr
  | .ptr n ver off, u, hr => by
    obtain ⟨hn, b, rfl, hb⟩ := hr
    refine ⟨Nat.lt_of_lt_of_le hn h.len, b, rfl, fun e cs' hc => ?_⟩
    obtain ⟨cs, h1, h2⟩ := h.cells n e cs' hn hc
    obtain ⟨h3, h4⟩ := hb e cs h1
    rcases h2 with ⟨a, b', _⟩ | a
    · exact ⟨by omega, fun hv => by rw [b']; exact h4 (by omega)⟩
    · exact ⟨by omega, fun hv => by omega⟩
  | .row n off len sz, u, hr => by
    obtain ⟨hn, b, cap, rfl, hle, hb⟩ := hr
    refine ⟨Nat.lt_of_lt_of_le hn h.len, b, cap, rfl, hle, fun e cs' hc => ?_⟩
    obtain ⟨cs, h1, h2⟩ := h.cells n e cs' hn hc
    obtain ⟨h3, h4⟩ := hb e cs h1
    rcases h2 with ⟨a, b', c'⟩ | a
    · exact ⟨by omega, fun hv => by rw [b', c']; exact h4 (by omega)⟩
    · exact ⟨by omega, fun hv => by omega⟩
  | .tree len cells full, u, hr => by
    obtain ⟨a, cap, rfl, hle, hf, hr⟩ := hr
    refine ⟨a, cap, rfl, hle, hf, hr.imp id ?_⟩
    rintro ⟨b, off, vs, rfl, hl, hi⟩
    exact ⟨b, off, vs, rfl, RelL.ext (σ := []) (σ' := []) (R := Ren.nil) (R' := Ren.nil) ⟨Nat.le_refl _, h.imm, fun _ _ _ hn => absurd hn (Nat.not_lt_zero _), fun _ _ hn => absurd hn (Nat.not_lt_zero _), fun _ _ _ hn => absurd hn (Nat.not_lt_zero _)⟩ hl, fun i u hu => h.imm _ _ _ (hi i u hu)⟩
  | .iptr cells, u, hr => by
    obtain ⟨b, off, vs, rfl, hl, hi⟩ := hr
    exact ⟨b, off, vs, rfl, RelL.ext (σ := []) (σ' := []) (R := Ren.nil) (R' := Ren.nil) ⟨Nat.le_refl _, h.imm, fun _ _ _ hn => absurd hn (Nat.not_lt_zero _), fun _ _ hn => absurd hn (Nat.not_lt_zero _), fun _ _ _ hn => absurd hn (Nat.not_lt_zero _)⟩ hl, fun i u hu => h.imm _ _ _ (hi i u hu)⟩
  | .agg cs, u, hr => by
    obtain ⟨vs, rfl, hl⟩ := hr
    exact ⟨vs, rfl, RelL.ext h hl⟩
  | .tuple cs, u, hr => by
    obtain ⟨vs, rfl, hl⟩ := hr
    exact ⟨vs, rfl, RelL.ext h hl⟩
  | .func f cs, u, hr => by
    obtain ⟨vs, rfl, hl⟩ := hr
    exact ⟨vs, rfl, RelL.ext h hl⟩
  | .iface t x, u, hr => by
    obtain ⟨y, rfl, hl⟩ := hr
    exact ⟨y, rfl, Rel.ext h hl⟩
  | .map n, u, hr => by
    obtain ⟨hn, b, rfl, hb⟩ := hr
    refine ⟨Nat.lt_of_lt_of_le hn h.len, b, rfl, fun es' hc => ?_⟩
    obtain ⟨es, h1, h2⟩ := h.map n es' hn hc
    rw [h2]; exact hb es h1
  | .iter n, u, hr => by
    obtain ⟨hn, b, rfl, hb⟩ := hr
    refine ⟨Nat.lt_of_lt_of_le hn h.len, b, rfl, fun s p' hc => ?_⟩
    obtain ⟨s', p, h1, h2⟩ := h.iter n s p' hn hc
    rw [h2]; exact hb s' p h1
theorem RelL.ext {C : Cfg} {σ σ' : ASt} {R R' : Ren} {I I' : Imm} (h : Ext σ R I σ' R' I') : ∀ {vs : List AV} {us : List Value}, RelL C I vs σ R us → RelL C I' vs σ' R' us
  | [], _, hr => hr
  | v :: l, us, hr => by
    obtain ⟨u, us', rfl, h1, h2⟩ := hr
    exact ⟨u, us', rfl, Rel.ext h h1, RelL.ext h h2⟩
end

theorem RelL.length {C : Cfg} {I : Imm} {σ : ASt} {R : Ren} : ∀ {vs : List AV} {us : List Value}, RelL C I vs σ R us → us.length = vs.length
  | [], _, h => by simp [RelL] at h; simp [h]
  | v :: l, us, h => by
    obtain ⟨u, us', rfl, _, h2⟩ := h
    simp [RelL.length h2]

theorem RelL.get {C : Cfg} {I : Imm} {σ : ASt} {R : Ren} : ∀ {vs : List AV} {us : List Value}, RelL C I vs σ R us → ∀ {i : Nat} {v : AV}, vs[i]? = some v → ∃ u, us[i]? = some u ∧ Rel C I v σ R u
  | [], _, _, i, v, hv => by simp at hv
  | x :: l, us, h, i, v, hv => by
    obtain ⟨u, us', rfl, h1, h2⟩ := h
    cases i with
    | zero => simp at hv; subst hv; exact ⟨u, by simp, h1⟩
    | succ i => simp at hv; obtain ⟨u', h3, h4⟩ := RelL.get h2 hv; exact ⟨u', by simpa using h3, h4⟩

theorem RelL.of_get {C : Cfg} {I : Imm} {σ : ASt} {R : Ren} : ∀ {vs : List AV} {us : List Value}, us.length = vs.length → (∀ (i : Nat) (v : AV) (u : Value), vs[i]? = some v → us[i]? = some u → Rel C I v σ R u) → RelL C I vs σ R us
  | [], us, hl, _ => by simp [RelL]; simpa using hl
  | x :: l, [], hl, _ => by simp at hl
  | x :: l, u :: us, hl, h => ⟨u, us, rfl, h 0 x u (by simp) (by simp), RelL.of_get (by simpa using hl) (fun i v w hv hw => h (i + 1) v w (by simpa using hv) (by simpa using hw))⟩

theorem RelL.append {C : Cfg} {I : Imm} {σ : ASt} {R : Ren} : ∀ {vs vs' : List AV} {us us' : List Value}, RelL C I vs σ R us → RelL C I vs' σ R us' → RelL C I (vs ++ vs') σ R (us ++ us')
  | [], _, _, _, h, h' => by simp [RelL] at h; subst h; simpa using h'
  | v :: l, _, us, us', h, h' => by
    obtain ⟨u, us1, rfl, h1, h2⟩ := h
    exact ⟨u, us1 ++ us', rfl, h1, RelL.append h2 h'⟩

theorem RelL.take {C : Cfg} {I : Imm} {σ : ASt} {R : Ren} : ∀ (n : Nat) {vs : List AV} {us : List Value}, RelL C I vs σ R us → RelL C I (vs.take n) σ R (us.take n)
  | 0, _, _, _ => by simp [RelL]
  | _ + 1, [], _, h => by simp [RelL] at h; simp [RelL, h]
  | n + 1, v :: l, us, h => by
    obtain ⟨u, us', rfl, h1, h2⟩ := h
    exact ⟨u, us'.take n, by simp, h1, RelL.take n h2⟩

theorem RelL.drop {C : Cfg} {I : Imm} {σ : ASt} {R : Ren} : ∀ (n : Nat) {vs : List AV} {us : List Value}, RelL C I vs σ R us → RelL C I (vs.drop n) σ R (us.drop n)
  | 0, _, _, h => by simpa using h
  | _ + 1, [], _, h => by simp [RelL] at h; simp [RelL, h]
  | n + 1, v :: l, us, h => by
    obtain ⟨u, us', rfl, h1, h2⟩ := h
    simpa using RelL.drop n h2

/-! ### Names -/

mutual
theorem Rel.under {C : Cfg} {I : Imm} {σ : ASt} {R : Ren} {m : Nat} (hm : σ.length ≤ m) : ∀ {v : AV} {u : Value}, Rel C I v σ R u → v.under m = true
  | .int _ _, _, _ => rfl
  | .bool _, _, _ => rfl
  | .str _, _, _ => rfl
  | .nil _, _, _ => rfl
  | .ptr n _ _, _, h => by simp only [AV.under, decide_eq_true_eq]; exact Nat.lt_of_lt_of_le h.1 hm
  | .row n _ _ _, _, h => by simp only [AV.under, decide_eq_true_eq]; exact Nat.lt_of_lt_of_le h.1 hm
  | .tree _ _ _, _, _ => rfl
  | .iptr _, _, _ => rfl
  | .agg cs, _, h => by obtain ⟨vs, _, hl⟩ := h; exact RelL.under hm hl
  | .tuple cs, _, h => by obtain ⟨vs, _, hl⟩ := h; exact RelL.under hm hl
  | .func f cs, _, h => by obtain ⟨vs, _, hl⟩ := h; exact RelL.under hm hl
  | .iface t x, _, h => by obtain ⟨y, _, hl⟩ := h; show x.under m = true; exact Rel.under hm hl
  | .map n, _, h => by simp only [AV.under, decide_eq_true_eq]; exact Nat.lt_of_lt_of_le h.1 hm
  | .iter n, _, h => by simp only [AV.under, decide_eq_true_eq]; exact Nat.lt_of_lt_of_le h.1 hm
theorem RelL.under {C : Cfg} {I : Imm} {σ : ASt} {R : Ren} {m : Nat} (hm : σ.length ≤ m) : ∀ {vs : List AV} {us : List Value}, RelL C I vs σ R us → underL m vs = true
  | [], _, _ => rfl
  | v :: l, us, h => by
    obtain ⟨u, us', rfl, h1, h2⟩ := h
    simp [underL, Rel.under hm h1, RelL.under hm h2]
end

/-- The store is cut back, or rows of it given up: what does not name these stands. -/
structure Cut (σ σ' : ASt) (ok : Nat → Prop) : Prop where
  lt : ∀ n, ok n → n < σ.length → n < σ'.length
  same : ∀ n, n < σ'.length → σ'[n]? = σ[n]? ∨ σ'[n]? = some .dead

mutual
theorem Rel.cut {C : Cfg} {I : Imm} {σ σ' : ASt} {R : Ren} {ok : Nat → Prop} (h : Cut σ σ' ok) : ∀ {v : AV} {u : Value}, (∀ n, v.mask.testBit n = true → ok n) → Rel C I v σ R u → Rel C I v σ' R u
  | .int _ _, _, _, hr => hr
  | .bool _, _, _, hr => hr
  | .str _, _, _, hr => hr
  | .nil _, _, _, hr => hr
  | .ptr n ver off, u, hm, hr => by
    obtain ⟨hn, b, rfl, hb⟩ := hr
    have hn' := h.lt n (hm n (by simp [AV.mask, Nat.testBit_two_pow])) hn
    refine ⟨hn', b, rfl, fun e cs hc => ?_⟩
    rcases h.same n hn' with h1 | h1
    · exact hb e cs (h1 ▸ hc)
    · rw [h1] at hc; cases hc
  | .row n off len sz, u, hm, hr => by
    obtain ⟨hn, b, cap, rfl, hle, hb⟩ := hr
    have hn' := h.lt n (hm n (by simp [AV.mask, Nat.testBit_two_pow])) hn
    refine ⟨hn', b, cap, rfl, hle, fun e cs hc => ?_⟩
    rcases h.same n hn' with h1 | h1
    · exact hb e cs (h1 ▸ hc)
    · rw [h1] at hc; cases hc
  | .tree _ _ _, _, _, hr => hr
  | .iptr _, _, _, hr => hr
  | .agg cs, u, hm, hr => by
    obtain ⟨vs, rfl, hl⟩ := hr
    exact ⟨vs, rfl, RelL.cut h hm hl⟩
  | .tuple cs, u, hm, hr => by
    obtain ⟨vs, rfl, hl⟩ := hr
    exact ⟨vs, rfl, RelL.cut h hm hl⟩
  | .func f cs, u, hm, hr => by
    obtain ⟨vs, rfl, hl⟩ := hr
    exact ⟨vs, rfl, RelL.cut h hm hl⟩
  | .iface t x, u, hm, hr => by
    obtain ⟨y, rfl, hl⟩ := hr
    exact ⟨y, rfl, Rel.cut h hm hl⟩
  | .map n, u, hm, hr => by
    obtain ⟨hn, b, rfl, hb⟩ := hr
    have hn' := h.lt n (hm n (by simp [AV.mask, Nat.testBit_two_pow])) hn
    refine ⟨hn', b, rfl, fun es hc => ?_⟩
    rcases h.same n hn' with h1 | h1
    · exact hb es (h1 ▸ hc)
    · rw [h1] at hc; cases hc
  | .iter n, u, hm, hr => by
    obtain ⟨hn, b, rfl, hb⟩ := hr
    have hn' := h.lt n (hm n (by simp [AV.mask, Nat.testBit_two_pow])) hn
    refine ⟨hn', b, rfl, fun s p hc => ?_⟩
    rcases h.same n hn' with h1 | h1
    · exact hb s p (h1 ▸ hc)
    · rw [h1] at hc; cases hc
theorem RelL.cut {C : Cfg} {I : Imm} {σ σ' : ASt} {R : Ren} {ok : Nat → Prop} (h : Cut σ σ' ok) : ∀ {vs : List AV} {us : List Value}, (∀ n, (maskL vs).testBit n = true → ok n) → RelL C I vs σ R us → RelL C I vs σ' R us
  | [], _, _, hr => hr
  | v :: l, us, hm, hr => by
    obtain ⟨u, us', rfl, h1, h2⟩ := hr
    exact ⟨u, us', rfl, Rel.cut h (fun n hn => hm n (by simp [maskL, hn])) h1, RelL.cut h (fun n hn => hm n (by simp [maskL, hn])) h2⟩
end

mutual
theorem AV.mask_under {m : Nat} : ∀ {v : AV}, v.under m = true → ∀ n, v.mask.testBit n = true → n < m
  | .int _ _, _, n, h => by simp [AV.mask] at h
  | .bool _, _, n, h => by simp [AV.mask] at h
  | .str _, _, n, h => by simp [AV.mask] at h
  | .nil _, _, n, h => by simp [AV.mask] at h
  | .tree _ _ _, _, n, h => by simp [AV.mask] at h
  | .iptr _, _, n, h => by simp [AV.mask] at h
  | .ptr k _ _, hu, n, h => by simp [AV.mask, Nat.testBit_two_pow] at h; simp [AV.under] at hu; omega
  | .row k _ _ _, hu, n, h => by simp [AV.mask, Nat.testBit_two_pow] at h; simp [AV.under] at hu; omega
  | .map k, hu, n, h => by simp [AV.mask, Nat.testBit_two_pow] at h; simp [AV.under] at hu; omega
  | .iter k, hu, n, h => by simp [AV.mask, Nat.testBit_two_pow] at h; simp [AV.under] at hu; omega
  | .agg cs, hu, n, h => maskL_under hu n h
  | .tuple cs, hu, n, h => maskL_under hu n h
  | .func _ cs, hu, n, h => maskL_under hu n h
  | .iface _ x, hu, n, h => AV.mask_under (v := x) hu n h
theorem maskL_under {m : Nat} : ∀ {vs : List AV}, underL m vs = true → ∀ n, (maskL vs).testBit n = true → n < m
  | [], _, n, h => by simp [maskL] at h
  | v :: l, hu, n, h => by
    simp only [underL, Bool.and_eq_true] at hu
    simp only [maskL, Nat.testBit_or, Bool.or_eq_true] at h
    rcases h with h | h
    · exact AV.mask_under hu.1 n h
    · exact maskL_under hu.2 n h
end

end Go.Ax
