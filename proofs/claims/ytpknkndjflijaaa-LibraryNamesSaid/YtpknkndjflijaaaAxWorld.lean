/- The abstract store and the world: reading, writing, new rows. -/
import Derived.Test.YtpknkndjflijaaaAxRel
namespace Go.Ax

def live (σ : ASt) (n : Nat) : Prop := ∃ r, σ[n]? = some r ∧ r ≠ .dead

structure WRel (C : Cfg) (A : Nat → Prop) (σ : ASt) (R : Ren) (I : Imm) (w : World) : Prop where
  inj : ∀ i j, live σ i → live σ j → R.b i = R.b j → i = j
  al : ∀ n, live σ n → A (R.b n)
  cells : ∀ n e cs, σ[n]? = some (.cells e cs) → ∃ c, w.heap[R.b n]? = some (.cells c e (0, 0)) ∧ c.size = R.k n ∧ cs.length ≤ c.size ∧
    RelL C I cs σ R (c.toList.take cs.length) ∧ cs.all AV.one = true
  map : ∀ n es, σ[n]? = some (.map es) → ∃ ents clock, w.heap[R.b n]? = some (.map ents clock) ∧
    RelL C I (es.map (·.1)) σ R (ents.toList.map (·.key)) ∧ RelL C I (es.map (·.2)) σ R (ents.toList.map (·.val))
  iter : ∀ n s p, σ[n]? = some (.iter s p) → w.heap[R.b n]? = some (.stringIter ⟨s.toArray⟩ p)
  imm : ∀ b o v, I b o = some v → w.cell? ⟨b, o, none⟩ = some v
  sep : ∀ b o v n, I b o = some v → live σ n → b ≠ R.b n

/-- Only what may be written has turned. -/
structure Frm (A : Nat → Prop) (w w' : World) : Prop where
  os : w'.os = w.os
  tape : w'.tape = w.tape
  output : w'.output = w.output
  size : w.heap.size ≤ w'.heap.size
  same : ∀ b, ¬ A b → w'.heap[b]? = w.heap[b]?

theorem Frm.refl (A : Nat → Prop) (w : World) : Frm A w w := ⟨rfl, rfl, rfl, Nat.le_refl _, fun _ _ => rfl⟩
theorem Frm.trans {A : Nat → Prop} {w w' w'' : World} (h : Frm A w w') (k : Frm A w' w'') : Frm A w w'' :=
  ⟨k.os.trans h.os, k.tape.trans h.tape, k.output.trans h.output, Nat.le_trans h.size k.size, fun b hb => (k.same b hb).trans (h.same b hb)⟩

def rowUnder (m : Nat) : ARow → Bool
  | .cells _ cs => underL m cs
  | .map es => underL m (es.map (·.1)) && underL m (es.map (·.2))
  | _ => true

/-- Rows that outlive a frame name nothing of that frame. -/
def Barr (bases : List Nat) (σ : ASt) : Prop := ∀ b ∈ bases, b ≤ σ.length ∧ ∀ n r, n < b → σ[n]? = some r → rowUnder b r = true

structure DescOK (P : Program) (t : Nat) (k : AK) : Prop where
  h : match k with
    | .int k => P.underlying t = some (.int k)
    | .bool => P.underlying t = some .bool
    | .string => P.underlying t = some .string
    | .pointer e => P.underlying t = some (.pointer e)
    | .slice e => P.underlying t = some (.slice e)
    | .array n e => P.underlying t = some (.array n e)
    | .map k e => P.underlying t = some (.map k e)
    | .struct fs => ∃ fields, P.underlying t = some (.struct fields) ∧ (∀ f ∈ fields.toList, (P.info? f.type).isSome = true) ∧
        fields.toList.map (fun f => (f.offset, P.cellsOf f.type, f.type)) = fs
    | .iface => ∃ ms, P.underlying t = some (.interface ms)
    | .func => ∃ ps rs v, P.underlying t = some (.func ps rs v)
    | .other => ∃ d, P.underlying t = some d ∧ (match d with | .struct _ | .array _ _ | .interface _ => False | _ => True)

structure TyOK (P : Program) (t : Nat) (T : ATy) : Prop where
  info : ∃ i z, P.info? t = some i ∧ i.size = T.size ∧ i.bytes = T.bytes ∧ i.zero = some z ∧ z.cells.toList.mapM ofValue = some T.zero ∧ T.zero.length = T.size ∧ T.zero.all AV.one = true ∧ (T.agg = false → z.oneCell' = true)
  desc : DescOK P t T.k

theorem TyOK.isAgg {P : Program} {t : Nat} {T : ATy} (h : TyOK P t T) (w : World) : (isAgg t).run P w = .ok T.agg w := by
  have hd := h.desc.h
  unfold ATy.agg
  cases hk : T.k <;> rw [hk] at hd <;> dsimp only at hd
  case struct fs => obtain ⟨_, hd, _⟩ := hd; simp [Go.isAgg, run_underlying hd]
  case iface => obtain ⟨_, hd⟩ := hd; simp [Go.isAgg, run_underlying hd]
  case func => obtain ⟨_, _, _, hd⟩ := hd; simp [Go.isAgg, run_underlying hd]
  case other => obtain ⟨d, hd, hx⟩ := hd; cases d <;> first | exact hx.elim | simp [Go.isAgg, run_underlying hd]
  all_goals simp [Go.isAgg, run_underlying hd]

theorem TyOK.sizeOf {P : Program} {t : Nat} {T : ATy} (h : TyOK P t T) (w : World) : (Go.sizeOf t).run P w = .ok T.size w := by
  obtain ⟨i, z, hi, hs, _⟩ := h.info
  simp [Go.sizeOf, typeInfo, hi, hs]

theorem TyOK.typeInfo {P : Program} {t : Nat} {T : ATy} (h : TyOK P t T) : ∃ i z, P.info? t = some i ∧ (∀ w, (Go.typeInfo t).run P w = .ok i w) ∧ i.size = T.size ∧ i.bytes = T.bytes ∧ i.zero = some z := by
  obtain ⟨i, z, hi, hs, hb, hz, _⟩ := h.info
  exact ⟨i, z, hi, fun w => by simp [Go.typeInfo, hi], hs, hb, hz⟩

/-! ### Constants -/

theorem ofValue_rel {C : Cfg} {I : Imm} {σ : ASt} {R : Ren} {v : Value} {x : AV} (h : ofValue v = some x) : Rel C I x σ R v := by
  unfold ofValue at h
  split at h <;> first | (injection h with h; subst h; simp [Rel, Nl.val]; done) | (cases h; done) | skip
  all_goals (injection h with h; subst h; simp only [Rel])

theorem mapM_ofValue {C : Cfg} {I : Imm} {σ : ASt} {R : Ren} : ∀ {vs : List Value} {xs : List AV}, vs.mapM ofValue = some xs → RelL C I xs σ R vs
  | [], xs, h => by simp at h; subst h; simp [RelL]
  | v :: l, xs, h => by
    simp only [List.mapM_cons, Option.bind_eq_bind, Option.bind_eq_some_iff] at h
    obtain ⟨x, h1, ys, h2, h3⟩ := h
    cases h3
    exact ⟨v, l, rfl, ofValue_rel h1, mapM_ofValue h2⟩

theorem TyOK.zero {P : Program} {t : Nat} {T : ATy} (h : TyOK P t T) : ∃ z, (∀ w, (zeroValue t).run P w = .ok z w) ∧ (∀ C I σ R, RelL C I T.zero σ R z.cells.toList) ∧ z.cells.size = T.size := by
  obtain ⟨i, z, hi, hs, hb, hz, hm, hl, _⟩ := h.info
  refine ⟨z, fun w => by simp [zeroValue, Go.typeInfo, hi, hz], fun C I σ R => mapM_ofValue hm, ?_⟩
  have := RelL.length (mapM_ofValue (C := ⟨fun _ => none, fun _ => none, fun _ => false, fun _ => none, fun _ _ => none, fun _ => false, fun _ => false, fun _ _ => false⟩) (I := fun _ _ => none) (σ := []) (R := Ren.nil) hm)
  rw [Array.length_toList] at this
  omega

/-! ### One cell, many cells -/

theorem Rel.one {C : Cfg} {I : Imm} {σ : ASt} {R : Ren} {v : AV} {u : Value} (h : Rel C I v σ R u) (h1 : v.one = true) : u.oneCell' = true := by
  cases v <;> simp only [AV.one] at h1 <;> try (cases h1; done)
  case int => cases h; rfl
  case bool => cases h; rfl
  case str => cases h; rfl
  case nil k => cases h; cases k <;> first | rfl | cases h1
  case ptr => obtain ⟨_, b, rfl, _⟩ := h; rfl
  case row => obtain ⟨_, b, c, rfl, _⟩ := h; rfl
  case tree => obtain ⟨a, c, rfl, _⟩ := h; rfl
  case iptr => obtain ⟨b, o, vs, rfl, _⟩ := h; rfl
  case func => obtain ⟨vs, rfl, _⟩ := h; rfl
  case iface => obtain ⟨y, rfl, _⟩ := h; rfl
  case map => obtain ⟨_, b, rfl, _⟩ := h; rfl
  case iter => obtain ⟨_, b, rfl, _⟩ := h; rfl

theorem Rel.cells {C : Cfg} {I : Imm} {σ : ASt} {R : Ren} {v : AV} {u : Value} (h : Rel C I v σ R u) : RelL C I v.cells σ R u.cells.toList := by
  cases v
  case agg cs => obtain ⟨vs, rfl, hl⟩ := h; simpa [AV.cells, Value.cells] using hl
  all_goals
    have : u.cells = #[u] := by
      first
        | (cases h; rfl)
        | (obtain ⟨_, _, rfl, _⟩ := h; rfl)
        | (obtain ⟨_, _, _, rfl, _⟩ := h; rfl)
        | (obtain ⟨_, rfl, _⟩ := h; rfl)
        | (rename_i k; cases h; cases k <;> rfl)
    rw [this]; exact ⟨u, [], rfl, h, rfl⟩

theorem RelL.one {C : Cfg} {I : Imm} {σ : ASt} {R : Ren} : ∀ {vs : List AV} {us : List Value}, RelL C I vs σ R us → vs.all AV.one = true → ∀ u ∈ us, u.oneCell' = true
  | [], _, h, _, u, hu => by simp [RelL] at h; subst h; cases hu
  | v :: l, us, h, h1, u, hu => by
    obtain ⟨x, us', rfl, h2, h3⟩ := h
    simp only [List.all_cons, Bool.and_eq_true] at h1
    rcases List.mem_cons.1 hu with rfl | hu
    · exact h2.one h1.1
    · exact RelL.one h3 h1.2 u hu

theorem run_loadCells_lit (P : Program) (w : World) (b off : Nat) (us : List Value) (h : ∀ i u, us[i]? = some u → w.cell? ⟨b, off + i, none⟩ = some u) :
    (loadCells ⟨b, off, none⟩ us.length).run P w = .ok us.toArray w :=
  run_loadCells_list w _ us fun j v hv => by rw [Addr.add_lit]; exact h j v hv

/-- A variable of type t is read out of cells. -/
theorem run_loadVar_part {P : Program} {C : Cfg} {I : Imm} {σ : ASt} {R : Ren} {t : Nat} {T : ATy} (hT : TyOK P t T) {w : World} {b o off : Nat} {cs : List AV} {us : List Value} {v : AV}
    (hl : RelL C I cs σ R us) (hc : ∀ i u, us[i]? = some u → w.cell? ⟨b, o + i, none⟩ = some u) (hp : partOf T cs off = some v) :
    ∃ u, (loadVar t ⟨b, o + off, none⟩).run P w = .ok u w ∧ Rel C I v σ R u := by
  unfold partOf at hp
  split at hp
  · rename_i ha
    split at hp
    · rename_i hle
      injection hp with hp; subst hp
      have hlen := hl.length
      have hl2 : ((us.drop off).take T.size).length = T.size := by simp; omega
      have hr := run_loadCells_lit P w b (o + off) ((us.drop off).take T.size) (fun i u hu => by
        rw [List.getElem?_take] at hu
        split at hu
        · rw [List.getElem?_drop] at hu
          rw [Nat.add_assoc]; exact hc _ _ hu
        · cases hu)
      rw [hl2] at hr
      refine ⟨.agg ((us.drop off).take T.size).toArray, ?_, ⟨_, rfl, (hl.drop off).take T.size⟩⟩
      simp only [loadVar, Sem.run_bind, hT.isAgg, ha, Result.andThen_ok, if_true, hT.sizeOf, hr, Sem.run_pure]
    · cases hp
  · rename_i ha
    have ha' : T.agg = false := by simpa using ha
    obtain ⟨u, hu, hr⟩ := hl.get hp
    refine ⟨u, ?_, hr⟩
    simp only [loadVar, Sem.run_bind, hT.isAgg, ha', Result.andThen_ok, Bool.false_eq_true, if_false, run_load, hc _ _ hu]

theorem WRel.at_ {C : Cfg} {A : Nat → Prop} {σ : ASt} {R : Ren} {I : Imm} {w : World} (h : WRel C A σ R I w) {n e : Nat} {cs : List AV} (hn : σ[n]? = some (.cells e cs)) :
    ∃ us, RelL C I cs σ R us ∧ ∀ i u, us[i]? = some u → w.cell? ⟨R.b n, 0 + i, none⟩ = some u := by
  obtain ⟨c, hh, _, hle, hl, _⟩ := h.cells n e cs hn
  refine ⟨_, hl, fun i u hu => ?_⟩
  rw [List.getElem?_take] at hu
  split at hu
  · simp only [World.cell?, hh, Nat.zero_add]
    simpa using hu
  · cases hu

/-- A load. -/
theorem run_loadAt {P : Program} {C : Cfg} (hty : ∀ t T, C.ty t = some T → TyOK P t T) {A : Nat → Prop} {σ : ASt} {R : Ren} {I : Imm} {w : World} (h : WRel C A σ R I w) {t : Nat} {a v : AV} {ca : Value}
    (ha : Rel C I a σ R ca) (hl : aload C σ t a = some v) : ∃ u, (Instr.loadAt t ca).run P w = .ok u w ∧ Rel C I v σ R u := by
  unfold aload at hl
  split at hl
  · rename_i T n ver off hT
    split at hl
    · rename_i e cs hn
      split at hl
      · rename_i hv
        obtain ⟨_, b, rfl, hb⟩ := ha
        obtain rfl := (hb e cs hn).2 hv
        obtain ⟨us, hus, hc⟩ := h.at_ hn
        obtain ⟨u, h1, h2⟩ := run_loadVar_part (hty t T hT) hus hc hl
        rw [Nat.zero_add] at h1
        exact ⟨u, by simp [Instr.loadAt, Instr.sureAddr, h1], h2⟩
      · cases hl
    · cases hl
  · rename_i T cells hT
    obtain ⟨b, off, vs, rfl, hvs, hi⟩ := ha
    obtain ⟨u, h1, h2⟩ := run_loadVar_part (hty t T hT) (o := off) (b := b) hvs (fun i u hu => h.imm _ _ _ (hi i u hu)) hl
    refine ⟨u, by simpa [Instr.loadAt, Instr.sureAddr] using h1, ?_⟩
    exact Rel.ext (σ := []) (R := Ren.nil) ⟨Nat.zero_le _, fun _ _ _ h => h, fun _ _ _ hn => absurd hn (Nat.not_lt_zero _), fun _ _ hn => absurd hn (Nat.not_lt_zero _), fun _ _ _ hn => absurd hn (Nat.not_lt_zero _)⟩ h2
  · cases hl

end Go.Ax
