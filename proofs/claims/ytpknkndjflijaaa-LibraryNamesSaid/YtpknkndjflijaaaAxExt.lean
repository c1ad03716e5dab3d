/- Functions that are answered for by runs under another table. -/
import Derived.Test.YtpknkndjflijaaaAxFrame
namespace Go.Ax

section
variable {P : Program} {C C' : Cfg} {A : Nat → Prop} {I : Imm} {R : Ren} {w : World}

mutual
theorem Rel.cfg : ∀ {v : AV} {σ : ASt} {R : Ren} {u : Value}, Rel C I v σ R u → Rel C' I v σ R u
  | .int _ _, _, _, _, h => h
  | .bool _, _, _, _, h => h
  | .str _, _, _, _, h => h
  | .nil _, _, _, _, h => h
  | .ptr _ _ _, _, _, _, h => h
  | .row _ _ _ _, _, _, _, h => h
  | .map _, _, _, _, h => h
  | .iter _, _, _, _, h => h
  | .tree l c f, _, _, _, h => by
    obtain ⟨a, cap, h1, h2, h3, h4⟩ := h
    exact ⟨a, cap, h1, h2, h3, h4.imp id fun ⟨b, off, vs, h5, h6, h7⟩ => ⟨b, off, vs, h5, RelL.cfg h6, h7⟩⟩
  | .iptr c, _, _, _, h => by
    obtain ⟨b, off, vs, h1, h2, h3⟩ := h
    exact ⟨b, off, vs, h1, RelL.cfg h2, h3⟩
  | .agg cs, _, _, _, h => by
    obtain ⟨vs, h1, h2⟩ := h
    exact ⟨vs, h1, RelL.cfg h2⟩
  | .tuple cs, _, _, _, h => by
    obtain ⟨vs, h1, h2⟩ := h
    exact ⟨vs, h1, RelL.cfg h2⟩
  | .func f cs, _, _, _, h => by
    obtain ⟨vs, h1, h2⟩ := h
    exact ⟨vs, h1, RelL.cfg h2⟩
  | .iface t x, _, _, _, h => by
    obtain ⟨y, h1, h2⟩ := h
    exact ⟨y, h1, Rel.cfg h2⟩
theorem RelL.cfg : ∀ {vs : List AV} {σ : ASt} {R : Ren} {us : List Value}, RelL C I vs σ R us → RelL C' I vs σ R us
  | [], _, _, _, h => h
  | v :: l, _, _, _, h => by
    obtain ⟨u, us, h1, h2, h3⟩ := h
    exact ⟨u, us, h1, Rel.cfg h2, RelL.cfg h3⟩
end

theorem WRel.cfg {σ : ASt} (h : WRel C A σ R I w) : WRel C' A σ R I w :=
  ⟨h.inj, h.al, fun n e cs hn => let ⟨c, h1, h2, h3, h4, h5⟩ := h.cells n e cs hn; ⟨c, h1, h2, h3, h4.cfg, h5⟩,
    fun n es hn => let ⟨c, d, h1, h2, h3⟩ := h.map n es hn; ⟨c, d, h1, h2.cfg, h3.cfg⟩, h.iter, h.imm, h.sep⟩

theorem ERel.cfg {e : AEnd} {σ : ASt} {ce : Ending} (h : ERel C I e σ R ce) : ERel C' I e σ R ce := by
  cases e <;> cases ce <;> try (exact h.elim)
  · exact Rel.cfg (C := C) h
  · obtain ⟨u, h1, h2⟩ := h
    exact ⟨u, h1, h2.cfg⟩

theorem Stp.cfg {bases : List Nat} {σ σ' : ASt} {R' : Ren} {I' : Imm} {w' : World} (h : Stp C A bases σ R I w σ' R' I' w') : Stp C' A bases σ R I w σ' R' I' w' :=
  ⟨h.rel.cfg, h.barr, h.ext, h.frm, h.fresh⟩

/-- An answer by a table of runs on the empty store. -/
def pureExt (run : List AV → Option (AEnd × ASt)) (args : List AV) (σ : ASt) : Option (AEnd × ASt) :=
  match run args with
  | some (e, σ1) => some (e.sh σ.length, σ ++ shR σ.length σ1)
  | none => none

theorem pureExt_ok (ok : OK P C') {f : Nat} {run : List AV → Option (AEnd × ASt)} (h : ∀ args e σ1, run args = some (e, σ1) → maskL args = 0 ∧ ∃ k, acall C' k [] f args [] = some (e, σ1)) : ExtOK P C f (pureExt run) := by
  intro bases args σ e σ' hrun A R I w cargs hrel hb hargs hA
  unfold pureExt at hrun
  split at hrun
  · rename_i e1 σ1 hr
    simp only [Option.some.injEq, Prod.mk.injEq] at hrun
    obtain ⟨rfl, rfl⟩ := hrun
    obtain ⟨h0, k, hk⟩ := h args e1 σ1 hr
    obtain ⟨h1, h2⟩ := frame (acall_sound ok k) h0 hk hrel.cfg hb hargs.cfg hA
    exact ⟨h1, Calls.mono h2 fun ce w' ⟨R', I', hs, he⟩ => ⟨R', I', hs.cfg, he.cfg⟩⟩
  · cases hrun

end
end Go.Ax
