/- A run's answer with the rows that nothing names given up. -/
import Derived.Test.YtpknkndjflijaaaAxExt
namespace Go.Ax

def AEnd.v : AEnd → AV
  | .ret v => v
  | .panic v => v

def trim1 (e : AEnd) (σ : ASt) : ASt := sweep 0 0 [(0, e.v)] σ

def trim (r : AEnd × ASt) : AEnd × ASt := (r.1, trim1 r.1 (trim1 r.1 (trim1 r.1 r.2)))

/-- What a run comes to, trimmed. -/
def run (C : Cfg) (k f : Nat) (args : List AV) : Option (AEnd × ASt) := (acall C k [] f args []).map trim

section
variable {P : Program} {C C' : Cfg} {A : Nat → Prop} {I : Imm} {R : Ren} {w : World}

theorem trim1_rel {σ : ASt} {e : AEnd} {ce : Ending} {I0 : Imm} {w0 : World} (h : Stp C A [] [] Ren.nil I0 w0 σ R I w) (he : ERel C I e σ R ce) :
    Stp C A [] [] Ren.nil I0 w0 (trim1 e σ) R I w ∧ ERel C I e (trim1 e σ) R ce := by
  have hc := sweep_cut (σ := σ) (fb := 0) (cb := 0) (E := [(0, e.v)]) (Nat.zero_le _)
  have hv : ∀ n, e.v.mask.testBit n = true → n < 0 ∨ (maskE [(0, e.v)] ||| maskR (σ.drop 0)).testBit n = true := fun n hn => .inr (testBit_or_left (testBit_or_left hn))
  refine ⟨⟨h.rel.cut hc fun n r hn hr k hk => .inr (testBit_or_right (maskR_get (k := n) (r := r) (by simpa using hr) k hk)), (fun b (hb : b ∈ []) => absurd hb List.not_mem_nil), ?_, h.frm, h.fresh⟩, ?_⟩
  · exact ⟨Nat.zero_le _, h.ext.imm, fun _ _ _ hn => absurd hn (Nat.not_lt_zero _), fun _ _ hn => absurd hn (Nat.not_lt_zero _), fun _ _ _ hn => absurd hn (Nat.not_lt_zero _)⟩
  · cases e <;> cases ce <;> try (exact he.elim)
    · exact Rel.cut hc hv he
    · obtain ⟨u, h1, h2⟩ := he
      exact ⟨u, h1, Rel.cut hc hv h2⟩

theorem pureExt_trim (ok : OK P C') {f : Nat} {tab : List AV → Option (AEnd × ASt)} (h : ∀ args e σ1, tab args = some (e, σ1) → maskL args = 0 ∧ ∃ k, run C' k f args = some (e, σ1)) : ExtOK P C f (pureExt tab) := by
  intro bases args σ e σ' hrun A R I w cargs hrel hb hargs hA
  unfold pureExt at hrun
  split at hrun
  · rename_i e1 σ1 hr
    simp only [Option.some.injEq, Prod.mk.injEq] at hrun
    obtain ⟨rfl, rfl⟩ := hrun
    obtain ⟨h0, k, hk⟩ := h args e1 σ1 hr
    unfold run at hk
    rw [Option.map_eq_some_iff] at hk
    obtain ⟨⟨e2, σ2⟩, hk, ht⟩ := hk
    simp only [trim, Prod.mk.injEq] at ht
    obtain ⟨rfl, rfl⟩ := ht
    have hw : WRel C' (fun b => w.heap.size ≤ b) [] Ren.nil I w :=
      ⟨fun i j hi => by obtain ⟨r, hr, _⟩ := hi; simp at hr, fun n hn => by obtain ⟨r, hr, _⟩ := hn; simp at hr, fun n e cs hn => by simp at hn, fun n es hn => by simp at hn, fun n s p hn => by simp at hn, hrel.imm, fun b o v n _ hn => by obtain ⟨r, hr, _⟩ := hn; simp at hr⟩
    obtain ⟨h1, h2⟩ := acall_sound ok k [] f args [] e2 σ2 hk _ Ren.nil I w cargs hw (fun b hb => by cases hb) (hargs.cfg.toNil h0) (fun b hb => hb)
    refine ⟨h1, Calls.mono h2 fun ce w' hce => ?_⟩
    obtain ⟨R1, I1, hs, he⟩ := hce
    obtain ⟨s1, r1⟩ := trim1_rel hs he
    obtain ⟨s2, r2⟩ := trim1_rel s1 r1
    obtain ⟨s3, r3⟩ := trim1_rel s2 r2
    exact ⟨_, I1, frame_rel hrel hb hA s3.cfg, (ERel.sh r3.cfg)⟩
  · cases hrun

end
end Go.Ax
