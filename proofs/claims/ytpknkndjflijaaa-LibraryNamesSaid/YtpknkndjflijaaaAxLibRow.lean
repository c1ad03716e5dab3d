/- LibraryNames: the row. -/
import Derived.Test.YtpknkndjflijaaaRows
import Derived.Test.YtpknkndjflijaaaAxLibLaw
import Derived.WalkKit
import Derived.ProofKit
import Derived.OpenShut
import Derived.ShutString
import Derived.ChangeOld
import Derived.Below
import Derived.SizedLaws
namespace Go.Proofs.Ytpknkndjflijaaa.libraryNames
open Go.ChangeShapes Go.WideShapes Go.ChangeAt Go.RowKit
open Go.ChangeMaps (open_string shut_string)

theorem walk (w : World) : Calls Try.prog 3 #[] w fun e w' => e = .returned (.bool true) ∧ Below w.heap.size w w' := by
  have hw : Go.Ax.WRel Go.Ax.Try.cfg2 (fun b => w.heap.size ≤ b) [] Go.Ax.Ren.nil (fun _ _ => none) w :=
    ⟨fun i j hi => by obtain ⟨r, hr, _⟩ := hi; simp at hr, fun n hn => by obtain ⟨r, hr, _⟩ := hn; simp at hr, fun n e cs hn => by simp at hn, fun n es hn => by simp at hn, fun n s p hn => by simp at hn, (fun b o v (hb : none = some v) => by cases hb), (fun b o v n (hb : none = some v) => by cases hb)⟩
  obtain ⟨_, h⟩ := Go.Ax.acall_sound Go.Ax.Try.ok2 100 [] 3 [] [] _ _ Go.Ax.Try.law _ Go.Ax.Ren.nil _ w [] hw (fun b hb => absurd hb List.not_mem_nil) rfl (fun b hb => hb)
  refine Calls.mono h fun e w' he => ?_
  obtain ⟨R', I', hs, hr⟩ := he
  cases e with
  | returned v =>
    have : v = .bool true := hr
    subst this
    exact ⟨rfl, hs.frm.os, hs.frm.tape, hs.frm.output, hs.frm.size, fun k hk => hs.frm.same k (by omega)⟩
  | panicked c => exact hr.elim
  | outgrown => exact hr.elim

theorem own : ownKnob Try.prog.godebug = none := by kernel_rfl
set_option maxRecDepth 100000 in
theorem lifted (os : Os) (started : os.Started) (H : Type) (enc : TypeId × Value → H) :
    ReturnsInHanded {} Try.checked os 3 .any (Rows.libraryNamesSpec.pre6 enc Try.prog Try.f3 Rows.libraryNamesRow.domain false) (Rows.libraryNamesSpec.post enc Try.prog Try.f3 false true false false) := by
  refine returnsInHanded_of_change_sized (C := Try.checked) own started (by kernel_rfl) Try.func3
    (ChangeSpec.witness6 (enc := enc) (C := Try.checked) false ⟨#[], #[], []⟩ 8 (by kernel_rfl) (by kernel_rfl) (by kernel_rfl) (by kernel_rfl)) ?_
  intro W base args ds gs before hval0 hW hcnd hsz0 _
  have hW' := hW
  obtain ⟨p, q, hA0, hV, rfl, hfz, hnd⟩ := hW
  have hA : DataW.TrodAll enc Try.prog W 0 (fun _ => true) true Try.f3.params.toList args.toList ds p := hA0
  rw [Try.params3] at hA
  obtain ⟨rfl, rfl, rfl⟩ := trodAll_none hA
  obtain ⟨rfl, rfl⟩ := trodVars_none hV
  refine (walk W).mono fun e W' ⟨he, bel⟩ => ?_
  subst he
  exact ⟨_, rfl, _, _, _, [], _, [], hW', trodAll_mk1 (shut_bool Try.underlying4 _), trodAll_mk0, rfl, bel.frame _, fun h => by cases h⟩
theorem over : Rows.libraryNamesRow.holds Try.pinned (OpenSpec.ofChange Rows.libraryNamesSpec) :=
  OpenClaim.holds_of_wide 3 Try.f3 rfl rfl rfl rfl rfl rfl rfl ⟨rfl, rfl, rfl, rfl, rfl⟩ rfl rfl rfl rfl rfl (by kernel_rfl) Try.func3 (by kernel_rfl)
    (of_decide_eq_true (by kernel_rfl)) (by unfold Func.isWrapper; first | (rw [if_pos (by decide +kernel)]; kernel_rfl) | (rw [if_neg (by decide +kernel)]; exact ⟨rfl, rfl⟩))
    (fun os started H enc _ => lifted os started H enc)
theorem proved : Rows.LibraryNamesSaid := over
end Go.Proofs.Ytpknkndjflijaaa.libraryNames
namespace Go.Proofs.Ytpknkndjflijaaa
/-- The row, under a short name, for the claim. -/
theorem libraryNames_holds : Rows.LibraryNamesSaid := libraryNames.proved
#print axioms libraryNames_holds
end Go.Proofs.Ytpknkndjflijaaa
