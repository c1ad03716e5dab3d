/- LibraryNames, run. Printed by genlib.py of this session. -/
import Derived.Test.YtpknkndjflijaaaAxLibRuns0
import Derived.Test.YtpknkndjflijaaaAxLibRuns1
import Derived.Test.YtpknkndjflijaaaAxLibRuns2
import Derived.Test.YtpknkndjflijaaaAxLibRuns3
namespace Go.Ax.Try
set_option maxRecDepth 100000

theorem opsAll : ∀ p ∈ opsList, run cfg0 100 7 [.str p.1] = some p.2 := by
  simp only [opsList, List.forall_mem_cons]
  exact ⟨runOps0, runOps1, runOps2, runOps3, runOps4, runOps5, runOps6, runOps7, runOps8, runOps9, runOps10, runOps11, runOps12, runOps13, runOps14, runOps15, runOps16, runOps17, runOps18, runOps19, runOps20, runOps21, runOps22, runOps23, runOps24, runOps25, runOps26, fun _ h => absurd h List.not_mem_nil⟩

def opsTab : List AV → Option (AEnd × ASt)
  | [.str s] => (opsList.find? fun p => p.1 == s).map (·.2)
  | _ => none

def namesTab : List AV → Option (AEnd × ASt)
  | [] => some names
  | _ => none

theorem opsTab_ok {C : Cfg} : ExtOK Go.Proofs.Try.prog C 7 (pureExt opsTab) := pureExt_trim ok0 fun args e σ1 h => by
  unfold opsTab at h
  split at h
  · rename_i s
    rw [Option.map_eq_some_iff] at h
    obtain ⟨p, hp, he⟩ := h
    have h1 := opsAll p (List.mem_of_find?_eq_some hp)
    have h2 := List.find?_some hp
    have h3 : p.1 = s := by simpa using h2
    rw [h3, he] at h1
    exact ⟨by simp [maskL, AV.mask], 100, h1⟩
  · cases h

theorem namesTab_ok {C : Cfg} : ExtOK Go.Proofs.Try.prog C 4 (pureExt namesTab) := pureExt_trim ok0 fun args e σ1 h => by
  unfold namesTab at h
  split at h
  · injection h with h
    refine ⟨rfl, 100, ?_⟩
    rw [runNames, h]
  · cases h

noncomputable def ext2 : Nat → Option (List AV → ASt → Option (AEnd × ASt)) := fun f => bif Nat.beq f 7 then some (pureExt opsTab) else bif Nat.beq f 4 then some (pureExt namesTab) else none
noncomputable def cfg2 : Cfg := cfgOf 100 ty 31 fn (fun _ => false) ext2 live mut0 own0 sw
theorem ok2 : OK Go.Proofs.Try.prog cfg2 := OK.of mix tyk fnk namek (fun f g h => by
  unfold ext2 at h
  cases hb : Nat.beq f 7 with
  | true =>
    rw [hb] at h
    obtain rfl := Nat.eq_of_beq_eq_true hb
    injection h with h; subst h
    exact opsTab_ok
  | false =>
    rw [hb] at h
    cases hb2 : Nat.beq f 4 with
    | true =>
      rw [hb2] at h
      obtain rfl := Nat.eq_of_beq_eq_true hb2
      injection h with h; subst h
      exact namesTab_ok
    | false => rw [hb2] at h; cases h)

theorem law : acall cfg2 100 [] 3 [] [] = some (.ret (.bool true), []) := by kernel_rfl
end Go.Ax.Try
