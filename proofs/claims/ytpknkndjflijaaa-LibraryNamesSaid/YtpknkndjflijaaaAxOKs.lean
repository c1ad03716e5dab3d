/- When a table fits a program. -/
import Derived.Test.YtpknkndjflijaaaAxCall
namespace Go.Ax

def kOf (P : Program) : TypeDesc → Option AK
  | .int k => some (.int k)
  | .bool => some .bool
  | .string => some .string
  | .pointer e => some (.pointer e)
  | .slice e => some (.slice e)
  | .array n e => some (.array n e)
  | .map k e => some (.map k e)
  | .struct fs => if fs.toList.all (fun f => (P.info? f.type).isSome) then some (.struct (fs.toList.map fun f => (f.offset, P.cellsOf f.type, f.type))) else none
  | .interface _ => some .iface
  | .func _ _ _ => some .func
  | _ => none

def tyOf (P : Program) (t : Nat) : Option ATy :=
  match P.info? t, (P.underlying t).bind (kOf P) with
  | some i, some k =>
    match i.zero with
    | some z =>
      match z.cells.toList.mapM ofValue with
      | some zs => if zs.length = i.size ∧ zs.all AV.one = true ∧ ((⟨k, i.size, i.bytes, zs⟩ : ATy).agg = true ∨ z.oneCell' = true) then some ⟨k, i.size, i.bytes, zs⟩ else none
      | none => none
    | none => none
  | _, _ => none

theorem kOf_ok {P : Program} {t : Nat} {d : TypeDesc} {k : AK} (hd : P.underlying t = some d) (h : kOf P d = some k) : DescOK P t k := by
  refine ⟨?_⟩
  cases d <;> simp only [kOf] at h <;> try (injection h with h; subst h)
  case struct fs =>
    split at h
    · rename_i hall
      injection h with h; subst h
      exact ⟨fs, hd, fun f hf => (List.all_eq_true.1 hall) f hf, rfl⟩
    · cases h
  case interface ms => exact ⟨ms, hd⟩
  case func ps rs v => exact ⟨ps, rs, v, hd⟩
  all_goals first | exact hd | cases h

theorem tyOf_ok {P : Program} {t : Nat} {T : ATy} (h : tyOf P t = some T) : TyOK P t T := by
  unfold tyOf at h
  split at h
  · rename_i i k hi hk
    rw [Option.bind_eq_some_iff] at hk
    obtain ⟨d, hd, hk⟩ := hk
    split at h
    · rename_i z hz
      split at h
      · rename_i zs hzs
        split at h
        · rename_i hc
          injection h with h; subst h
          refine ⟨⟨i, z, hi, rfl, rfl, hz, hzs, hc.1, hc.2.1, fun ha => hc.2.2.resolve_left (by rw [ha]; simp)⟩, kOf_ok hd hk⟩
        · cases h
      · cases h
    · cases h
  · cases h

/-- A table whose first n entries are as they should be. -/
theorem table_ok {α : Type} {n : Nat} {ty : Nat → Option α} {f : Nat → Option α} (h : (List.range n).map ty = (List.range n).map (fun t => bif (ty t).isSome then f t else none)) :
    ∀ t T, (bif Nat.blt t n then ty t else none) = some T → f t = some T := fun t T ht => by
  cases hb : Nat.blt t n with
  | false => rw [hb] at ht; cases ht
  | true =>
    rw [hb] at ht
    simp only [cond_true] at ht
    have hlt : t < n := Nat.le_of_ble_eq_true hb
    have h1 := congrArg (fun l => l[t]?) h
    simp [hlt, ht] at h1
    exact h1.symm

def cfgOf (n : Nat) (ty : Nat → Option ATy) (m : Nat) (fn : Nat → Option Func) (inl : Nat → Bool) (ext : Nat → Option (List AV → ASt → Option (AEnd × ASt))) (live : Nat → Nat → Option (List Nat)) (mutS own : Nat → Bool) (sw : Nat → Nat → Bool) : Cfg :=
  ⟨fun t => bif Nat.blt t n then ty t else none, fun f => bif Nat.blt f m then fn f else none, inl, ext, live, mutS, own, sw⟩

theorem OK.of {P : Program} {n m : Nat} {ty : Nat → Option ATy} {fn : Nat → Option Func} {inl : Nat → Bool} {ext : Nat → Option (List AV → ASt → Option (AEnd × ASt))} {live : Nat → Nat → Option (List Nat)} {mutS own : Nat → Bool} {sw : Nat → Nat → Bool}
    (mix : P.follows .mixedOrders = true)
    (hty : (List.range n).map ty = (List.range n).map (fun t => bif (ty t).isSome then tyOf P t else none))
    (hfn : (List.range m).map fn = (List.range m).map (fun f => bif (fn f).isSome then P.funcs[f]? else none))
    (hname : (List.range m).all (fun f => match fn f with | some F => !(F.name == "runtime.NumGoroutine") | none => true) = true)
    (hext : ∀ f g, ext f = some g → ExtOK P (cfgOf n ty m fn inl ext live mutS own sw) f g) : OK P (cfgOf n ty m fn inl ext live mutS own sw) := by
  refine ⟨mix, fun t T h => tyOf_ok (table_ok hty t T h), fun f F h => ⟨table_ok hfn f F h, ?_⟩, hext⟩
  have h' : (bif Nat.blt f m then fn f else none) = some F := h
  cases hb : Nat.blt f m with
  | false => rw [hb] at h'; cases h'
  | true =>
    rw [hb] at h'
    simp only [cond_true] at h'
    have hlt : f < m := Nat.le_of_ble_eq_true hb
    rw [List.all_eq_true] at hname
    have := hname f (List.mem_range.2 hlt)
    rw [h'] at this
    simpa using this

end Go.Ax
