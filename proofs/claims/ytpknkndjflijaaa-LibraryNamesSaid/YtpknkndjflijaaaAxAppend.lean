/- append. -/
import Derived.Test.YtpknkndjflijaaaAxRead
import Derived.Deep.Upon
namespace Go.Ax

structure Stp (C : Cfg) (A : Nat → Prop) (bases : List Nat) (σ : ASt) (R : Ren) (I : Imm) (w : World) (σ' : ASt) (R' : Ren) (I' : Imm) (w' : World) : Prop where
  rel : WRel C A σ' R' I' w'
  barr : Barr bases σ'
  ext : Ext σ R I σ' R' I'
  frm : Frm A w w'
  fresh : ∀ b o v, I' b o = some v → I b o = some v ∨ A b

section
variable {P : Program} {C : Cfg} {A : Nat → Prop} {I : Imm} {σ : ASt} {R : Ren} {w : World} {bases : List Nat}

theorem Stp.refl (h : WRel C A σ R I w) (hb : Barr bases σ) : Stp C A bases σ R I w σ R I w := ⟨h, hb, Ext.refl .., Frm.refl .., fun _ _ _ h => .inl h⟩

theorem byteCells_rel (s : List UInt8) : RelL C I (s.map fun b => .int .u8 b.toNat) σ R (byteCells ⟨s.toArray⟩) := by
  unfold byteCells
  induction s with
  | nil => rfl
  | cons b s ih => exact ⟨_, _, rfl, rfl, by simpa using ih⟩

/-- What is appended. -/
theorem src_of (hty : ∀ t T, C.ty t = some T → TyOK P t T) (h : WRel C A σ R I w) {xt e m : Nat} {X S : ATy} (hX : C.ty xt = some X) (hS : C.ty e = some S) {x : AV} {cells : List AV} {cx : Value} (hx : Rel C I x σ R cx)
    (hs : asrc C σ e X.k x = some (m, cells))
    (h1 : cells.all AV.one = true) (hl : cells.length = m * S.size) : ∃ news, Src P S.size xt cx m news w ∧ RelL C I cells σ R news := by
  have hXd := (hty xt X hX).desc.h
  unfold asrc at hs
  split at hs
  · rename_i e' hk
    rw [hk] at hXd
    split at hs
    · cases hs
    · rename_i hns
      obtain ⟨ad, cap, rfl, hle, hz | ⟨b, off, us, rfl, hus, hcell⟩⟩ := sliceOf_rel h hx (fun s he => hns s he) hs
      · obtain ⟨rfl, rfl⟩ := hz
        refine ⟨[], ?_, rfl⟩
        cases ad with
        | none => exact Src.ofNil w hXd cap
        | some ad => exact Src.ofSlice w hXd ad 0 cap [] (by simp) (by simp) (by simp)
      · exact ⟨us, Src.ofSlice w hXd _ m cap us (by rw [hus.length, hl]) (fun j u hu => by rw [Addr.add_lit]; exact hcell j u hu) (hus.one h1), hus⟩
  · rename_i hk
    rw [hk] at hXd
    split at hs
    · rename_i s S' hS'
      rw [hS] at hS'
      injection hS' with hS'; subst hS'
      split at hs
      · rename_i hsz
        simp only [Option.some.injEq, Prod.mk.injEq] at hs
        obtain ⟨rfl, rfl⟩ := hs
        cases hx
        refine ⟨byteCells ⟨s.toArray⟩, ?_, byteCells_rel s⟩
        rw [hsz]
        have := Src.ofString (P := P) w hXd ⟨s.toArray⟩
        rwa [show (ByteArray.mk s.toArray).size = s.length by simp [ByteArray.size]] at this
      · cases hs
    · cases hs
  · cases hs

theorem setCells_heap (b e : Nat) : ∀ (vs : List Value) (o : Nat) (cur : Array Value) (w : World), w.heap[b]? = some (.cells cur e (0, 0)) → o + vs.length ≤ cur.size →
    (w.setCells b o vs).heap[b]? = some (.cells (splice cur.toList o vs).toArray e (0, 0)) ∧ (∀ b', b' ≠ b → (w.setCells b o vs).heap[b']? = w.heap[b']?) ∧
    (w.setCells b o vs).heap.size = w.heap.size ∧ (w.setCells b o vs).os = w.os ∧ (w.setCells b o vs).tape = w.tape ∧ (w.setCells b o vs).output = w.output
  | [], o, cur, w, h, _ => by
    refine ⟨?_, fun _ _ => rfl, rfl, rfl, rfl, rfl⟩
    simp only [World.setCells, h, splice]
    simp
  | v :: vs, o, cur, w, h, hl => by
    simp only [List.length_cons] at hl
    have hcl : cur.toList.length = cur.size := Array.length_toList
    have e1 := setCell_eq_setRow w b o cur e (0, 0) v h
    have h' : (w.setCell ⟨b, o, none⟩ v).heap[b]? = some (.cells (cur.setIfInBounds o v) e (0, 0)) := by rw [e1]; exact setRow_heap w b cur _ e _ h
    obtain ⟨i1, i2, i3, i4, i5, i6⟩ := setCells_heap b e vs (o + 1) _ _ h' (by simp; omega)
    simp only [World.setCells]
    refine ⟨?_, fun b' hb => ?_, ?_, ?_, ?_, ?_⟩
    · rw [i1]
      congr 2
      congr 1
      apply List.ext_getElem?
      intro i
      rw [get_splice (by simp; omega), get_splice (by simp; omega)]
      simp only [Array.toList_setIfInBounds, List.length_cons, List.getElem?_set]
      by_cases c1 : i < o
      · rw [if_pos (by omega), if_pos c1, if_neg (by omega)]
      · rw [if_neg c1]
        by_cases c2 : i = o
        · subst c2
          rw [if_pos (by omega), if_pos rfl, if_pos (by omega), if_pos (by omega)]
          simp
        · rw [if_neg (by omega)]
          by_cases c3 : i < o + (vs.length + 1)
          · rw [if_pos (by omega), if_pos c3, show i - o = (i - (o + 1)) + 1 by omega, List.getElem?_cons_succ]
          · rw [if_neg (by omega), if_neg c3, if_neg (by omega)]
    · rw [i2 b' hb, e1]; exact setRow_other w b _ b' hb
    · rw [i3]; simp
    · rw [i4]; rfl
    · rw [i5]; rfl
    · rw [i6]; rfl

theorem splice_end {l vs : List AV} : splice l l.length vs = l ++ vs := by simp [splice]

theorem run_append (hty : ∀ t T, C.ty t = some T → TyOK P t T) (h : WRel C A σ R I w) (hb : Barr bases σ) (hA : ∀ b, w.heap.size ≤ b → A b) {st xt ty : Nat} {s x v : AV} {cs cx : Value} {σ' : ASt}
    (hs : Rel C I s σ R cs) (hx : Rel C I x σ R cx) (ha : aappend C bases σ st xt s x = some (v, σ')) :
    ∃ u R' w', (Builtin.append_ #[st, xt] ty #[cs, cx]).run P w = .ok u w' ∧ Stp C A bases σ R I w σ' R' I w' ∧ Rel C I v σ' R' u := by
  unfold aappend at ha
  split at ha
  · rename_i T X hT hX
    have hTd := (hty st T hT).desc.h
    split at ha
    · rename_i e hk
      rw [hk] at hTd
      split at ha
      · rename_i S m cells hS hsrc
        split at ha
        · rename_i hcond
          obtain ⟨hone, hclen, hby⟩ := hcond
          obtain ⟨news, hSrc, hnews⟩ := src_of hty h hX hS hx hsrc hone hclen
          obtain ⟨i, z, hi, hisz, hiby, hz, hzm, hzl, _⟩ := (hty e S hS).info
          have hzc : z.cells.size = S.size := by
            have := RelL.length (mapM_ofValue (C := C) (I := I) (σ := σ) (R := R) hzm)
            rw [Array.length_toList] at this
            omega
          have hnl : news.length = m * S.size := by rw [hnews.length, hclen]
          rw [← hisz] at hSrc
          -- a new block
          have grow : ∀ (base : Option Addr) (len cap : Nat) (cl : List AV) (olds : List Value), cl.length = len * S.size → RelL C I cl σ R olds → cl.all AV.one = true → len + m ≤ 1073741824 → cap < len + m →
              (Builtin.firstCells i.size len (.slice base len cap)).run P w.drew = .ok olds.toArray w.drew →
              ∃ (c : Array Value) (cp : Nat), (Builtin.append_ #[st, xt] ty #[.slice base len cap, cx]).run P w = .ok (.slice (some ⟨w.heap.size, 0, none⟩) (len + m) cp) (w.drew.alloc (.cells c e)) ∧
                len + m ≤ cp ∧ c.size = cp * S.size ∧ (cl ++ cells).length ≤ c.size ∧ RelL C I (cl ++ cells) σ R (c.toList.take (cl ++ cells).length) := by
            intro base len cap cl olds hcl holds hcone hbound hlt hfirst
            have hfit : Builtin.nextslicecap (len + m) cap * i.bytes ≤ 281474976710656 := by
              apply growslice_fits hlt
              have : (len + m) * i.bytes ≤ 1073741824 * 1024 := Nat.mul_le_mul hbound (by omega)
              omega
            have hrun := run_append_grow_src w st xt ty e i z hTd hi hz base len cap olds hfirst cx m news hSrc hlt (by omega) hfit
            have hge := grownCap_ge w (len + m) cap e
            have hol : olds.length = len * S.size := by rw [holds.length, hcl]
            have hcs : ((olds ++ news).toArray ++ Builtin.zeroCells z.cells (grownCap w (len + m) cap e - (len + m))).size = grownCap w (len + m) cap e * S.size := by
              simp only [Array.size_append, List.size_toArray, size_zeroCells, hzc, List.length_append, hol, hnl, ← Nat.add_mul]
              congr 1
              omega
            refine ⟨_, _, hrun, hge, hcs, ?_, ?_⟩
            · rw [hcs, List.length_append, hcl, hclen, ← Nat.add_mul]
              exact Nat.mul_le_mul_right _ hge
            · have : ((olds ++ news).toArray ++ Builtin.zeroCells z.cells (grownCap w (len + m) cap e - (len + m))).toList.take (cl ++ cells).length = olds ++ news := by
                rw [List.length_append, ← holds.length, ← hnews.length, ← List.length_append, Array.toList_append]
                exact List.take_left' (by simp)
              rw [this]
              exact holds.append hnews
          have hempty : (0 : Nat) < S.size ∨ S.size = 0 := by omega
          split at ha
          · -- nil
            cases hs
            split at ha
            · rename_i hm
              subst hm
              injection ha with ha; injection ha with h1 h2; subst h1 h2
              have : news = [] := by rw [Nat.zero_mul] at hnl; exact List.length_eq_zero_iff.1 hnl
              subst this
              exact ⟨_, R, w, run_append_nothing w st xt ty e i hTd hi none 0 0 (Nat.le_refl _) cx hSrc, Stp.refl h hb, rfl⟩
            · rename_i hm
              split at ha
              · rename_i hbound
                injection ha with ha; injection ha with h1 h2; subst h1 h2
                obtain ⟨c, cp, hrun, hcp, hcs, hle, hrel⟩ := grow none 0 0 [] [] (by simp) rfl rfl (by omega) (by omega) (by simp [Builtin.firstCells])
                simp only [List.nil_append] at hle hrel
                rw [Nat.zero_add] at hrun
                have hd : WRel C A σ R I w.drew := h.heapEq rfl
                have hp := hd.push hA e cells c hrel hle hone
                refine ⟨_, _, _, hrun, ⟨hp, hb.push _, Ext.push .., ?_, fun _ _ _ h => .inl h⟩, ?_⟩
                · exact (⟨rfl, rfl, rfl, Nat.le_refl _, fun _ _ => rfl⟩ : Frm A w w.drew).trans (Frm.alloc w.drew hA _)
                · refine ⟨by simp, w.heap.size, cp, rfl, by omega, fun e' cs' hc => ?_⟩
                  simp at hc
                  obtain ⟨rfl, rfl⟩ := hc
                  refine ⟨by omega, fun _ => ⟨by simp [Ren.set], ?_⟩⟩
                  simp only [Ren.set, if_true]; omega
              · cases ha
          · -- a slice that is full
            rename_i len cl
            obtain ⟨ad, cap, rfl, hle, hfull, hr⟩ := hs
            obtain rfl := hfull rfl
            split at ha
            · rename_i hm
              subst hm
              injection ha with ha; injection ha with h1 h2; subst h1 h2
              have : news = [] := by rw [Nat.zero_mul] at hnl; exact List.length_eq_zero_iff.1 hnl
              subst this
              exact ⟨_, R, w, run_append_nothing w st xt ty e i hTd hi ad _ _ (Nat.le_refl _) cx hSrc, Stp.refl h hb, ad, _, rfl, Nat.le_refl _, fun _ => rfl, hr⟩
            · rename_i hm
              split at ha
              · rename_i hbound
                injection ha with ha; injection ha with h1 h2; subst h1 h2
                have hcells : ∃ olds, RelL C I cl σ R olds ∧ cl.all AV.one = true ∧ (Builtin.firstCells i.size cap (.slice ad cap cap)).run P w.drew = .ok olds.toArray w.drew := by
                  rcases hr with ⟨rfl, rfl⟩ | ⟨b, off, vs, rfl, hvs, hii⟩
                  · refine ⟨[], rfl, rfl, ?_⟩
                    cases ad with
                    | none => simp [Builtin.firstCells]
                    | some ad => exact run_firstCells_some w.drew i.size 0 ad 0 0 [] (by simp) (by simp)
                  · refine ⟨vs, hvs.ext (Ext.nil fun _ _ _ h => h), hbound.2.2, ?_⟩
                    exact run_firstCells_some w.drew i.size cap _ cap cap vs (by rw [hvs.length, hbound.2.1, hisz]) (fun j u hu => by rw [Addr.add_lit]; exact h.imm _ _ _ (hii j u hu))
                obtain ⟨olds, holds, hclone, hfirst⟩ := hcells
                obtain ⟨c, cp, hrun, hcp, hcs, hle', hrel⟩ := grow ad cap cap cl olds hbound.2.1 holds hclone hbound.1 (by omega) hfirst
                have hd : WRel C A σ R I w.drew := h.heapEq rfl
                have hp := hd.push hA e (cl ++ cells) c hrel hle' (by simp [List.all_append, hclone, hone])
                refine ⟨_, _, _, hrun, ⟨hp, hb.push _, Ext.push .., ?_, fun _ _ _ h => .inl h⟩, ?_⟩
                · exact (⟨rfl, rfl, rfl, Nat.le_refl _, fun _ _ => rfl⟩ : Frm A w w.drew).trans (Frm.alloc w.drew hA _)
                · refine ⟨by simp, w.heap.size, cp, rfl, by omega, fun e' cs' hc => ?_⟩
                  simp at hc
                  obtain ⟨rfl, rfl⟩ := hc
                  refine ⟨by simp [hbound.2.1, hclen, Nat.add_mul], fun _ => ⟨by simp [Ren.set], ?_⟩⟩
                  simp only [Ren.set, if_true]; omega
              · cases ha
          · -- a row
            rename_i n off len sz
            obtain ⟨hnlt, b, cap, rfl, hcap, hbb⟩ := hs
            split at ha
            · rename_i e' cl hn
              split at ha
              · rename_i hcd
                obtain ⟨rfl, rfl, rfl, hcl, hbound, hbar, hpos⟩ := hcd
                injection ha with ha; injection ha with h1 h2; subst h1 h2
                obtain ⟨rfl, hk2⟩ := (hbb e' cl hn).2 (by omega)
                have hlive : live σ n := ⟨_, hn, by simp⟩
                obtain ⟨c, hh, hck, hle, hrel, hcone⟩ := h.cells n e' cl hn
                have hcc : c.toList.length = c.size := Array.length_toList
                have hall : (cl ++ cells).all AV.one = true := by simp [List.all_append, hcone, hone]
                have hun : ∀ b ∈ bases, n < b → underL b (cl ++ cells) = true := fun b hbm hnb => by
                  have h3 := (hb b hbm).2 n _ hnb hn
                  have h4 := barrier_spec hbar b hbm hnb
                  rw [underL_mem] at *
                  intro v hv
                  rcases List.mem_append.1 hv with hv | hv
                  · exact (underL_mem.1 h3) v hv
                  · exact h4 v hv
                by_cases hroom : len + m ≤ cap
                · have hmul : (len + m) * S.size ≤ cap * S.size := Nat.mul_le_mul_right _ hroom
                  rw [Nat.add_mul] at hmul
                  have hrun := run_append_room_src w st xt ty e' i hTd hi (R.b n) 0 len cap cx m news hSrc hroom (fun j hj => by
                    rw [hisz]
                    simp only [World.cell?, hh]
                    rw [Array.getElem?_eq_getElem (by omega)]
                    rfl) (fun j hj => by simp [World.frozen?, hh])
                  rw [hisz, Nat.zero_add] at hrun
                  obtain ⟨q1, q2, q3, q4, q5, q6⟩ := setCells_heap (R.b n) e' news (len * S.size) c w hh (by omega)
                  have hx' : Ext σ R I (σ.set n (.cells e' (cl ++ cells))) R I := Ext.setCells hn (fun _ _ => ⟨rfl, rfl⟩) (by
                    by_cases hm : m = 0
                    · subst hm
                      have : cells = [] := by rw [Nat.zero_mul] at hclen; exact List.length_eq_zero_iff.1 hclen
                      subst this
                      exact .inl ⟨by simp, rfl, rfl⟩
                    · refine .inr ?_
                      have : 0 < m * S.size := Nat.mul_pos (by omega) hpos
                      rw [List.length_append]; omega)
                  refine ⟨_, R, _, hrun, ⟨?_, hb.setCells hun, hx', ⟨q4, q5, q6, by omega, fun b hb' => q2 b (fun he => hb' (he ▸ h.al n hlive))⟩, fun _ _ _ h => .inl h⟩, ?_⟩
                  · refine h.upd n hx' (fun m hm => by rw [List.getElem?_set_ne (Ne.symm hm)]) (fun m hm => ⟨rfl, rfl⟩) (.inl ⟨hlive, rfl⟩) (h.al n hlive) (fun b hb _ => q2 b hb) (fun e2 cs2 hc => ?_) (fun es hc => ?_) (fun s p hc => ?_)
                    · rw [List.getElem?_set_self hnlt] at hc
                      injection hc with hc; injection hc with h1 h2; subst h1 h2
                      refine ⟨_, q1, ?_, ?_, ?_, hall⟩
                      · rw [List.size_toArray, length_splice (by omega), hcc]; exact hck
                      · rw [List.size_toArray, length_splice (by omega), hcc, List.length_append]; omega
                      · have : ((splice c.toList (len * S.size) news).toArray.toList).take (cl ++ cells).length = c.toList.take cl.length ++ news := by
                          rw [List.toList_toArray, List.length_append, ← hnews.length, hcl]
                          unfold splice
                          exact List.take_left' (by simp; omega)
                        rw [this]
                        exact (hrel.append hnews).ext hx'
                    · rw [List.getElem?_set_self hnlt] at hc; cases hc
                    · rw [List.getElem?_set_self hnlt] at hc; cases hc
                  · refine ⟨by simpa using hnlt, R.b n, cap, rfl, hroom, fun e2 cs2 hc => ?_⟩
                    rw [List.getElem?_set_self hnlt] at hc
                    injection hc with hc; injection hc with h1 h2; subst h1 h2
                    refine ⟨by rw [List.length_append, hcl, hclen, Nat.add_mul]; omega, fun _ => ⟨rfl, hk2⟩⟩
                · obtain ⟨us, hus, hcell⟩ := h.at_ hn
                  obtain ⟨c', cp, hrun, hcp, hcs, hle', hrel'⟩ := grow (some ⟨R.b n, 0, none⟩) len cap cl us hcl hus hcone hbound (by omega)
                    (run_firstCells_some w.drew i.size len _ len cap us (by rw [hus.length, hcl, hisz]) (fun j u hu => by rw [Addr.add_lit]; exact hcell j u hu))
                  have hm : 0 < m * S.size := Nat.mul_pos (by omega) hpos
                  have hx' : Ext σ R I (σ.set n (.cells e' (cl ++ cells))) (R.set n w.heap.size c'.size) I := Ext.setCells hn (fun m hm => by simp [Ren.set, hm]) (.inr (by rw [List.length_append]; omega))
                  have hd : WRel C A σ R I w.drew := h.heapEq rfl
                  have hself : (w.drew.alloc (.cells c' e')).heap[w.heap.size]? = some (.cells c' e' (0, 0)) := by
                    show (w.heap.push _)[w.heap.size]? = _
                    simp
                  refine ⟨_, R.set n w.heap.size c'.size, _, hrun, ⟨?_, hb.setCells hun, hx', ?_, fun _ _ _ h => .inl h⟩, ?_⟩
                  · refine hd.upd n hx' (fun m hm => by rw [List.getElem?_set_ne (Ne.symm hm)]) (fun m hm => by simp [Ren.set, hm]) (.inr (by simp [Ren.set])) (by simp only [Ren.set, if_true]; exact hA _ (Nat.le_refl _))
                      (fun b hb hlt => Go.RowKit.Below.heap_alloc w.drew _ b hlt) (fun e2 cs2 hc => ?_) (fun es hc => ?_) (fun s p hc => ?_)
                    · rw [List.getElem?_set_self hnlt] at hc
                      injection hc with hc; injection hc with h1 h2; subst h1 h2
                      refine ⟨c', by simp only [Ren.set, if_true]; exact hself, by simp [Ren.set], hle', hrel'.ext hx', hall⟩
                    · rw [List.getElem?_set_self hnlt] at hc; cases hc
                    · rw [List.getElem?_set_self hnlt] at hc; cases hc
                  · exact (⟨rfl, rfl, rfl, Nat.le_refl _, fun _ _ => rfl⟩ : Frm A w w.drew).trans (Frm.alloc w.drew hA _)
                  · refine ⟨by simpa using hnlt, w.heap.size, cp, rfl, hcp, fun e2 cs2 hc => ?_⟩
                    rw [List.getElem?_set_self hnlt] at hc
                    injection hc with hc; injection hc with h1 h2; subst h1 h2
                    refine ⟨by rw [List.length_append, hcl, hclen, Nat.add_mul]; omega, fun _ => ⟨by simp [Ren.set], by simp only [Ren.set, if_true]; omega⟩⟩
              · cases ha
            · cases ha
          · cases ha
        · cases ha
      · cases ha
    · cases ha
  · cases ha

end
end Go.Ax
