/- The abstract store and the world: writing, new rows. -/
import Derived.Test.YtpknkndjflijaaaAxWorld
namespace Go.Ax

theorem get_splice {α : Type} {l vs : List α} {off : Nat} (h : off + vs.length ≤ l.length) (i : Nat) :
    (splice l off vs)[i]? = if i < off then l[i]? else if i < off + vs.length then vs[i - off]? else l[i]? := by
  have ht : (l.take off).length = off := by simp; omega
  unfold splice
  by_cases h1 : i < off
  · rw [if_pos h1, List.append_assoc, List.getElem?_append_left (by omega), List.getElem?_take, if_pos h1]
  · rw [if_neg h1, List.append_assoc, List.getElem?_append_right (by omega), ht]
    by_cases h2 : i < off + vs.length
    · rw [if_pos h2, List.getElem?_append_left (by omega)]
    · rw [if_neg h2, List.getElem?_append_right (by omega), List.getElem?_drop]
      congr 1
      omega

theorem length_splice {α : Type} {l vs : List α} {off : Nat} (h : off + vs.length ≤ l.length) : (splice l off vs).length = l.length := by
  unfold splice; simp; omega

theorem WRel.lt {C : Cfg} {A : Nat → Prop} {σ : ASt} {R : Ren} {I : Imm} {w : World} (h : WRel C A σ R I w) {n : Nat} (hn : live σ n) : R.b n < w.heap.size := by
  obtain ⟨r, hr, hd⟩ := hn
  cases r with
  | cells e cs => obtain ⟨c, hh, _⟩ := h.cells n e cs hr; exact (Array.getElem?_eq_some_iff.1 hh).1
  | map es => obtain ⟨x, y, hh, _⟩ := h.map n es hr; exact (Array.getElem?_eq_some_iff.1 hh).1
  | iter s p => exact (Array.getElem?_eq_some_iff.1 (h.iter n s p hr)).1
  | dead => exact absurd rfl hd

theorem WRel.immlt {C : Cfg} {A : Nat → Prop} {σ : ASt} {R : Ren} {I : Imm} {w : World} (h : WRel C A σ R I w) {b o : Nat} {v : Value} (hb : I b o = some v) : b < w.heap.size :=
  World.block_lt_of_cell? w _ (h.imm b o v hb)

def Ren.set (R : Ren) (n b k : Nat) : Ren := ⟨fun m => if m = n then b else R.b m, fun m => if m = n then k else R.k m⟩

/-- One row turns, or comes. -/
theorem WRel.upd {C : Cfg} {A : Nat → Prop} {σ σ' : ASt} {R R' : Ren} {I : Imm} {w w' : World} (h : WRel C A σ R I w) (n : Nat) (hx : Ext σ R I σ' R' I)
    (hσ : ∀ m, m ≠ n → σ'[m]? = σ[m]?) (hR : ∀ m, m ≠ n → R'.b m = R.b m ∧ R'.k m = R.k m)
    (hB : (live σ n ∧ R'.b n = R.b n) ∨ w.heap.size ≤ R'.b n) (hA : A (R'.b n))
    (hw : ∀ b, b ≠ R'.b n → b < w.heap.size → w'.heap[b]? = w.heap[b]?)
    (hc : ∀ e cs, σ'[n]? = some (.cells e cs) → ∃ c, w'.heap[R'.b n]? = some (.cells c e (0, 0)) ∧ c.size = R'.k n ∧ cs.length ≤ c.size ∧ RelL C I cs σ' R' (c.toList.take cs.length) ∧ cs.all AV.one = true)
    (hm : ∀ es, σ'[n]? = some (.map es) → ∃ ents clock, w'.heap[R'.b n]? = some (.map ents clock) ∧ RelL C I (es.map (·.1)) σ' R' (ents.toList.map (·.key)) ∧ RelL C I (es.map (·.2)) σ' R' (ents.toList.map (·.val)))
    (hi : ∀ s p, σ'[n]? = some (.iter s p) → w'.heap[R'.b n]? = some (.stringIter ⟨s.toArray⟩ p)) : WRel C A σ' R' I w' := by
  have lv : ∀ m, m ≠ n → live σ' m → live σ m := fun m hmn ⟨r, hr, hd⟩ => ⟨r, hσ m hmn ▸ hr, hd⟩
  have ne : ∀ m, m ≠ n → live σ m → R.b m ≠ R'.b n := fun m hmn hl he => by
    rcases hB with ⟨h1, h2⟩ | h1
    · exact hmn (h.inj m n hl h1 (he.trans h2))
    · have := h.lt hl; omega
  refine ⟨fun i j hi' hj' he => ?_, fun m hm' => ?_, fun m e cs hmc => ?_, fun m es hmc => ?_, fun m s p hmc => ?_, fun b o v hb => ?_, fun b o v m hb hl => ?_⟩
  · by_cases hin : i = n <;> by_cases hjn : j = n
    · omega
    · subst hin; rw [(hR j hjn).1] at he; exact absurd he.symm (ne j hjn (lv j hjn hj'))
    · subst hjn; rw [(hR i hin).1] at he; exact absurd he (ne i hin (lv i hin hi'))
    · rw [(hR i hin).1, (hR j hjn).1] at he; exact h.inj i j (lv i hin hi') (lv j hjn hj') he
  · by_cases hmn : m = n
    · subst hmn; exact hA
    · rw [(hR m hmn).1]; exact h.al m (lv m hmn hm')
  · by_cases hmn : m = n
    · subst hmn; exact hc e cs hmc
    · have hl : live σ m := ⟨_, hσ m hmn ▸ hmc, by simp⟩
      obtain ⟨c, h1, h2, h3, h4, h5⟩ := h.cells m e cs (hσ m hmn ▸ hmc)
      refine ⟨c, ?_, by rw [(hR m hmn).2]; exact h2, h3, h4.ext hx, h5⟩
      rw [(hR m hmn).1, hw _ (ne m hmn hl) (h.lt hl)]; exact h1
  · by_cases hmn : m = n
    · subst hmn; exact hm es hmc
    · have hl : live σ m := ⟨_, hσ m hmn ▸ hmc, by simp⟩
      obtain ⟨c, d, h1, h2, h3⟩ := h.map m es (hσ m hmn ▸ hmc)
      refine ⟨c, d, ?_, h2.ext hx, h3.ext hx⟩
      rw [(hR m hmn).1, hw _ (ne m hmn hl) (h.lt hl)]; exact h1
  · by_cases hmn : m = n
    · subst hmn; exact hi s p hmc
    · have hl : live σ m := ⟨_, hσ m hmn ▸ hmc, by simp⟩
      rw [(hR m hmn).1, hw _ (ne m hmn hl) (h.lt hl)]; exact h.iter m s p (hσ m hmn ▸ hmc)
  · have hbn : b ≠ R'.b n := by
      rcases hB with ⟨h1, h2⟩ | h1
      · rw [h2]; exact h.sep b o v n hb h1
      · have := h.immlt hb; omega
    rw [World.cell?_of_block (w := w) (hw b hbn (h.immlt hb))]; exact h.imm b o v hb
  · by_cases hmn : m = n
    · subst hmn
      rcases hB with ⟨h1, h2⟩ | h1
      · rw [h2]; exact h.sep b o v m hb h1
      · have := h.immlt hb; omega
    · rw [(hR m hmn).1]; exact h.sep b o v m hb (lv m hmn hl)

theorem WRel.heapEq {C : Cfg} {A : Nat → Prop} {σ : ASt} {R : Ren} {I : Imm} {w w' : World} (h : WRel C A σ R I w) (he : w'.heap = w.heap) : WRel C A σ R I w' :=
  ⟨h.inj, h.al, fun n e cs hn => by rw [he]; exact h.cells n e cs hn, fun n es hn => by rw [he]; exact h.map n es hn, fun n s p hn => by rw [he]; exact h.iter n s p hn,
    fun b o v hb => by rw [World.cell?_of_block (w := w) (by rw [he])]; exact h.imm b o v hb, h.sep⟩

theorem Ext.push (σ : ASt) (R : Ren) (I : Imm) (r : ARow) (b k : Nat) : Ext σ R I (σ ++ [r]) (R.set σ.length b k) I := by
  have hg : ∀ n, n < σ.length → (σ ++ [r])[n]? = σ[n]? := fun n hn => List.getElem?_append_left hn
  refine ⟨by simp, fun _ _ _ h => h, fun n e cs hn hc => ⟨cs, hg n hn ▸ hc, .inl ⟨rfl, ?_, ?_⟩⟩, fun n es hn hc => ⟨es, hg n hn ▸ hc, ?_⟩, fun n s p hn hc => ⟨s, p, hg n hn ▸ hc, ?_⟩⟩ <;>
    (simp only [Ren.set]; rw [if_neg (by omega)])

/-- A new row. -/
theorem WRel.push {C : Cfg} {A : Nat → Prop} {σ : ASt} {R : Ren} {I : Imm} {w : World} (h : WRel C A σ R I w) (hA : ∀ b, w.heap.size ≤ b → A b) (e : Nat) (cs : List AV) (c : Array Value)
    (hl : RelL C I cs σ R (c.toList.take cs.length)) (hle : cs.length ≤ c.size) (h1 : cs.all AV.one = true) :
    WRel C A (σ ++ [.cells e cs]) (R.set σ.length w.heap.size c.size) I (w.alloc (.cells c e)) := by
  have hx := Ext.push σ R I (.cells e cs) w.heap.size c.size
  have hself : (w.alloc (.cells c e)).heap[w.heap.size]? = some (.cells c e (0, 0)) := by
    show (w.heap.push _)[w.heap.size]? = _
    simp
  refine h.upd σ.length hx (fun m hm => ?_) (fun m hm => by simp [Ren.set, hm]) (.inr (by simp [Ren.set])) (by simp only [Ren.set, if_true]; exact hA _ (Nat.le_refl _)) (fun b hb hlt => Go.RowKit.Below.heap_alloc w _ b hlt) (fun e' cs' hc => ?_) (fun es hc => ?_) (fun s p hc => ?_)
  · by_cases hlt : m < σ.length
    · exact List.getElem?_append_left hlt
    · rw [List.getElem?_eq_none (by simp; omega), List.getElem?_eq_none (by omega)]
  · simp at hc; obtain ⟨rfl, rfl⟩ := hc
    exact ⟨c, by simp only [Ren.set, if_true]; exact hself, by simp [Ren.set], hle, hl.ext hx, h1⟩
  · simp at hc
  · simp at hc

theorem Frm.alloc {A : Nat → Prop} (w : World) (hA : ∀ b, w.heap.size ≤ b → A b) (o : Obj) : Frm A w (w.alloc o) :=
  ⟨rfl, rfl, rfl, by simp, fun b hb => Go.RowKit.Below.heap_alloc w o b (by
    rcases Nat.lt_or_ge b w.heap.size with h | h
    · exact h
    · exact absurd (hA b h) hb)⟩

theorem Barr.push {bases : List Nat} {σ : ASt} (h : Barr bases σ) (r : ARow) : Barr bases (σ ++ [r]) := fun b hb => by
  obtain ⟨h1, h2⟩ := h b hb
  exact ⟨by simp; omega, fun n r' hn hr => h2 n r' hn (by rwa [List.getElem?_append_left (by omega)] at hr)⟩

theorem setRow_other (w : World) (g : Nat) (cs : Array Value) (b : Nat) (h : b ≠ g) : (w.setRow g cs).heap[b]? = w.heap[b]? := by
  simp only [World.setRow, Array.getElem?_modify]
  rw [if_neg (by omega)]

theorem setRow_size (w : World) (g : Nat) (cs : Array Value) : (w.setRow g cs).heap.size = w.heap.size := by simp [World.setRow]

theorem Frm.setRow {A : Nat → Prop} (w : World) {g : Nat} (hA : A g) (cs : Array Value) : Frm A w (w.setRow g cs) :=
  ⟨rfl, rfl, rfl, by rw [setRow_size]; exact Nat.le_refl _, fun b hb => setRow_other w g cs b (fun e => hb (e ▸ hA))⟩

theorem underL_mem {m : Nat} : ∀ {l : List AV}, underL m l = true ↔ ∀ v ∈ l, v.under m = true
  | [] => by simp [underL]
  | v :: l => by simp [underL, underL_mem (l := l)]

theorem underL_splice {m off : Nat} {l vs : List AV} (h : underL m l = true) (h' : underL m vs = true) : underL m (splice l off vs) = true := by
  rw [underL_mem] at *
  intro v hv
  unfold splice at hv
  simp only [List.mem_append] at hv
  rcases hv with (hv | hv) | hv
  · exact h v (List.mem_of_mem_take hv)
  · exact h' v hv
  · exact h v (List.mem_of_mem_drop hv)

theorem Barr.setCells {bases : List Nat} {σ : ASt} (h : Barr bases σ) {n e : Nat} {cs' : List AV} (hb : ∀ b ∈ bases, n < b → underL b cs' = true) : Barr bases (σ.set n (.cells e cs')) := fun b hbm => by
  obtain ⟨h1, h2⟩ := h b hbm
  refine ⟨by simpa using h1, fun m r hm hr => ?_⟩
  rw [List.getElem?_set] at hr
  split at hr
  · rename_i hnm
    subst hnm
    split at hr
    · injection hr with hr; subst hr; exact hb b hbm hm
    · cases hr
  · exact h2 m r hm hr

theorem barrier_spec {bases : List Nat} {n : Nat} {vs : List AV} (h : barrier bases n vs = true) : ∀ b ∈ bases, n < b → underL b vs = true := fun b hb hn => by
  unfold barrier at h
  rw [List.all_eq_true] at h
  have := h b hb
  simp only [Bool.or_eq_true, decide_eq_true_eq] at this
  exact this.resolve_left (by omega)

theorem Ext.setCells {σ : ASt} {R R' : Ren} {I : Imm} {n e : Nat} {cs cs' : List AV} (hn : σ[n]? = some (.cells e cs)) (hR : ∀ m, m ≠ n → R'.b m = R.b m ∧ R'.k m = R.k m)
    (hl : cs.length = cs'.length ∧ R'.b n = R.b n ∧ R'.k n = R.k n ∨ cs.length < cs'.length) : Ext σ R I (σ.set n (.cells e cs')) R' I := by
  have hlt : n < σ.length := (List.getElem?_eq_some_iff.1 hn).1
  refine ⟨by simp, fun _ _ _ h => h, fun m e2 cs2 hm hc => ?_, fun m es hm hc => ?_, fun m s p hm hc => ?_⟩
  · rw [List.getElem?_set] at hc
    split at hc
    · rename_i hnm
      subst hnm
      injection hc with hc; injection hc with h1 h2; subst h1 h2
      exact ⟨cs, hn, hl⟩
    · rename_i hnm
      exact ⟨cs2, hc, .inl ⟨rfl, (hR m (Ne.symm hnm)).1, (hR m (Ne.symm hnm)).2⟩⟩
  · rw [List.getElem?_set] at hc
    split at hc
    · rename_i hnm
      subst hnm
      cases hc
    · rename_i hnm
      exact ⟨es, hc, (hR m (Ne.symm hnm)).1⟩
  · rw [List.getElem?_set] at hc
    split at hc
    · rename_i hnm
      subst hnm
      cases hc
    · rename_i hnm
      exact ⟨s, p, hc, (hR m (Ne.symm hnm)).1⟩

/-- A store. -/
theorem run_storeAt {P : Program} {C : Cfg} (hty : ∀ t T, C.ty t = some T → TyOK P t T) {A : Nat → Prop} {σ σ' : ASt} {R : Ren} {I : Imm} {w : World} (h : WRel C A σ R I w) {bases : List Nat} (hb : Barr bases σ) {t : Nat} {a v : AV} {ca cv : Value}
    (ha : Rel C I a σ R ca) (hv : Rel C I v σ R cv) (hl : astore C bases σ t a v = some σ') :
    ∃ w', (Instr.storeAt t ca cv).run P w = .ok () w' ∧ WRel C A σ' R I w' ∧ Barr bases σ' ∧ Ext σ R I σ' R I ∧ Frm A w w' := by
  unfold astore at hl
  split at hl
  · rename_i T n ver off hT
    split at hl
    · rename_i e cs hn
      split at hl
      · rename_i hcond
        obtain ⟨hver, hsz, hoff, hone, hbar⟩ := hcond
        injection hl with hl; subst hl
        obtain ⟨_, b, rfl, hbb⟩ := ha
        obtain rfl := (hbb e cs hn).2 hver
        have hlive : live σ n := ⟨_, hn, by simp⟩
        obtain ⟨c, hh, hk, hle, hrel, hcone⟩ := h.cells n e cs hn
        have hvc := hv.cells
        have hvl := hvc.length
        have hrun := run_storeCells_at P (R.b n) off e cv.cells.toList 0 c w hh (by omega) (hvc.one hone)
        simp only [Nat.add_zero] at hrun
        have hsl : splice cs off v.cells = splice cs off v.cells := rfl
        have hfit : off + v.cells.length ≤ cs.length := by omega
        have hcl : c.toList.length = c.size := Array.length_toList
        have hfit' : off + cv.cells.toList.length ≤ c.toList.length := by omega
        have hx : Ext σ R I (σ.set n (.cells e (splice cs off v.cells))) R I := Ext.setCells hn (fun _ _ => ⟨rfl, rfl⟩) (.inl ⟨(length_splice hfit).symm, rfl, rfl⟩)
        have hlt : n < σ.length := (List.getElem?_eq_some_iff.1 hn).1
        refine ⟨w.setRow (R.b n) (splice c.toList off cv.cells.toList).toArray, ?_, ?_, ?_, hx, Frm.setRow w (h.al n hlive) _⟩
        · have hszrun := (hty t T hT).sizeOf w
          have hcsz : cv.cells.size = T.size := by rw [← Array.length_toList, hvl]; exact hsz
          simp only [Instr.storeAt, Instr.sureAddr, storeVar, Sem.run_bind, Sem.run_pure, Result.andThen_ok, hszrun, hcsz, ne_eq, not_true_eq_false, if_false]
          exact hrun
        · refine h.upd n hx (fun m hm => by rw [List.getElem?_set_ne (Ne.symm hm)]) (fun m hm => ⟨rfl, rfl⟩) (.inl ⟨hlive, rfl⟩) (h.al n hlive) (fun b hb _ => setRow_other w _ _ b hb) (fun e' cs' hc => ?_) (fun es hc => ?_) (fun s p hc => ?_)
          · rw [List.getElem?_set_self hlt] at hc
            injection hc with hc; injection hc with h1 h2; subst h1 h2
            refine ⟨_, setRow_heap w _ c _ _ _ hh, ?_, ?_, ?_, ?_⟩
            · rw [List.size_toArray, length_splice hfit', Array.length_toList]; exact hk
            · rw [List.size_toArray, length_splice hfit', length_splice hfit, Array.length_toList]; exact hle
            · refine RelL.of_get (by rw [List.length_take, length_splice hfit, List.toList_toArray, length_splice hfit']; omega) (fun i x u hx' hu => ?_)
              rw [List.getElem?_take] at hu
              split at hu
              · simp only [List.toList_toArray] at hu
                rw [get_splice hfit'] at hu
                rw [get_splice hfit] at hx'
                split at hx'
                · rename_i h1
                  rw [if_pos h1] at hu
                  obtain ⟨u', h2, h3⟩ := hrel.get hx'
                  rw [List.getElem?_take] at h2
                  split at h2
                  · rw [hu] at h2; injection h2 with h2; subst h2; exact h3.ext hx
                  · cases h2
                · rename_i h1
                  rw [if_neg h1] at hu
                  split at hx'
                  · rename_i h4
                    rw [if_pos (by omega)] at hu
                    obtain ⟨u', h2, h3⟩ := hvc.get hx'
                    rw [hu] at h2; injection h2 with h2; subst h2; exact h3.ext hx
                  · rename_i h4
                    rw [if_neg (by omega)] at hu
                    obtain ⟨u', h2, h3⟩ := hrel.get hx'
                    rw [List.getElem?_take] at h2
                    split at h2
                    · rw [hu] at h2; injection h2 with h2; subst h2; exact h3.ext hx
                    · cases h2
              · cases hu
            · rw [List.all_eq_true] at hcone hone ⊢
              intro x hx'
              unfold splice at hx'
              simp only [List.mem_append] at hx'
              rcases hx' with (hx' | hx') | hx'
              · exact hcone x (List.mem_of_mem_take hx')
              · exact hone x hx'
              · exact hcone x (List.mem_of_mem_drop hx')
          · rw [List.getElem?_set_self hlt] at hc; cases hc
          · rw [List.getElem?_set_self hlt] at hc; cases hc
        · refine hb.setCells fun b hbm hnb => underL_splice ?_ (barrier_spec hbar b hbm hnb)
          have := (hb b hbm).2 n _ hnb hn
          exact this
      · cases hl
    · cases hl
  · cases hl

end Go.Ax
