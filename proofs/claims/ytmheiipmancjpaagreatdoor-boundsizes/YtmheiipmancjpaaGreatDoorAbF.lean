/- Proved here: maps, iterators and the other operations answer as the model's. By an AI agent. -/
import Derived.Test.YtmheiipmancjpaaGreatDoorAbD
set_option linter.unusedVariables false
set_option linter.unusedSimpArgs false
section
/-! The evaluator's operations on maps and iterators. -/
namespace Go.Abs
noncomputable section
variable {P : Program} {ρ : Ren} {g : Got} {w : World}

def notCells : Obj → Bool
  | .cells .. => false
  | _ => true

theorem setObj_sound (H : HR ρ g w) {b : Nat} {o : AObj} (o' : AObj) {l : Loc} (hb : g b = some o) (hl : ρ b = some l) (hro : o.ro = false) {x : Obj} (hx : w.heap[l.block]? = some x) (hnc : notCells x = true) (x' : Obj) (hor : OR ρ o' l (some x')) (n : Nat) :
    ∃ w', (setObj l.block x').run P w = .ok () w' ∧ HR ρ (g.upd b o') w' ∧ Moves ρ g n w ρ (g.upd b o') n w' := by
  have hlt : l.block < w.heap.size := (Array.getElem?_eq_some_iff.1 hx).1
  refine ⟨{ w with heap := w.heap.setIfInBounds l.block x' }, ?_, ?_⟩
  · cases x <;> first | (simp [notCells] at hnc; done) | simp [setObj, Sem.run, hx]
  · exact H.turn o' hb hl hro (by simp) (fun B hB => by simp [Ne.symm hB]) (by simpa [Array.getElem?_setIfInBounds, hlt] using hor) n

theorem ML.modify {es es' : List MapEntry} (h : ML ρ es es') {f f' : MapEntry → MapEntry} (hf : ∀ e e', MER ρ e e' → MER ρ (f e) (f' e')) : ∀ i, ML ρ (es.modify i f) (es'.modify i f') := by
  induction h with
  | nil => intro i; simp; exact .nil
  | cons hx ht ih =>
    intro i
    cases i with
    | zero => simpa [List.modify_zero_cons] using ML.cons (hf _ _ hx) ht
    | succ i => simpa [List.modify_succ_cons] using ML.cons hx (ih i)
theorem ML.get {es es' : List MapEntry} (h : ML ρ es es') : ∀ {i : Nat} {e : MapEntry}, es[i]? = some e → ∃ e', es'[i]? = some e' ∧ MER ρ e e' := by
  induction h with
  | nil => intro i e h; simp at h
  | cons hx ht ih =>
    intro i e he
    cases i with
    | zero => simp at he; subst he; exact ⟨_, by simp, hx⟩
    | succ i => simp at he; obtain ⟨e', h1, h2⟩ := ih he; exact ⟨e', by simpa using h1, h2⟩
theorem ML.erase {es es' : List MapEntry} (h : ML ρ es es') : ∀ i, ML ρ (es.eraseIdx i) (es'.eraseIdx i) := by
  induction h with
  | nil => intro i; simp; exact .nil
  | cons hx ht ih =>
    intro i
    cases i with
    | zero => simpa using ht
    | succ i => simpa using ML.cons hx (ih i)
theorem keysGround_get {es : List MapEntry} (h : keysGround es = true) {i : Nat} {e : MapEntry} (he : es[i]? = some e) : gr e.key = true := by
  simp only [keysGround, List.all_eq_true] at h
  exact h e (List.mem_of_getElem? he)

theorem run_keyStays {es es' : List MapEntry} {i : Nat} {k : Value} (hk : aSameKey es i k = true) (hg : keysGround es = true) (hr : ML ρ es es') (w : World) :
    (Instr.keyThatStays (((es'[i]?).map (·.key)).getD k) k).run P w = .ok k w ∧ ∃ e e', es[i]? = some e ∧ es'[i]? = some e' ∧ MER ρ e e' := by
  unfold aSameKey at hk
  split at hk
  · rename_i e he
    obtain ⟨e', h1, h2⟩ := hr.get he
    have hkk : e'.key = e.key := gr_eq (keysGround_get hg he) h2.1
    refine ⟨?_, e, e', he, h1, h2⟩
    simp [h1, hkk, Instr.keyThatStays, hk]
  · simp at hk

theorem aUpdate_sound {t : TypeId} {x k v x' k' v' : Value} {h h' : AHeap} (e : aUpdate P t x k v h = some h') (H : HR ρ h.get w) (hok : h.ok) (hx : VR ρ x x') (hk : VR ρ k k') (hv : VR ρ v v') :
    ∃ w', (Instr.mapUpdate t x' k' v').run P w = .ok () w' ∧ HR ρ h'.get w' ∧ Moves ρ h.get h.next w ρ h'.get h'.next w' ∧ h'.ok := by
  unfold aUpdate at e
  split at e
  · rename_i kt elem r hu
    cases hx with
    | map hl =>
    rename_i l
    split at e
    · rename_i es clock hr
      obtain ⟨es', ho, hml⟩ := H.get hr hl
      have hgo := run_getMap (P := P) ho
      split at e
      · rename_i u i v0 hck hf
        obtain ⟨rfl, hgk, hkg, r', h1, h2⟩ := aFind_sound hf hk hml w
        cases r' with
        | none => exact h2.elim
        | some p =>
        obtain ⟨j, v0'⟩ := p
        obtain ⟨rfl, _⟩ := h2
        split at e
        · rename_i hs
          simp at e; subst e
          obtain ⟨hst, _⟩ := run_keyStays (P := P) hs hkg hml w
          have hml' : ML ρ (es.modify j fun e => { e with key := k', val := v }) (es'.modify j fun e => { e with key := k', val := v' }).toList := by
            rw [Array.toList_modify]
            exact hml.modify (f := fun e => { e with key := k', val := v }) (f' := fun e => { e with key := k', val := v' }) (fun e e' he => ⟨hk, hv, he.2.2⟩) j
          obtain ⟨w', a1, a2, a3⟩ := setObj_sound (P := P) H (.map (es.modify j fun e => { e with key := k', val := v }) clock false) hr hl rfl ho rfl (.map (es'.modify j fun e => { e with key := k', val := v' }) clock) ⟨_, rfl, hml'⟩ h.next
          refine ⟨w', ?_, by rw [AHeap.get_put']; exact a2, by rw [AHeap.get_put']; exact a3, hok.put hr _⟩
          have hst' : (Instr.keyThatStays (((es'[j]?).map (·.key)).getD k') k').run P w = .ok k' w := by simpa using hst
          simp only [Instr.mapUpdate, Sem.run_bind, run_underlying hu, Result.andThen_ok, hgo, stat_run hck w, h1, hst', a1]
        · simp at e
      · rename_i u hck hf
        obtain ⟨rfl, hgk, hkg, r', h1, h2⟩ := aFind_sound hf hk hml w
        cases r' with
        | some p => exact h2.elim
        | none =>
        simp at e; subst e
        have hml' : ML ρ (es ++ [{ key := k', val := v, born := clock }]) (es'.push { key := k', val := v', born := clock }).toList := by
          rw [Array.toList_push]
          exact hml.append (.cons ⟨hk, hv, rfl⟩ .nil)
        obtain ⟨w', a1, a2, a3⟩ := setObj_sound (P := P) H (.map (es ++ [{ key := k', val := v, born := clock }]) (clock + 1) false) hr hl rfl ho rfl (.map (es'.push { key := k', val := v', born := clock }) (clock + 1)) ⟨_, rfl, hml'⟩ h.next
        refine ⟨w', ?_, by rw [AHeap.get_put']; exact a2, by rw [AHeap.get_put']; exact a3, hok.put hr _⟩
        simp only [Instr.mapUpdate, Sem.run_bind, run_underlying hu, Result.andThen_ok, hgo, stat_run hck w, h1, a1]
      · simp at e
    · simp at e
  · simp at e

theorem aEntryOf_sound {t : TypeId} {x k x' k' : Value} {h : AHeap} {r : ARes} (e : aEntryOf P t x k h = some r) (H : HR ρ h.get w) (hok : h.ok) (hx : VR ρ x x') (hk : VR ρ k k') :
    HeapRes P ρ h w r VRel (Instr.mapEntry t x' k') := by
  right
  unfold aEntryOf at e
  split at e
  · rename_i kt elem r hu
    cases hx with
    | map hl =>
    rename_i l
    split at e
    · rename_i es clock hr
      obtain ⟨es', ho, hml⟩ := H.get hr hl
      have hgo := run_getMap (P := P) ho
      split at e
      · rename_i u i v0 hck hf
        obtain ⟨rfl, hgk, hkg, r', h1, h2⟩ := aFind_sound hf hk hml w
        cases r' with
        | none => exact h2.elim
        | some p =>
        obtain ⟨j, v0'⟩ := p
        obtain ⟨rfl, hv0⟩ := h2
        split at e
        · rename_i en hs hen
          simp at e; subst e
          obtain ⟨hst, e1, e2, g1, g2, g3⟩ := run_keyStays (P := P) hs hkg hml w
          rw [hen] at g1; cases g1
          have hml' : ML ρ (es.modify j fun e => { e with key := k' }) (es'.modify j fun e => { e with key := k' }).toList := by
            rw [Array.toList_modify]
            exact hml.modify (f := fun e => { e with key := k' }) (f' := fun e => { e with key := k' }) (fun e e' he => ⟨hk, he.2.1, he.2.2⟩) j
          obtain ⟨w', a1, a2, a3⟩ := setObj_sound (P := P) H (.map (es.modify j fun e => { e with key := k' }) clock false) hr hl rfl ho rfl (.map (es'.modify j fun e => { e with key := k' }) clock) ⟨_, rfl, hml'⟩ h.next
          have hst' : (Instr.keyThatStays (((es'[j]?).map (·.key)).getD k') k').run P w = .ok k' w := by simpa using hst
          have hb : ((es'[j]?).map (fun x => (x.born : Int))).getD 0 = en.born := by
            have : es'[j]? = some e2 := by simpa using g2
            simp [this, g3.2.2]
          refine ⟨_, _, rfl, .tuple #[v0', .int .i64 en.born], w', ρ, ?_, VR.of_tuple (AR.push (AR.one hv0) (.int _ _)), by rw [AHeap.get_put']; exact a2, by rw [AHeap.get_put']; exact a3, hok.put hr _⟩
          simp only [Instr.mapEntry, Sem.run_bind, run_underlying hu, Result.andThen_ok, hgo, stat_run hck w, h1, hst', a1, hb, Sem.run_pure, goInt]
        · simp at e
      · rename_i u hck hf
        obtain ⟨rfl, hgk, hkg, r', h1, h2⟩ := aFind_sound hf hk hml w
        cases r' with
        | some p => exact h2.elim
        | none =>
        split at e
        · rename_i z hz
          simp at e; subst e
          have hml' : ML ρ (es ++ [{ key := k', val := z, born := clock }]) (es'.push { key := k', val := z, born := clock }).toList := by
            rw [Array.toList_push]
            exact hml.append (.cons ⟨hk, zeroOf_VR hz, rfl⟩ .nil)
          obtain ⟨w', a1, a2, a3⟩ := setObj_sound (P := P) H (.map (es ++ [{ key := k', val := z, born := clock }]) (clock + 1) false) hr hl rfl ho rfl (.map (es'.push { key := k', val := z, born := clock }) (clock + 1)) ⟨_, rfl, hml'⟩ h.next
          refine ⟨_, _, rfl, .tuple #[z, .int .i64 clock], w', ρ, ?_, VR.of_tuple (AR.push (AR.one (zeroOf_VR hz)) (.int _ _)), by rw [AHeap.get_put']; exact a2, by rw [AHeap.get_put']; exact a3, hok.put hr _⟩
          simp only [Instr.mapEntry, Sem.run_bind, run_underlying hu, Result.andThen_ok, hgo, stat_run hck w, h1, run_zeroValue_of hz, a1, Sem.run_pure, goInt]
        · simp at e
      · simp at e
    · simp at e
  · simp at e

theorem ML.findIdx {es es' : List MapEntry} (h : ML ρ es es') (b : Int) : es'.findIdx? (fun e => (e.born : Int) == b) = es.findIdx? (fun e => (e.born : Int) == b) := by
  induction h with
  | nil => rfl
  | cons hx _ ih => simp [List.findIdx?_cons, hx.2.2, ih]

theorem aEntryStore_sound {x s v x' s' v' : Value} {t : TypeId} {h h' : AHeap} (e : aEntryStore x s v h = some h') (H : HR ρ h.get w) (hok : h.ok) (hx : VR ρ x x') (hs : VR ρ s s') (hv : VR ρ v v') :
    ∃ w', (Instr.entryStore t x' s' v').run P w = .ok () w' ∧ HR ρ h'.get w' ∧ Moves ρ h.get h.next w ρ h'.get h'.next w' ∧ h'.ok := by
  unfold aEntryStore at e
  split at e
  · rename_i r kd b
    cases hs
    cases hx with
    | map hl =>
    split at e
    · rename_i es clock hr
      obtain ⟨es', ho, hml⟩ := H.get hr hl
      have hgo := run_getMap (P := P) ho
      split at e
      · rename_i i hi
        simp at e; subst e
        have hi' : es'.findIdx? (fun e => (e.born : Int) == b) = some i := by
          have : es'.findIdx? (fun e => (e.born : Int) == b) = es'.toList.findIdx? (fun e => (e.born : Int) == b) := by cases es'; simp
          rw [this, hml.findIdx, hi]
        have hml' : ML ρ (es.modify i fun e => { e with val := v }) (es'.modify i fun e => { e with val := v' }).toList := by
          rw [Array.toList_modify]
          exact hml.modify (f := fun e => { e with val := v }) (f' := fun e => { e with val := v' }) (fun e e' he => ⟨he.1, hv, he.2.2⟩) i
        obtain ⟨w', a1, a2, a3⟩ := setObj_sound (P := P) H (.map (es.modify i fun e => { e with val := v }) clock false) hr hl rfl ho rfl (.map (es'.modify i fun e => { e with val := v' }) clock) ⟨_, rfl, hml'⟩ h.next
        refine ⟨w', ?_, by rw [AHeap.get_put']; exact a2, by rw [AHeap.get_put']; exact a3, hok.put hr _⟩
        simp only [Instr.entryStore, Sem.run_bind, Result.andThen_ok, hgo, asInt, asIntOf, Sem.run_pure, hi', a1]
      · simp at e
    · simp at e
  · simp at e

theorem aDelete_sound {argTypes : Array TypeId} {ty : TypeId} {args args' : Array Value} {h : AHeap} {r : ARes} (e : aDelete P argTypes args h = some r) (H : HR ρ h.get w) (hok : h.ok) (ha : AR ρ args args') :
    HeapRes P ρ h w r VRel (Builtin.delete_ argTypes ty args') := by
  right
  unfold aDelete at e
  split at e
  · rename_i t r k hA0 ha0 ha1
    obtain ⟨m', hm', hrm⟩ := ha.get ha0
    obtain ⟨k', hk', hrk⟩ := ha.get ha1
    cases hrm with
    | map hl =>
    split at e
    · rename_i kt elem es clock hu hr
      obtain ⟨es', ho, hml⟩ := H.get hr hl
      have hgo := run_getMap (P := P) ho
      have hem : es'.isEmpty = es.isEmpty := by rw [← isEmpty_ML hml, Array.isEmpty_toList]
      split at e
      · rename_i u i v0 hck hf
        obtain ⟨rfl, hgk, hkg, r', h1, h2⟩ := aFind_sound hf hrk hml w
        have hck' := stat_run hck w
        rw [← hem] at hck'
        cases r' with
        | none => exact h2.elim
        | some p =>
        obtain ⟨j, v0'⟩ := p
        obtain ⟨rfl, hv0⟩ := h2
        simp at e; subst e
        have hml' : ML ρ (es.eraseIdx j) (es'.eraseIdxIfInBounds j).toList := by
          rw [Array.toList_eraseIdxIfInBounds]
          exact hml.erase j
        obtain ⟨w', a1, a2, a3⟩ := setObj_sound (P := P) H (.map (es.eraseIdx j) clock false) hr hl rfl ho rfl (.map (es'.eraseIdxIfInBounds j) clock) ⟨_, rfl, hml'⟩ h.next
        refine ⟨_, _, rfl, .tuple #[], w', ρ, ?_, VR.of_tuple .nil, by rw [AHeap.get_put']; exact a2, by rw [AHeap.get_put']; exact a3, hok.put hr _⟩
        simp only [Builtin.delete_, hA0, hm', hk', Sem.run_bind, run_underlying hu, Result.andThen_ok, hgo, hck', h1, a1, Sem.run_pure]
      · rename_i u hck hf
        obtain ⟨rfl, hgk, hkg, r', h1, h2⟩ := aFind_sound hf hrk hml w
        have hck' := stat_run hck w
        rw [← hem] at hck'
        cases r' with
        | some p => exact h2.elim
        | none =>
        simp at e; subst e
        obtain ⟨w', a1, a2, a3⟩ := setObj_sound (P := P) H (.map es clock false) hr hl rfl ho rfl (.map es' clock) ⟨_, rfl, hml⟩ h.next
        refine ⟨_, _, rfl, .tuple #[], w', ρ, ?_, VR.of_tuple .nil, by rw [AHeap.get_put']; exact a2, by rw [AHeap.get_put']; exact a3, hok.put hr _⟩
        simp only [Builtin.delete_, hA0, hm', hk', Sem.run_bind, run_underlying hu, Result.andThen_ok, hgo, hck', h1, a1, Sem.run_pure]
      · simp at e
    · simp at e
  · simp at e
end
end Go.Abs
end
section
/-! Iterators, clear, maps.Clone. -/
namespace Go.Abs
noncomputable section
variable {P : Program} {ρ : Ren} {g : Got} {w : World}

theorem newObj_sound {h : AHeap} (H : HR ρ h.get w) (hok : h.ok) (hf : ρ h.next = none) (o : AObj) (x : Obj) (hor : OR (ρ.upd h.next ⟨w.heap.size, 0, 0, 0, 0, false⟩) o ⟨w.heap.size, 0, 0, 0, 0, false⟩ (some x)) :
    HR (ρ.upd h.next ⟨w.heap.size, 0, 0, 0, 0, false⟩) (h.add o).get (w.alloc x) ∧ Moves ρ h.get h.next w (ρ.upd h.next ⟨w.heap.size, 0, 0, 0, 0, false⟩) (h.add o).get (h.next + 1) (w.alloc x) ∧ (h.add o).ok := by
  have hadd := H.add hf o x ⟨w.heap.size, 0, 0, 0, 0, false⟩ rfl hor
  exact ⟨by rw [AHeap.get_add']; exact hadd.1, by rw [AHeap.get_add']; exact hadd.2, hok.add _⟩

theorem aRange_sound {t : TypeId} {x x' : Value} {h : AHeap} {r : ARes} (e : aRange P t x h = some r) (H : HR ρ h.get w) (hok : h.ok) (hf : FreshFor ρ h r) (hx : VR ρ x x') :
    HeapRes P ρ h w r VRel (Instr.range t x') := by
  right
  have fin : ∀ (o : AObj) (y : Obj), ρ h.next = none → OR (ρ.upd h.next ⟨w.heap.size, 0, 0, 0, 0, false⟩) o ⟨w.heap.size, 0, 0, 0, 0, false⟩ (some y) → (Instr.range t x').run P w = .ok (.pointer (some ⟨w.heap.size, 0, none⟩)) (w.alloc y) →
      HSim P ρ h w (VRel (.pointer (some ⟨h.next, 0, none⟩))) (h.add o) (Instr.range t x') := by
    intro o y hn hor hrun
    obtain ⟨h1, h2, h3⟩ := newObj_sound H hok hn o y hor
    refine ⟨_, _, _, hrun, ?_, h1, h2, h3⟩
    have := VR.ptr (ρ := ρ.upd h.next ⟨w.heap.size, 0, 0, 0, 0, false⟩) (b := h.next) (o := 0) (Ren.upd_same _ _ _)
    simpa using this
  unfold aRange at e
  simp only at e
  split at e
  · rename_i s hu
    obtain rfl := Option.some.inj e
    cases hx
    exact ⟨_, _, rfl, fin _ (.stringIter s 0) hf.one ⟨rfl, rfl⟩ (by simp [Instr.range, run_underlying hu])⟩
  · rename_i k el hu
    obtain rfl := Option.some.inj e
    cases hx
    exact ⟨_, _, rfl, fin _ (.mapIter none 0 #[] 0) hf.one ⟨rfl, _, rfl, rfl⟩ (by simp [Instr.range, run_underlying hu])⟩
  · rename_i k el r hu
    split at e
    · rename_i es clock ro hr
      obtain rfl := Option.some.inj e
      cases hx with
      | map hl =>
      rename_i l
      obtain ⟨es', ho, hml⟩ := H.get hr hl
      exact ⟨_, _, rfl, fin _ (.mapIter (some l.block) clock #[] clock) hf.one ⟨rfl, _, rfl, l, Ren.le_upd hf.one _ _ hl, rfl⟩ (by simp [Instr.range, run_underlying hu, run_getMap ho])⟩
    · simp at e
  · simp at e

theorem ML.filter {es es' : List MapEntry} (h : ML ρ es es') (q : Nat → Bool) : ML ρ (es.filter fun e => q e.born) (es'.filter fun e => q e.born) := by
  induction h with
  | nil => exact .nil
  | cons hx _ ih =>
    simp only [List.filter_cons, hx.2.2]
    split
    · exact .cons hx ih
    · exact ih
theorem ML.all {es es' : List MapEntry} (h : ML ρ es es') (q : Nat → Bool) : (es'.all fun e => q e.born) = (es.all fun e => q e.born) := by
  induction h with
  | nil => rfl
  | cons hx _ ih => simp [List.all_cons, hx.2.2, ih]

theorem aNext_sound {it it' : Value} {s : Bool} {ty : TypeId} {h : AHeap} {r : ARes} (e : aNext it s h = some r) (H : HR ρ h.get w) (hok : h.ok) (hi : VR ρ it it') :
    HeapRes P ρ h w r VRel (Instr.next it' s ty) := by
  unfold aNext at e
  split at e
  · rename_i r0
    cases hi with
    | ptr hl =>
    rename_i l
    split at e
    · rename_i s0 pos hr
      obtain ⟨hb0, ho⟩ := H.get hr hl
      have hgo : (getObj l.block).run P w = .ok (.stringIter s0 pos) w := by simp [getObj, Sem.run, ho]
      rw [hb0]
      split at e
      · rename_i hle
        have hle : pos < s0.size := Nat.le_of_ble_eq_true hle
        obtain ⟨c, width⟩ : Nat × Nat := (0, 0)
        cases hd : Utf8.decode s0 pos with
        | mk c width =>
        simp [hd] at e; subst e
        right
        obtain ⟨w', a1, a2, a3⟩ := setObj_sound (P := P) H (.strIter s0 (pos + width)) hr hl rfl ho rfl (.stringIter s0 (pos + width)) ⟨hb0, rfl⟩ h.next
        refine ⟨_, _, rfl, .tuple #[.bool true, .int .i64 pos, .int .i32 c], w', ρ, ?_, VR.of_tuple (AR.push (AR.push (AR.one (.bool _)) (.int _ _)) (.int _ _)), by rw [AHeap.get_put']; exact a2, by rw [AHeap.get_put']; exact a3, hok.put hr _⟩
        simp only [Instr.next, Nat.add_zero, Sem.run_bind, hgo, Result.andThen_ok, if_pos hle, hd, a1, Sem.run_pure, goInt]
      · rename_i hle
        have hle : ¬ pos < s0.size := fun h => by rw [Nat.ble_eq_true_of_le h] at hle; cases hle
        simp at e; subst e
        left
        refine ⟨_, .tuple #[.bool false], rfl, ?_, VR.of_tuple (AR.one (.bool _))⟩
        simp only [Instr.next, Nat.add_zero, Sem.run_bind, hgo, Result.andThen_ok, if_neg hle, Sem.run_pure]
    · rename_i since seen last hr
      obtain ⟨hb0, m', ho, hm⟩ := H.get hr hl
      simp only at hm; subst hm
      simp at e; subst e
      have hgo : (getObj l.block).run P w = .ok (.mapIter none since seen last) w := by simp [getObj, Sem.run, ho]
      rw [hb0]
      left
      refine ⟨_, .tuple #[.bool false], rfl, ?_, VR.of_tuple (AR.one (.bool _))⟩
      simp only [Instr.next, Nat.add_zero, Sem.run_bind, hgo, Result.andThen_ok, Sem.run_pure]
    · rename_i m since seen last hr
      obtain ⟨hb0, m', ho, k, hk, hm⟩ := H.get hr hl
      subst hm
      have hgo : (getObj l.block).run P w = .ok (.mapIter (some k.block) since seen last) w := by simp [getObj, Sem.run, ho]
      rw [hb0]
      split at e
      · rename_i es clock ro hm
        obtain ⟨es', hoe, hml⟩ := H.get hm hk
        have hge := run_getMap (P := P) hoe
        split at e
        · simp at e
        · rename_i hchk
          have hem : es'.isEmpty = es.isEmpty := by rw [← isEmpty_ML hml, Array.isEmpty_toList]
          have hall : (es'.all fun e => decide (e.born ≥ last)) = es.all fun e => decide (e.born ≥ last) := by
            rw [← hml.all (fun b => decide (b ≥ last))]; simp
          have hchk' : (!seen.isEmpty && !es'.isEmpty && es'.all fun e => decide (e.born ≥ last)) = false := by rw [hem, hall]; exact hchk
          have hfil : ML ρ (es.filter fun e => !seen.contains e.born) (es'.filter fun e => !seen.contains e.born).toList := by
            rw [Array.toList_filter]; exact hml.filter (fun b => !seen.contains b)
          split at e
          · rename_i hnil
            rw [hnil] at hfil
            have hl0 : (es'.filter fun e => !seen.contains e.born) = #[] := by
              generalize (es'.filter fun e => !seen.contains e.born) = y at hfil
              cases y with | mk y => cases hfil; rfl
            simp at e; subst e
            left
            refine ⟨_, .tuple #[.bool false], rfl, ?_, VR.of_tuple (AR.one (.bool _))⟩
            simp only [Instr.next, Nat.add_zero, Sem.run_bind, hgo, Result.andThen_ok, hge, hchk', Bool.false_eq_true, if_false, Sem.run_pure, hl0]
            simp [Question.forced]
          · rename_i en hone
            rw [hone] at hfil
            obtain ⟨en', hl1, hme⟩ : ∃ en', (es'.filter fun e => !seen.contains e.born) = #[en'] ∧ MER ρ en en' := by
              generalize (es'.filter fun e => !seen.contains e.born) = y at hfil
              cases y with
              | mk y =>
                cases hfil with
                | cons hx ht => cases ht; exact ⟨_, rfl, hx⟩
            split at e
            · rename_i hlt
              have hlt : en.born < since := Nat.le_of_ble_eq_true hlt
              simp at e; subst e
              right
              obtain ⟨w', a1, a2, a3⟩ := setObj_sound (P := P) H (.mapIter (some m) since (seen.push en.born) clock) hr hl rfl ho rfl (.mapIter (some k.block) since (seen.push en'.born) clock) ⟨hb0, _, by rw [hme.2.2], k, hk, rfl⟩ h.next
              refine ⟨_, _, rfl, .tuple #[.bool true, en'.key, en'.val], w', ρ, ?_, VR.of_tuple (AR.push (AR.push (AR.one (.bool _)) hme.1) hme.2.1), by rw [AHeap.get_put']; exact a2, by rw [AHeap.get_put']; exact a3, hok.put hr _⟩
              have hlt' : en'.born < since := by rw [hme.2.2]; exact hlt
              have hge' : ¬ en'.born ≥ since := by omega
              simp only [Instr.next, Nat.add_zero, Sem.run_bind, hgo, Result.andThen_ok, hge, hchk', Bool.false_eq_true, if_false, Sem.run_pure, hl1]
              simp [Question.forced, hlt', a1]
            · simp at e
          · simp at e
      · simp at e
    · simp at e
  · simp at e

theorem aClear_sound {argTypes : Array TypeId} {ty : TypeId} {args args' : Array Value} {h : AHeap} {r : ARes} (e : aClear P argTypes args h = some r) (H : HR ρ h.get w) (hok : h.ok) (ha : AR ρ args args') :
    HeapRes P ρ h w r VRel (Builtin.clear_ argTypes ty args') := by
  right
  unfold aClear at e
  split at e
  · rename_i t r0 hA0 ha0
    obtain ⟨m', hm', hrm⟩ := ha.get ha0
    split at e
    · rename_i u es clock hu hr
      obtain rfl := Option.some.inj e
      cases hrm with
      | map hl =>
      obtain ⟨es', ho, hml⟩ := H.get hr hl
      have hgo := run_getMap (P := P) ho
      obtain ⟨w', a1, a2, a3⟩ := setObj_sound (P := P) H (.map [] clock false) hr hl rfl ho rfl (.map #[] clock) ⟨_, rfl, .nil⟩ h.next
      refine ⟨_, _, rfl, .tuple #[], w', ρ, ?_, VR.of_tuple .nil, by rw [AHeap.get_put']; exact a2, by rw [AHeap.get_put']; exact a3, hok.put hr _⟩
      simp [Builtin.clear_, hA0, hm', run_underlying hu, hgo, a1]
    · simp at e
  · rename_i t b o n cap hA0 ha0
    obtain ⟨m', hm', hrm⟩ := ha.get ha0
    cases hrm with
    | slice hl hc =>
    rename_i cap' l
    split at e
    · rename_i elem hu
      split at e
      · rename_i z bn tr el opn sz hz hb
        simp only at e
        split at e
        · rename_i hck
          simp only [Bool.and_eq_true] at hck
          obtain ⟨⟨c1, c2⟩, c3⟩ := hck
          have c1 : o + (Builtin.zeroCells z.cells n).toList.length ≤ bn := Nat.le_of_ble_eq_true c1
          have c2 : 1 ≤ n := Nat.le_of_ble_eq_true c2
          obtain rfl := Option.some.inj e
          obtain ⟨w', h1, h2, h3⟩ := store_sound (P := P) (o := o) H hb hl (zeroCells_AR (ρ := ρ) hz n) c3 c1 h.next
          refine ⟨_, _, rfl, .tuple #[], w', ρ, ?_, VR.of_tuple .nil, by rw [AHeap.get_put']; exact h2, by rw [AHeap.get_put']; exact h3, hok.put hb _⟩
          obtain ⟨m, rfl⟩ : ∃ m, n = m + 1 := ⟨n - 1, by omega⟩
          simp [Builtin.clear_, hA0, hm', run_underlying hu, run_zeroValue_of hz, h1]
        · simp at e
      · simp at e
    · simp at e
  · simp at e

theorem clone_sound {r : Nat} {t : TypeId} {es : List MapEntry} {clock : Nat} {ro : Bool} {h : AHeap} {args' : Array Value} (hr : h.get r = some (.map es clock ro)) (H : HR ρ h.get w) (hok : h.ok) (hf : ρ h.next = none)
    (ha : LR ρ [.iface t (.map (some r))] args'.toList) :
    HSim P ρ h w (VRel (.iface t (.map (some h.next)))) (h.add (.map es clock false)) (Extern.MapsClone.clone args') := by
  obtain ⟨args'⟩ := args'
  cases ha with
  | cons hv ht =>
  cases ht
  cases hv with
  | iface t hv =>
  cases hv with
  | map hl =>
  rename_i l
  obtain ⟨es', ho, hml⟩ := H.get hr hl
  obtain ⟨h1, h2, h3⟩ := newObj_sound H hok hf (.map es clock false) (.map es' clock) ⟨es', rfl, hml.mono (Ren.le_upd hf)⟩
  refine ⟨.iface t (.map (some w.heap.size)), _, _, ?_, ?_, h1, h2, h3⟩
  · have hc : Extern.MapsClone.clone ⟨[.iface t (.map (some l.block))]⟩ = (do
        let .map entries clock ← getObj l.block | stuck "maps.clone: a map expected"
        pure (.iface t (.map (some (← newObj (.map entries clock)))))) := rfl
    rw [hc]
    simp [run_getMap ho]
  · exact .iface t (VR.map (l := ⟨w.heap.size, 0, 0, 0, 0, false⟩) (Ren.upd_same _ _ _))
end
end Go.Abs
end
section
/-! One operation: what the evaluator says is what the model does. -/
namespace Go.Abs
noncomputable section
variable {ρ : Ren} {g : Got} {w : World}

/-- What the evaluator takes from the program. -/
structure Fits (E : Env) : Prop where
  enter : ∀ f fn c, E.P.funcs[f]? = some fn → fn.body = some c → ∀ args w, (callFunc f args).run E.P w = .ok (.enter f args) w
  clone : ∀ f, E.clones f = true → ∀ args w, (callFunc f args).run E.P w = ((Extern.MapsClone.clone args).run E.P w).andThen fun v w' => .ok (.value v) w'
  mixed : E.P.follows .mixedOrders = true

def Evs (ρ : Ren) (ev : Operand → Option Value) (ev' : Operand → Value) : Prop := ∀ x v, ev x = some v → VR ρ v (ev' x)

section
variable {ev : Operand → Option Value} {ev' : Operand → Value}

theorem evs_sound (hv : Evs ρ ev ev') : ∀ {xs : List Operand} {vs : List Value}, evs ev xs = some vs → LR ρ vs (xs.map ev') := by
  intro xs
  induction xs with
  | nil => intro vs h; simp [evs] at h; subst h; exact .nil
  | cons x xs ih =>
    intro vs h
    unfold evs at h
    split at h
    · simp at h
    · rename_i v hx
      split at h
      · simp at h
      · rename_i ws hws
        simp at h; subst h
        exact .cons (hv x v hx) (ih hws)

theorem evParts_sound (hv : Evs ρ ev ev') : ∀ {xs : List (Nat × Operand)} {vs : List (Nat × Value)}, evParts ev xs = some vs → PR ρ vs (xs.map fun (i, x) => (i, ev' x)) := by
  intro xs
  induction xs with
  | nil => intro vs h; simp [evParts] at h; subst h; exact .nil
  | cons p xs ih =>
    obtain ⟨i, x⟩ := p
    intro vs h
    unfold evParts at h
    split at h
    · simp at h
    · rename_i v hx
      split at h
      · simp at h
      · rename_i ws hws
        simp at h; subst h
        exact .cons (hv x v hx) (ih hws)

theorem evOpt_sound (hv : Evs ρ ev ev') {x : Option Operand} {v : Option Value} (h : evOpt ev x = some v) : OpR ρ v (x.map ev') := by
  unfold evOpt at h
  split at h
  · simp at h; subst h; exact .none
  · split at h
    · simp at h
    · rename_i v hx; simp at h; subst h; exact .some (hv _ _ hx)

theorem keep_some {r : Option Value} {a : ARes} (h : keep r = some a) : ∃ v, r = some v ∧ a = .val v none := by
  unfold keep at h
  split at h
  · rename_i v; simp at h; exact ⟨v, rfl, h.symm⟩
  · simp at h

abbrev Quiet (P : Program) (ρ : Ren) (w : World) (r : ARes) (s : Sem Next) : Prop := ∃ v v', r = .val v none ∧ s.run P w = .ok (.value v') w ∧ VR ρ v v'
theorem Quiet.of {P : Program} {r : ARes} {s : Sem Value} {v v' : Value} (hr : r = .val v none) (h : s.run P w = .ok v' w) (hv : VR ρ v v') : Quiet P ρ w r (do pure (.value (← s))) :=
  ⟨v, v', hr, by simp [h], hv⟩

theorem sizeAt_ne {P : Program} {t : TypeId} {n : Nat} (h : sizeAt P t = some (n + 1)) (a : Addr) (f : Field) (hf : f.type = t) (w : World) : (fieldPlace a f).run P w = .ok (a.add f.offset) w := by
  subst hf
  simp [fieldPlace, run_sizeOf_of h]

theorem run_indexAt {P : Program} {t elem : TypeId} {u : TypeDesc} {x ix : Value} {k : IntKind} {i : Int} {a : Addr} {len size : Nat} (hu : P.underlying t = some u) (hx : (u = .array len elem ∧ x = .pointer (some a)) ∨ (u = .slice elem ∧ ∃ c, x = .slice (some a) len c))
    (hi : ix = .int k i) (h : 0 ≤ i ∧ i < len) (hs : sizeAt P elem = some size) (w : World) : (Instr.indexAt t x ix).run P w = .ok (.pointer (some (a.add (i.toNat * size)))) w := by
  subst hi
  rcases hx with ⟨rfl, rfl⟩ | ⟨rfl, c, rfl⟩
  · simp only [Instr.indexAt, asIntOf, Sem.run_bind, Sem.run_pure, Result.andThen_ok, run_underlying hu, Instr.sureAddr, if_pos h, run_sizeOf_of hs]
  · simp only [Instr.indexAt, asIntOf, Sem.run_bind, Sem.run_pure, Result.andThen_ok, run_underlying hu, if_pos h, run_sizeOf_of hs]

theorem quiet_sound {E : Env} {o : Oper} {h : AHeap} {r : ARes} (hk : opKind o.op = 0) (e : aop E o ev h = some r) (H : HQ ρ h.get w) (hv : Evs ρ ev ev') : Quiet E.P ρ w r (execOp ev' o) := by
  obtain ⟨dst, op, ty, pos, after, guard⟩ := o
  cases op
  case move x =>
    obtain ⟨v, hx, rfl⟩ := keep_some e
    exact ⟨v, _, rfl, rfl, hv x v hx⟩
  case assign x =>
    obtain ⟨v, hx, rfl⟩ := keep_some e
    exact ⟨v, _, rfl, rfl, hv x v hx⟩
  case pick c a b =>
    simp only [aop] at e
    split at e
    · rename_i hc
      obtain ⟨v, hx, rfl⟩ := keep_some e
      have h1 := hv c _ hc
      cases hcc : ev' c <;> rw [hcc] at h1 <;> cases h1
      exact ⟨v, ev' a, rfl, by simp [execOp, hcc, asBool], hv a v hx⟩
    · rename_i hc
      obtain ⟨v, hx, rfl⟩ := keep_some e
      have h1 := hv c _ hc
      cases hcc : ev' c <;> rw [hcc] at h1 <;> cases h1
      exact ⟨v, ev' b, rfl, by simp [execOp, hcc, asBool], hv b v hx⟩
    · simp at e
  case build t parts =>
    simp only [aop] at e
    split at e
    · rename_i ps hps
      obtain ⟨v, hx, rfl⟩ := keep_some e
      obtain ⟨v', h1, h2⟩ := aBuild_sound hx (evParts_sound hv hps) w
      refine Quiet.of rfl (v' := v') ?_ h2
      have : (parts.toList.map fun (i, x) => (i, ev' x)).toArray = parts.map fun (i, x) => (i, ev' x) := by
        apply Array.ext'; simp
      rw [← this]; exact h1
    · simp at e
  case load t a =>
    simp only [aop] at e
    split at e
    · rename_i b o hb
      obtain ⟨v, hx, rfl⟩ := keep_some e
      have h1 := hv a _ hb
      cases hcc : ev' a <;> rw [hcc] at h1 <;> cases h1
      rename_i l hl
      obtain ⟨v', h2, h3⟩ := aLoad_sound hx H hl
      exact Quiet.of rfl (by simp [Instr.loadAt, hcc, Instr.sureAddr, h2]) h3
    · simp at e
  case nilCheck x =>
    simp only [aop] at e
    split at e
    · rename_i a hx
      simp at e; subst e
      have h1 := hv x _ hx
      refine ⟨_, ev' x, rfl, ?_, h1⟩
      cases hcc : ev' x <;> rw [hcc] at h1 <;> cases h1
      simp [execOp, hcc]
    · rename_i f a c hx
      simp at e; subst e
      have h1 := hv x _ hx
      refine ⟨_, ev' x, rfl, ?_, h1⟩
      obtain ⟨fn', a', c', he, hf, _, _⟩ := h1.func_inv
      cases hf
      simp [execOp, he]
    · rename_i f a c hx
      simp at e; subst e
      have h1 := hv x _ hx
      refine ⟨_, ev' x, rfl, ?_, h1⟩
      obtain ⟨fn', a', c', he, hf, _, _⟩ := h1.func_inv
      cases hf
      simp [execOp, he]
    · simp at e
  case binOp op t x y yt =>
    simp only [aop] at e
    split at e
    · rename_i a b ha hb
      obtain ⟨v, hx, rfl⟩ := keep_some e
      obtain ⟨v', h1, h2⟩ := aBin_sound hx H (hv x a ha) (hv y b hb)
      exact Quiet.of rfl h1 h2
    · simp at e
  case unOp op t x =>
    simp only [aop] at e
    split at e
    · rename_i v0 hx
      split at e
      · rename_i hg
        obtain ⟨v, hs, rfl⟩ := keep_some e
        have : ev' x = v0 := gr_eq hg (hv x v0 hx)
        exact Quiet.of rfl (by rw [this]; exact (statG_run hs w).1) ((statG_run hs w).2 ρ)
      · simp at e
    · simp at e
  case convert s d x =>
    simp only [aop] at e
    split at e
    · rename_i v0 hx
      split at e
      · rename_i hg
        obtain ⟨v, hs, rfl⟩ := keep_some e
        have : ev' x = v0 := gr_eq hg (hv x v0 hx)
        exact Quiet.of rfl (by rw [this]; exact (statG_run hs w).1) ((statG_run hs w).2 ρ)
      · simp at e
    · simp at e
  case makeInterface t x =>
    simp only [aop] at e
    split at e
    · simp at e
    · rename_i v u hni hx hu
      obtain rfl := Option.some.inj e
      refine Quiet.of rfl (v' := .iface t (ev' x)) ?_ (.iface t (hv x v hx))
      cases u <;> first | exact (hni _ rfl).elim | simp [Instr.makeInterface, run_underlying hu]
    · simp at e
  case makeFunc fn first captured =>
    simp only [aop] at e
    split at e
    · rename_i f a c ha hc
      obtain rfl := Option.some.inj e
      refine Quiet.of rfl (v' := .func (.func f) (first.map ev') (captured.map ev')) rfl (VR.of_func (.func f) ?_ ?_)
      · have := evs_sound hv ha; simpa [AR] using this
      · have := evs_sound hv hc; simpa [AR] using this
    · simp at e
  case slice t x lo hi mx =>
    simp only [aop] at e
    split at e
    · rename_i v a b c hx hlo hhi hmx
      obtain ⟨v0, v', rfl, h1, h2⟩ := aSlice_sound e H (hv x v hx) (evOpt_sound hv hlo) (evOpt_sound hv hhi) (evOpt_sound hv hmx)
      exact Quiet.of rfl h1 h2
    · simp at e
  case fieldAddr s x i =>
    simp only [aop] at e
    split at e
    · rename_i b o fields hx hu
      split at e
      · rename_i f hf
        split at e
        · rename_i n hn
          obtain rfl := Option.some.inj e
          have h1 := hv x _ hx
          cases hcc : ev' x <;> rw [hcc] at h1 <;> cases h1
          rename_i l hl
          refine Quiet.of rfl (v' := .pointer (some ⟨l.block, l.base + (o + f.offset), none⟩)) ?_ (.ptr hl)
          simp [Instr.fieldAt, run_underlying hu, hf, hcc, Instr.sureAddr, sizeAt_ne hn _ f rfl, add_at, Nat.add_assoc]
        · simp at e
      · simp at e
    · simp at e
  case field t x i =>
    simp only [aop] at e
    split at e
    · rename_i cs fields hx hu
      split at e
      · rename_i f hf
        obtain ⟨v, hp, rfl⟩ := keep_some e
        obtain ⟨cs', hcc, hr⟩ := (hv x _ hx).agg_inv
        obtain ⟨v', h1, h2⟩ := aPart_sound hp hr w
        refine Quiet.of rfl (v' := v') ?_ h2
        simp [Instr.field, run_underlying hu, hf, hcc, asAgg, h1]
      · simp at e
    · simp at e
  case indexAddr t x ix =>
    simp only [aop] at e
    split at e
    · rename_i b o k i len elem hx hi hu
      split at e
      · rename_i size hs
        split at e
        · rename_i hlt
          obtain rfl := Option.some.inj e
          have h1 := hv x _ hx
          have h2 := hv ix _ hi
          cases hcc : ev' x <;> rw [hcc] at h1 <;> cases h1
          cases hci : ev' ix <;> rw [hci] at h2 <;> cases h2
          rename_i l hl
          refine Quiet.of rfl (v' := .pointer (some ⟨l.block, l.base + (o + i.toNat * size), none⟩)) ?_ (.ptr hl)
          rw [hcc, hci, run_indexAt hu (.inl ⟨rfl, rfl⟩) rfl hlt hs, add_at, Nat.add_assoc]
        · simp at e
      · simp at e
    · rename_i b o len cap k i elem hx hi hu
      split at e
      · rename_i size hs
        split at e
        · rename_i hlt
          obtain rfl := Option.some.inj e
          have h1 := hv x _ hx
          have h2 := hv ix _ hi
          cases hcc : ev' x <;> rw [hcc] at h1 <;> cases h1
          cases hci : ev' ix <;> rw [hci] at h2 <;> cases h2
          rename_i cap' l hl hc
          refine Quiet.of rfl (v' := .pointer (some ⟨l.block, l.base + (o + i.toNat * size), none⟩)) ?_ (.ptr hl)
          rw [hcc, hci, run_indexAt hu (.inr ⟨rfl, cap', rfl⟩) rfl hlt hs, add_at, Nat.add_assoc]
        · simp at e
      · simp at e
    · simp at e
  case index t x ix =>
    simp only [aop] at e
    split at e
    · rename_i cs k i len elem hx hi hu
      split at e
      · rename_i size hs
        split at e
        · rename_i hlt
          obtain ⟨v, hp, rfl⟩ := keep_some e
          obtain ⟨cs', hcc, hr⟩ := (hv x _ hx).agg_inv
          have h2 := hv ix _ hi
          cases hci : ev' ix <;> rw [hci] at h2 <;> cases h2
          obtain ⟨v', h1, h2⟩ := aPart_sound hp hr w
          refine Quiet.of rfl (v' := v') ?_ h2
          simp only [Instr.index, hci, asIntOf, Sem.run_bind, Sem.run_pure, Result.andThen_ok, run_underlying hu, hcc, if_pos hlt, run_sizeOf_of hs, h1]
        · simp at e
      · simp at e
    · rename_i s k i hx hi hu
      split at e
      · rename_i h0
        split at e
        · rename_i b hb
          obtain rfl := Option.some.inj e
          have h1 := hv x _ hx
          have h2 := hv ix _ hi
          cases hcc : ev' x <;> rw [hcc] at h1 <;> cases h1
          cases hci : ev' ix <;> rw [hci] at h2 <;> cases h2
          refine Quiet.of rfl (v' := .int .u8 b.toNat) ?_ (.int _ _)
          simp only [Instr.index, hci, asIntOf, Sem.run_bind, Sem.run_pure, Result.andThen_ok, run_underlying hu, hcc, if_pos h0, hb]
        · simp at e
      · simp at e
    · simp at e
  case lookup t x k ok =>
    simp only [aop] at e
    split at e
    · rename_i m kk hx hkk
      obtain ⟨v, hp, rfl⟩ := keep_some e
      obtain ⟨v', h1, h2⟩ := aLookup_sound hp H (hv x m hx) (hv k kk hkk)
      exact Quiet.of rfl h1 h2
    · simp at e
  case entry it =>
    simp only [aop] at e
    split at e
    · rename_i m hx
      obtain ⟨v, hp, rfl⟩ := keep_some e
      obtain ⟨v', h1, h2⟩ := aEntry_sound (P := E.P) hp H (hv it m hx)
      exact Quiet.of rfl h1 h2
    · simp at e
  case typeAssert x xt asserted ok =>
    simp only [aop] at e
    split at e
    · rename_i m hx
      obtain ⟨v, hp, rfl⟩ := keep_some e
      obtain ⟨v', h1, h2⟩ := aAssert_sound (w := w) (t := xt) hp (hv x m hx)
      exact Quiet.of rfl h1 h2
    · simp at e
  case extract t i =>
    simp only [aop] at e
    split at e
    · rename_i vs hx
      obtain ⟨v, hp, rfl⟩ := keep_some e
      obtain ⟨vs', hcc, hr⟩ := (hv t _ hx).tuple_inv
      obtain ⟨v', h1, h2⟩ := hr.get hp
      exact Quiet.of rfl (by simp [Instr.extract, hcc, h1]) h2
    · simp at e
  case call c =>
    obtain ⟨callee, cargs, argTypes⟩ := c
    simp only [aop, aCall] at e
    split at e
    · simp at e
    · rename_i args ha
      have hargs : AR ρ args.toArray (cargs.map ev') := by have := evs_sound hv ha; simpa [AR] using this
      cases callee with
      | value f => simp [opKind] at hk
      | invoke a b => simp [opKind] at hk
      | builtin b =>
        cases b <;> simp [opKind] at hk <;> simp only [aBuiltin] at e
        · -- cap
          obtain ⟨v, hp, rfl⟩ := keep_some e
          obtain ⟨h1, h2⟩ := aCap_sound (ty := ty) hp H hargs
          exact ⟨v, v, rfl, by simp [execOp, resolve, invoke, builtin, h1], h2⟩
        · -- len
          obtain ⟨v, hp, rfl⟩ := keep_some e
          obtain ⟨h1, h2⟩ := aLen_sound (ty := ty) hp H hargs
          exact ⟨v, v, rfl, by simp [execOp, resolve, invoke, builtin, h1], h2⟩
        · -- max
          split at e
          · rename_i hg
            obtain ⟨v, hp, rfl⟩ := keep_some e
            have := hargs.gr_eq hg
            refine ⟨v, v, rfl, ?_, (statG_run hp w).2 ρ⟩
            have h1 := (statG_run hp w).1
            have h1' : (Builtin.max_ argTypes ty (cargs.map ev')).run E.P w = .ok v w := by rw [this]; exact h1
            simp [execOp, resolve, invoke, builtin, h1']
          · simp at e
        · -- min
          split at e
          · rename_i hg
            obtain ⟨v, hp, rfl⟩ := keep_some e
            have := hargs.gr_eq hg
            refine ⟨v, v, rfl, ?_, (statG_run hp w).2 ρ⟩
            have h1 := (statG_run hp w).1
            have h1' : (Builtin.min_ argTypes ty (cargs.map ev')).run E.P w = .ok v w := by rw [this]; exact h1
            simp [execOp, resolve, invoke, builtin, h1']
          · simp at e
  all_goals first | (simp [opKind] at hk; done) | (simp [aop] at e; done)

/-- What an operation comes to. -/
def OpRes (E : Env) (ρ : Ren) (h : AHeap) (w : World) (r : ARes) (res : Result Next) : Prop := match r with
  | .val v none => ∃ v', res = .ok (.value v') w ∧ VR ρ v v'
  | .val v (some h') => ∃ v' w' ρ', (res = .ok (.value v') w' ∨ (res = .ok .skip w' ∧ v' = undef)) ∧ VR ρ' v v' ∧ HR ρ' h'.get w' ∧ Moves ρ h.get h.next w ρ' h'.get h'.next w' ∧ h'.ok
  | .enter g args => ∃ args', (∀ fn c, E.P.funcs[g]? = some fn → fn.body = some c → res = .ok (.enter g args') w) ∧ AR ρ args args'
  | .round l args => ∃ k args', ρ l = some k ∧ AR ρ args args' ∧ res = (Instr.yield k.block args').run E.P w

theorem OpRes.of_heap {E : Env} {h : AHeap} {r : ARes} {s : Sem Value} (hr : HeapRes E.P ρ h w r VRel s) : OpRes E ρ h w r ((do pure (.value (← s)) : Sem Next).run E.P w) := by
  rcases hr with ⟨v, a, rfl, h1, h2⟩ | ⟨v, h', rfl, v', w', ρ', h1, h2, h3, h4, h5⟩
  · exact ⟨a, by simp [h1], h2⟩
  · exact ⟨v', w', ρ', .inl (by simp [h1]), h2, h3, h4, h5⟩
theorem OpRes.of_quiet {E : Env} {h : AHeap} {r : ARes} {s : Sem Next} (hr : Quiet E.P ρ w r s) : OpRes E ρ h w r (s.run E.P w) := by
  obtain ⟨v, v', rfl, h1, h2⟩ := hr
  exact ⟨v', h1, h2⟩
theorem HeapRes.new {P : Program} {h : AHeap} {r : ARes} {s : Sem Value} (hr : ∃ v h', r = .val v (some h') ∧ h'.next = h.next + 1 ∧ HSim P ρ h w (fun ρ' v' => VR ρ' v v') h' s) : HeapRes P ρ h w r VRel s := by
  obtain ⟨v, h', rfl, _, hs⟩ := hr
  exact .inr ⟨v, h', rfl, hs⟩
theorem FreshFor.of_next {h : AHeap} {r : ARes} (hf : FreshFor ρ h r) (hn : ∃ v h', r = .val v (some h') ∧ h'.next = h.next + 1) : Fresh ρ h.next (h.next + 1) := by
  obtain ⟨v, h', rfl, hn⟩ := hn
  rw [← hn]; exact hf v h' rfl

theorem aNew_next {elem : TypeId} {vs : List Value} {h : AHeap} {r : ARes} (e : aNew elem vs h = some r) : ∃ v h', r = .val v (some h') ∧ h'.next = h.next + 1 := by
  unfold aNew at e
  split at e
  · simp at e; exact ⟨_, _, e.symm, rfl⟩
  · simp at e
theorem aBuildSlice_next {P : Program} {t : TypeId} {len : Nat} {ps : List (Nat × Value)} {h : AHeap} {r : ARes} (e : aBuildSlice P t len ps h = some r) : ∃ v h', r = .val v (some h') ∧ h'.next = h.next + 1 := by
  unfold aBuildSlice at e
  repeat' split at e
  all_goals first | (simp at e; done) | (simp at e; exact ⟨_, _, e.symm, rfl⟩)
theorem aMakeSlice_next {P : Program} {t : TypeId} {l c : Value} {h : AHeap} {r : ARes} (e : aMakeSlice P t l c h = some r) : ∃ v h', r = .val v (some h') ∧ h'.next = h.next + 1 := by
  unfold aMakeSlice at e
  repeat' split at e
  all_goals first | (simp at e; done) | (simp at e; exact ⟨_, _, e.symm, rfl⟩)

theorem aMethod_run {P : Program} {t : TypeId} {name : String} {g : FuncId} (e : aMethod P t name = some g) (v : Value) (w : World) :
    (method (P.types.size + Made.depth) t v name).run P w = .ok (g, v) w := by
  unfold aMethod at e
  split at e
  · rename_i i u hi hu
    split at e
    · rename_i m hm
      have hd : P.types.size + Made.depth = (P.types.size + 99) + 1 := rfl
      rw [hd, method]
      split at e
      · rename_i f el hp hf
        obtain rfl := Option.some.inj e
        simp [run_typeInfo_of hi, hm, hp, hf, follow, receiverAt, run_underlying hu, Place.get]
      · simp at e
      · rename_i u0 xp xf u1 f hp hf hnp
        obtain rfl := Option.some.inj e
        cases u0 <;> first | exact (hnp _ rfl).elim | simp [run_typeInfo_of hi, hm, hp, hf, follow, receiverAt, run_underlying hu, Place.get]
      · simp at e
    · simp at e
  · simp at e

theorem aop_sound {E : Env} (F : Fits E) {o : Oper} {h : AHeap} {r : ARes} (e : aop E o ev h = some r) (H : HR ρ h.get w) (hok : h.ok) (hf : FreshFor ρ h r) (hv : Evs ρ ev ev') : OpRes E ρ h w r ((execOp ev' o).run E.P w) := by
  by_cases hk : opKind o.op = 0
  · exact OpRes.of_quiet (quiet_sound hk e H.quiet hv)
  obtain ⟨dst, op, ty, pos, after, guard⟩ := o
  cases op
  case alloc elem =>
    simp only [aop] at e
    split at e
    · rename_i z hz
      have hn := aNew_next e
      have := aNew_sound (P := E.P) e H hok (hf.of_next hn) (zeroOf_VR (ρ := ρ) hz).cells
      refine OpRes.of_heap (HeapRes.new ?_)
      obtain ⟨v, h', rfl, h2, v', w', ρ', h3, h4⟩ := this
      refine ⟨v, h', rfl, h2, v', w', ρ', ?_, h4⟩
      rw [← h3]
      simp [Instr.alloc, run_zeroValue_of hz, newVar]
    · simp at e
  case box elem x =>
    simp only [aop] at e
    split at e
    · rename_i v0 hx
      have hn := aNew_next e
      have := aNew_sound (P := E.P) e H hok (hf.of_next hn) (hv x v0 hx).cells
      refine OpRes.of_heap (HeapRes.new ?_)
      obtain ⟨v, h', rfl, h2, v', w', ρ', h3, h4⟩ := this
      refine ⟨v, h', rfl, h2, v', w', ρ', ?_, h4⟩
      rw [← h3]
      simp [Instr.box, newVar]
    · simp at e
  case buildSlice t len parts =>
    simp only [aop] at e
    split at e
    · rename_i ps hps
      have := aBuildSlice_sound (P := E.P) e H hok (hf.of_next (aBuildSlice_next e)) (evParts_sound hv hps)
      have hpp : (parts.toList.map fun (i, x) => (i, ev' x)).toArray = parts.map fun (i, x) => (i, ev' x) := by
        apply Array.ext'; simp
      rw [hpp] at this
      exact OpRes.of_heap (HeapRes.new this)
    · simp at e
  case store t a x =>
    simp only [aop] at e
    split at e
    · rename_i b o v hb hx
      split at e
      · rename_i h' hs
        obtain rfl := Option.some.inj e
        have h1 := hv a _ hb
        cases hcc : ev' a <;> rw [hcc] at h1 <;> cases h1
        rename_i l hl
        obtain ⟨w', q1, q2, q3, q4⟩ := aStore_sound hs H hl (hv x v hx) hok
        exact ⟨undef, w', ρ, .inr ⟨by simp [execOp, Instr.storeAt, hcc, Instr.sureAddr, q1], rfl⟩, VR.undef, q2, q3, q4⟩
      · simp at e
    · simp at e
  case makeMap t r0 =>
    simp only [aop] at e
    split at e
    · rename_i hck
      obtain rfl := Option.some.inj e
      obtain ⟨h1, h2, h3⟩ := newObj_sound H hok hf.one (.map [] 0 false) (.map #[] 0) ⟨#[], rfl, .nil⟩
      refine ⟨.map (some w.heap.size), _, _, .inl ?_, VR.map (l := ⟨w.heap.size, 0, 0, 0, 0, false⟩) (Ren.upd_same _ _ _), h1, h2, h3⟩
      cases r0 with
      | none => simp [execOp, Instr.makeMap]
      | some x =>
        simp only at hck
        split at hck
        · rename_i k n kt el hx hu
          have h1 := hv x _ hx
          cases hcc : ev' x <;> rw [hcc] at h1 <;> cases h1
          simp [execOp, Instr.makeMap, run_underlying hu, hcc, asInt, asIntOf]
        · simp at hck
    · simp at e
  case makeSlice t l c =>
    simp only [aop] at e
    split at e
    · rename_i l0 c0 hl hc
      exact OpRes.of_heap (HeapRes.new (aMakeSlice_sound e H hok (hf.of_next (aMakeSlice_next e)) (hv l l0 hl) (hv c c0 hc)))
    · simp at e
  case mapUpdate t m k x =>
    simp only [aop] at e
    split at e
    · rename_i m0 k0 v0 hm hk0 hx
      split at e
      · rename_i h' hs
        obtain rfl := Option.some.inj e
        obtain ⟨w', q1, q2, q3, q4⟩ := aUpdate_sound (P := E.P) hs H hok (hv m m0 hm) (hv k k0 hk0) (hv x v0 hx)
        exact ⟨undef, w', ρ, .inr ⟨by simp [execOp, q1], rfl⟩, VR.undef, q2, q3, q4⟩
      · simp at e
    · simp at e
  case insert t m k x =>
    simp only [aop] at e
    split at e
    · rename_i m0 k0 v0 hm hk0 hx
      split at e
      · rename_i h' hs
        obtain rfl := Option.some.inj e
        obtain ⟨w', q1, q2, q3, q4⟩ := aUpdate_sound (P := E.P) hs H hok (hv m m0 hm) (hv k k0 hk0) (hv x v0 hx)
        exact ⟨undef, w', ρ, .inr ⟨by simp [execOp, q1], rfl⟩, VR.undef, q2, q3, q4⟩
      · simp at e
    · simp at e
  case mapEntry t m k =>
    simp only [aop] at e
    split at e
    · rename_i m0 k0 hm hk0
      exact OpRes.of_heap (aEntryOf_sound e H hok (hv m m0 hm) (hv k k0 hk0))
    · simp at e
  case entryStore t m s x =>
    simp only [aop] at e
    split at e
    · rename_i m0 s0 v0 hm hs0 hx
      split at e
      · rename_i h' hs
        obtain rfl := Option.some.inj e
        obtain ⟨w', q1, q2, q3, q4⟩ := aEntryStore_sound (P := E.P) (t := t) hs H hok (hv m m0 hm) (hv s s0 hs0) (hv x v0 hx)
        exact ⟨undef, w', ρ, .inr ⟨by simp [execOp, q1], rfl⟩, VR.undef, q2, q3, q4⟩
      · simp at e
    · simp at e
  case range t x =>
    simp only [aop] at e
    split at e
    · rename_i v0 hx
      exact OpRes.of_heap (aRange_sound e H hok hf (hv x v0 hx))
    · simp at e
  case next it s =>
    simp only [aop] at e
    split at e
    · rename_i v0 hx
      exact OpRes.of_heap (aNext_sound e H hok (hv it v0 hx))
    · simp at e
  case call c =>
    obtain ⟨callee, cargs, argTypes⟩ := c
    simp only [aop, aCall] at e
    split at e
    · simp at e
    · rename_i args ha
      have hargs : AR ρ args.toArray (cargs.map ev') := by have := evs_sound hv ha; simpa [AR] using this
      have hcallee : ∀ {g : FuncId} {xs xs' : Array Value} {r : ARes}, FreshFor ρ h r → aCallee E g xs h = some r → AR ρ xs xs' → OpRes E ρ h w r ((callFunc g xs').run E.P w) := by
        intro g xs xs' r hf e hx
        unfold aCallee at e
        split at e
        · rename_i hcl
          split at e
          · rename_i t r1 hxs
            split at e
            · rename_i es clock ro hr1
              obtain rfl := Option.some.inj e
              obtain ⟨v', w', ρ', q1, q2, q3, q4, q5⟩ := clone_sound (P := E.P) hr1 H hok hf.one (by rw [← hxs]; exact hx)
              exact ⟨v', w', ρ', .inl (by rw [F.clone g hcl, q1]; rfl), q2, q3, q4, q5⟩
            · simp at e
          · simp at e
        · obtain rfl := Option.some.inj e
          exact ⟨xs', fun fn c h1 h2 => F.enter g fn c h1 h2 _ _, hx⟩
      cases callee with
      | value f =>
        simp only at e
        split at e
        · rename_i g first captured hfv
          obtain ⟨fn', a', c', hcc, hfn, ha', hc'⟩ := (hv f _ hfv).func_inv
          cases hfn
          have := hcallee hf e ((ha'.append hargs).append hc')
          simp only [execOp, resolve, hcc, Deferred.ofValue, Sem.run_bind, Sem.run_pure, Result.andThen_ok, invoke]
          exact this
        · rename_i l first captured hfv
          obtain rfl := Option.some.inj e
          obtain ⟨fn', a', c', hcc, hfn, ha', hc'⟩ := (hv f _ hfv).func_inv
          cases hfn with
          | yield hl =>
          refine ⟨_, _, hl, ha'.append hargs, ?_⟩
          simp only [execOp, resolve, hcc, Deferred.ofValue, Sem.run_bind, Sem.run_pure, Result.andThen_ok, invoke]
        · simp at e
      | invoke recv name =>
        simp only at e
        split at e
        · rename_i t v hrv
          split at e
          · rename_i g hm
            have h1 := hv recv _ hrv
            cases hcc : ev' recv <;> rw [hcc] at h1 <;> cases h1
            rename_i v' hvv
            have := hcallee hf e ((AR.one hvv).append hargs)
            have hmeth := aMethod_run hm v' w
            have hex : (#[Value.iface t v'] ++ cargs.map ev').extract 1 (#[Value.iface t v'] ++ cargs.map ev').size = cargs.map ev' := by
              apply Array.ext'; simp; exact List.take_of_length_le (by simp)
            have h0 : (#[Value.iface t v'] ++ cargs.map ev')[0]? = some (.iface t v') := by rw [Array.getElem?_append_left (by simp)]; rfl
            have hinv : (execOp ev' { dst, op := .call { callee := .invoke recv name, args := cargs, argTypes }, type := ty, pos, after, guard }) = callMethod (.iface t v') name (cargs.map ev') := by
              have : execOp ev' { dst, op := .call { callee := .invoke recv name, args := cargs, argTypes }, type := ty, pos, after, guard } = invoke (.fn (.method name) #[]) (#[ev' recv] ++ cargs.map ev') := rfl
              rw [this, hcc]
              simp only [invoke, h0, hex]
            rw [hinv]
            simp only [callMethod, Sem.run_bind, run_program, Result.andThen_ok, hmeth]
            exact this
          · simp at e
        · simp at e
      | builtin b =>
        have hrun : ∀ (s : Sem Value), builtin b argTypes ty (cargs.map fun | .const _ => true | _ => false) (cargs.map ev') = (do pure (.value (← s))) → HeapRes E.P ρ h w r VRel s →
            OpRes E ρ h w r ((execOp ev' { dst, op := .call { callee := .builtin b, args := cargs, argTypes }, type := ty, pos, after, guard }).run E.P w) := by
          intro s hs hr
          have : execOp ev' { dst, op := .call { callee := .builtin b, args := cargs, argTypes }, type := ty, pos, after, guard } = (do pure (.value (← s))) := by
            rw [← hs]; rfl
          rw [this]
          exact OpRes.of_heap hr
        cases b <;> simp only [aBuiltin] at e <;> first | (simp [opKind] at hk; done) | skip
        case append => exact hrun _ rfl (aAppend_sound e H hok hf hargs)
        case copy => exact hrun _ rfl (aCopy_sound e H hok hargs)
        case delete => exact hrun _ rfl (aDelete_sound e H hok hargs)
        case clear => exact hrun _ rfl (aClear_sound e H hok hargs)
        all_goals (simp at e; done)
  all_goals first | exact absurd rfl hk | (simp [aop] at e; done)
end
end
end Go.Abs
end
