/- Proved here: the evaluator's operations on values and cells answer as the model's (first part). By an AI agent. -/
import Derived.Test.YtmheiipmancjpaaGreatDoorAbB
import Derived.Laws.CopyRow
import Derived.Laws.Cells
import Derived.Laws.Rows
import Derived.ChangeKeysEq
set_option linter.unusedVariables false
set_option linter.unusedSimpArgs false
section
/-! The evaluator's operations on memory are the model's: looking, storing, new blocks. -/
namespace Go.Abs
noncomputable section
variable {P : Program}

theorem stat_run {α : Type} : ∀ {s : Sem α} {a : α}, stat P s = some a → ∀ w, s.run P w = .ok a w := by
  intro s
  induction s with
  | pure b => intro a h w; simp [stat] at h; subst h; rfl
  | program k ih => intro a h w; simp only [stat] at h; simp only [Sem.run]; exact ih P h w
  | _ => intro a h; simp [stat] at h

theorem single_one (v : Value) : v.oneCell' = single v := by cases v <;> rfl

theorem run_typeInfo_of {t : TypeId} {i : TypeInfo} (h : P.info? t = some i) (w : World) : (typeInfo t).run P w = .ok i w := by
  simp [typeInfo, h]
theorem run_sizeOf_of {t : TypeId} {n : Nat} (h : sizeAt P t = some n) (w : World) : (sizeOf t).run P w = .ok n w := by
  unfold sizeAt at h
  split at h
  · rename_i i hi; simp at h; simp [sizeOf, run_typeInfo_of hi, h]
  · simp at h
theorem run_zeroValue_of {t : TypeId} {z : Value} (h : zeroOf P t = some z) (w : World) : (zeroValue t).run P w = .ok z w := by
  unfold zeroOf at h
  split at h
  · rename_i i hi
    split at h
    · rename_i z' hz
      split at h
      · simp at h; subst h; simp [zeroValue, run_typeInfo_of hi, hz]
      · simp at h
    · simp at h
  · simp at h
theorem zeroOf_gr {t : TypeId} {z : Value} (h : zeroOf P t = some z) : gr z = true := by
  unfold zeroOf at h
  split at h
  · split at h
    · split at h
      · rename_i hg; simp at h; subst h; exact hg
      · simp at h
    · simp at h
  · simp at h
theorem zeroOf_VR {ρ : Ren} {t : TypeId} {z : Value} (h : zeroOf P t = some z) : VR ρ z z := ground_VR 6 z (zeroOf_gr h)
theorem run_isAgg_of {t : TypeId} {u : TypeDesc} (h : P.underlying t = some u) (w : World) : (isAgg t).run P w = .ok (aggU u) w := by
  simp only [isAgg, Sem.run_bind, run_underlying h, Result.andThen_ok]
  cases u <;> simp [aggU]

section load
variable {ρ : Ren} {w : World}

theorem add_at (b o i : Nat) : (⟨b, o, none⟩ : Addr).add i = ⟨b, o + i, none⟩ := by unfold Addr.add; split <;> simp_all

theorem OR.cell {n : Nat} {tr : Trie Value} {elem : TypeId} {ro opn : Bool} {sz : Nat} {l : Loc} (H : OR ρ (.cells n tr elem ro opn sz) l w.heap[l.block]?) {o : Nat} {v : Value}
    (ho : o < n) (hv : tr.get o = some v) : ∃ v', w.cell? ⟨l.block, l.base + o, none⟩ = some v' ∧ VR ρ v v' := by
  obtain ⟨_, _, _, _, arr, ha, _, hc⟩ := H
  obtain ⟨v', e, r⟩ := hc o v ho hv
  exact ⟨v', by simp [World.cell?, ha, e], r⟩

theorem OR.cells {n : Nat} {tr : Trie Value} {elem : TypeId} {ro opn : Bool} {sz : Nat} {l : Loc} (H : OR ρ (.cells n tr elem ro opn sz) l w.heap[l.block]?) :
    ∀ {m o : Nat} {xs : List Value}, o + m ≤ n → tr.take o m = some xs → ∃ ys : List Value, LR ρ xs ys ∧ ys.length = m ∧ ∀ j v, ys[j]? = some v → w.cell? ⟨l.block, l.base + o + j, none⟩ = some v := by
  intro m
  induction m with
  | zero => intro o xs _ h; simp [Trie.take_zero] at h; subst h; exact ⟨[], .nil, rfl, fun j v h => by simp at h⟩
  | succ m ih =>
    intro o xs ho h
    simp only [Trie.take_succ] at h
    split at h
    · simp at h
    · rename_i x hx
      split at h
      · simp at h
      · rename_i zs hzs
        simp at h; subst h
        obtain ⟨y, hy, hr⟩ := H.cell (by omega) hx
        obtain ⟨ys, h1, h2, h3⟩ := ih (by omega) hzs
        refine ⟨y :: ys, .cons hr h1, by simp [h2], fun j v hj => ?_⟩
        cases j with
        | zero => simp at hj; subst hj; exact hy
        | succ j => simp at hj; have := h3 j v hj; rw [show l.base + o + (j + 1) = l.base + (o + 1) + j from by omega]; exact this

theorem aLoad_sound {t : TypeId} {b o : Nat} {h : AHeap} {v : Value} (e : aLoad P t b o h = some v) (H : HQ ρ h.get w) {l : Loc} (hl : ρ b = some l) :
    ∃ v', (loadVar t ⟨l.block, l.base + o, none⟩).run P w = .ok v' w ∧ VR ρ v v' := by
  unfold aLoad at e
  split at e
  · rename_i u n tr elem ro opn sz hu hb
    have hor := H.obj b _ l hb hl
    split at e
    · rename_i hagg
      split at e
      · rename_i size hsize
        split at e
        · rename_i hle
          split at e
          · rename_i xs hxs
            simp at e; subst e
            obtain ⟨ys, h1, h2, h3⟩ := hor.cells (Nat.le_of_ble_eq_true hle) hxs
            have hl := run_loadCells_list (P := P) w ⟨l.block, l.base + o, none⟩ ys (fun j v hj => by rw [add_at]; exact h3 j v hj)
            rw [h2] at hl
            refine ⟨.agg ys.toArray, ?_, VR.of_agg (by simpa [AR] using h1)⟩
            simp [loadVar, run_isAgg_of hu, hagg, run_sizeOf_of hsize, hl]
          · simp at e
        · simp at e
      · simp at e
    · rename_i hagg
      split at e
      · rename_i hle
        obtain ⟨v', h1, h2⟩ := hor.cell (o := o) (by have := Nat.le_of_ble_eq_true hle; omega) e
        exact ⟨v', by simp [loadVar, run_isAgg_of hu, hagg, h1], h2⟩
      · simp at e
  · simp at e
end load

section store
variable {ρ : Ren} {w : World}

theorem all_single {xs ys : List Value} (h : LR ρ xs ys) (hs : xs.all single = true) : ∀ v ∈ ys, v.oneCell' = true := by
  induction h with
  | nil => simp
  | cons hv _ ih =>
    simp only [List.all_cons, Bool.and_eq_true] at hs
    intro v hv'
    simp only [List.mem_cons] at hv'
    rcases hv' with rfl | hm
    · rw [single_one, hv.single]; exact hs.1
    · exact ih hs.2 v hm

/-- CELLS STORED INTO A TRACKED ROW. -/
theorem store_sound {g : Got} {n : Nat} {tr : Trie Value} {elem : TypeId} {opn : Bool} {sz : Nat} {b o : Nat} {l : Loc} (H : HR ρ g w) (hb : g b = some (.cells n tr elem false opn sz)) (hl : ρ b = some l)
    {xs ys : List Value} (hr : LR ρ xs ys) (hs : xs.all single = true) (ho : o + xs.length ≤ n) (N : Nat) :
    ∃ w', (storeCells ⟨l.block, l.base + o, none⟩ ys).run P w = .ok () w' ∧ HR ρ (g.upd b (.cells n (tr.fill o xs) elem false opn sz)) w' ∧
      Moves ρ g N w ρ (g.upd b (.cells n (tr.fill o xs) elem false opn sz)) N w' := by
  have hor := H.get hb hl
  obtain ⟨h1, h2, h3, h4, arr, ha, hsz, hc⟩ := hor
  have hlen := hr.length
  have hrun := run_storeCells_at P l.block (l.base + o) elem ys 0 arr w ha (by omega) (all_single hr hs)
  refine ⟨_, hrun, ?_⟩
  have hsz' : (arr.toList.take (l.base + o + 0) ++ ys ++ arr.toList.drop (l.base + o + 0 + ys.length)).toArray.size = arr.size := by
    simp; omega
  refine H.turn (.cells n (tr.fill o xs) elem false opn sz) hb hl rfl (setRow_size _ _ _) (fun B hB => setRow_other _ _ _ _ hB) ?_ N
  refine ⟨h1, h2, h3, h4, _, setRow_heap w l.block arr _ elem (0, 0) ha, by rw [hsz']; exact hsz, fun i v hi hv => ?_⟩
  rw [Trie.get_fill] at hv
  by_cases hin : o ≤ i ∧ i < o + xs.length
  · rw [if_pos hin] at hv
    obtain ⟨v', e, r⟩ := hr.get hv
    refine ⟨v', ?_, r⟩
    have hlt : i - o < ys.length := by omega
    simp only [List.getElem?_toArray, Nat.add_zero]
    rw [List.append_assoc, List.getElem?_append_right (by simp; omega)]
    rw [List.getElem?_append_left (by simp; omega)]
    rw [← e]; congr 1; simp; omega
  · rw [if_neg hin] at hv
    obtain ⟨v', e, r⟩ := hc i v hi hv
    refine ⟨v', ?_, r⟩
    simp only [List.getElem?_toArray, Nat.add_zero]
    rcases Nat.lt_or_ge i o with hlt | hge
    · rw [List.append_assoc, List.getElem?_append_left (by simp; omega), List.getElem?_take_of_lt (by omega)]
      simpa using e
    · rw [List.getElem?_append_right (by simp; omega), List.getElem?_drop]
      have : l.base + o + ys.length + (l.base + i - (List.take (l.base + o) arr.toList ++ ys).length) = l.base + i := by simp; omega
      rw [this]; simpa using e

theorem aStore_sound {t : TypeId} {b o : Nat} {v v' : Value} {h h' : AHeap} (e : aStore P t b o v h = some h') (H : HR ρ h.get w) {l : Loc} (hl : ρ b = some l) (hv : VR ρ v v') (hok : h.ok) :
    ∃ w', (storeVar t ⟨l.block, l.base + o, none⟩ v').run P w = .ok () w' ∧ HR ρ h'.get w' ∧ Moves ρ h.get h.next w ρ h'.get h'.next w' ∧ h'.ok := by
  unfold aStore at e
  split at e
  · rename_i n tr elem opn sz size hb hsize
    split at e
    · rename_i hc
      simp only [Bool.and_eq_true] at hc
      obtain ⟨⟨hc1, hc2⟩, hc3⟩ := hc
      simp at e; subst e
      have hlr : LR ρ v.cells.toList v'.cells.toList := hv.cells
      have hlen : v.cells.toList.length = size := Nat.eq_of_beq_eq_true hc1
      obtain ⟨w', h1, h2, h3⟩ := store_sound (P := P) (o := o) H hb hl hlr hc3 (by have := Nat.le_of_ble_eq_true hc2; omega) h.next
      refine ⟨w', ?_, by rw [AHeap.get_put']; exact h2, by rw [AHeap.get_put']; exact h3, hok.put hb _⟩
      have hsz' : v'.cells.size = size := by have := hv.cells.size; simp at hlen; omega
      simp [storeVar, run_sizeOf_of hsize, hsz', h1]
    · simp at e
  · simp at e
end store

section new
variable {ρ : Ren} {w : World}
/-- A NEW ROW. -/
theorem new_sound {h : AHeap} (H : HR ρ h.get w) (hok : h.ok) (hf : ρ h.next = none) (elem : TypeId) (xs ys : List Value) (hr : LR ρ xs ys) (opn : Bool) (sz : Nat) (more : List Value) :
    HR (ρ.upd h.next ⟨w.heap.size, 0, xs.length, xs.length + more.length, sz, opn⟩) (h.add (.cells xs.length (Trie.ofList xs) elem false opn sz)).get (w.alloc (.cells (ys ++ more).toArray elem)) ∧
    Moves ρ h.get h.next w (ρ.upd h.next ⟨w.heap.size, 0, xs.length, xs.length + more.length, sz, opn⟩) (h.add (.cells xs.length (Trie.ofList xs) elem false opn sz)).get (h.next + 1) (w.alloc (.cells (ys ++ more).toArray elem)) ∧
    (h.add (.cells xs.length (Trie.ofList xs) elem false opn sz)).ok := by
  have hadd := H.add hf (.cells xs.length (Trie.ofList xs) elem false opn sz) (.cells (ys ++ more).toArray elem) ⟨w.heap.size, 0, xs.length, xs.length + more.length, sz, opn⟩ rfl (by
    refine ⟨rfl, rfl, rfl, by simp, _, rfl, by have := hr.length; simp; omega, fun i v hi hv => ?_⟩
    rw [Trie.get_ofList] at hv
    obtain ⟨v', e, r⟩ := hr.get hv
    refine ⟨v', ?_, r.mono (Ren.le_upd hf)⟩
    have := hr.length
    simp only [Nat.zero_add, List.getElem?_toArray]
    rw [List.getElem?_append_left (by omega)]; exact e)
  refine ⟨by rw [AHeap.get_add']; exact hadd.1, by rw [AHeap.get_add']; exact hadd.2, hok.add _⟩
end new
end
end Go.Abs
end
section
/-! The evaluator's quiet operations (those that look at memory at most) are the model's. -/
namespace Go.Abs
noncomputable section
variable {P : Program} {ρ : Ren} {g : Got} {w : World}

theorem statG_run {s : Sem Value} {v : Value} (h : statG P s = some v) (w : World) : s.run P w = .ok v w ∧ ∀ ρ : Ren, VR ρ v v := by
  unfold statG at h
  split at h
  · rename_i v' hv
    split at h
    · rename_i hg; simp at h; subst h; exact ⟨stat_run hv w, fun ρ => ground_VR 6 _ hg⟩
    · simp at h
  · simp at h

theorem gr_eq {v v' : Value} (h : gr v = true) (hr : VR ρ v v') : v' = v := ground_eq 6 v v' h hr
theorem LR.gr_eq {l l' : List Value} (h : l.all gr = true) (hr : LR ρ l l') : l' = l :=
  LR.ground_eq (n := 6) (fun v v' hg hv => Go.Abs.ground_eq 6 v v' hg hv) l l' h hr
theorem AR.gr_eq {a a' : Array Value} (h : a.toList.all gr = true) (hr : AR ρ a a') : a' = a := by
  have := LR.gr_eq h hr
  cases a; cases a'; simp at this; simp [this]

theorem aPart_sound {t : TypeId} {cs cs' : Array Value} {off : Nat} {v : Value} (e : aPart P t cs off = some v) (hr : AR ρ cs cs') (w : World) :
    ∃ v', (part t cs' off).run P w = .ok v' w ∧ VR ρ v v' := by
  unfold aPart at e
  split at e
  · rename_i u hu
    split at e
    · rename_i ha
      split at e
      · rename_i n hn
        simp at e; subst e
        exact ⟨_, by simp [part, run_isAgg_of hu, ha, run_sizeOf_of hn], VR.of_agg (hr.extract _ _)⟩
      · simp at e
    · rename_i ha
      obtain ⟨v', h1, h2⟩ := hr.get e
      exact ⟨v', by simp [part, run_isAgg_of hu, ha, h1], h2⟩
  · simp at e

/-- Parts of an aggregate. -/
inductive PR (ρ : Ren) : List (Nat × Value) → List (Nat × Value) → Prop
  | nil : PR ρ [] []
  | cons {i : Nat} {v v' : Value} {l l' : List (Nat × Value)} (h : VR ρ v v') (t : PR ρ l l') : PR ρ ((i, v) :: l) ((i, v') :: l')

theorem foldl_set {xs ys : List Value} (h : LR ρ xs ys) : ∀ (a a' : Array Value) (k off : Nat), AR ρ a a' →
    AR ρ ((xs.zipIdx k).foldl (fun cs (x : Value × Nat) => cs.setIfInBounds (off + x.2) x.1) a) ((ys.zipIdx k).foldl (fun cs (x : Value × Nat) => cs.setIfInBounds (off + x.2) x.1) a') := by
  induction h with
  | nil => intro a a' k off ha; exact ha
  | cons hv _ ih => intro a a' k off ha; simp only [List.zipIdx_cons, List.foldl_cons]; exact ih _ _ _ _ (ha.set hv _)

theorem fill_sound (place : Nat → Option (Nat × Nat)) {ps ps' : List (Nat × Value)} (h : PR ρ ps ps') : ∀ {a a' cs : Array Value}, AR ρ a a' → Instr.fill place a ps = some cs →
    ∃ cs', Instr.fill place a' ps' = some cs' ∧ AR ρ cs cs' := by
  induction h with
  | nil => intro a a' cs ha e; simp [Instr.fill] at e; subst e; exact ⟨a', rfl, ha⟩
  | @cons i v v' l l' hv _ ih =>
    intro a a' cs ha e
    unfold Instr.fill at e ⊢
    split at e
    · simp at e
    · rename_i off size hp
      have hc := hv.cells
      rw [← hc.size, ← ha.size]
      split at e
      · simp at e
      · rename_i hn
        rw [if_neg hn]
        refine ih ?_ e
        have := foldl_set hc a a' 0 off ha
        have ez : ∀ c b : Array Value, c.zipIdx.foldl (fun cs (c, j) => cs.setIfInBounds (off + j) c) b = (c.toList.zipIdx 0).foldl (fun cs (x : Value × Nat) => cs.setIfInBounds (off + x.2) x.1) b := by
          intro c b
          rw [← Array.foldl_toList, Array.toList_zipIdx]
        rw [ez, ez]
        exact this

theorem run_mapM_list {α β : Type} (f : α → Sem β) (w : World) : ∀ (l : List α) (r : List β), (∀ (i : Nat) (a : α), l[i]? = some a → ∃ b : β, r[i]? = some b ∧ (f a).run P w = .ok b w) → l.length = r.length →
    (l.mapM f).run P w = .ok r w
  | [], r, _, hl => by cases r <;> simp at hl; simp
  | a :: l, r, h, hl => by
    cases r with
    | nil => simp at hl
    | cons b r =>
      obtain ⟨b', e, hb⟩ := h 0 a rfl
      simp at e; subst e
      have ih := run_mapM_list f w l r (fun i x hx => by have := h (i + 1) x (by simpa using hx); simpa using this) (by simpa using hl)
      simp [List.mapM_cons, hb, ih]

theorem aPlaces_get : ∀ {fs : List Field} {ps : List (Nat × Nat)}, aPlaces P fs = some ps → fs.length = ps.length ∧ ∀ (i : Nat) (f : Field), fs[i]? = some f → ∃ n : Nat, ps[i]? = some (f.offset, n) ∧ sizeAt P f.type = some n := by
  intro fs
  induction fs with
  | nil => intro ps h; simp [aPlaces] at h; subst h; exact ⟨rfl, fun i f hi => by simp at hi⟩
  | cons f fs ih =>
    intro ps h
    unfold aPlaces at h
    split at h
    · rename_i n ps' hn hps
      simp at h; subst h
      obtain ⟨h1, h2⟩ := ih hps
      refine ⟨by simp [h1], fun i x hi => ?_⟩
      cases i with
      | zero => simp at hi; subst hi; exact ⟨n, rfl, hn⟩
      | succ i => simp at hi; obtain ⟨m, e, hm⟩ := h2 i x hi; exact ⟨m, by simpa using e, hm⟩
    · simp at h

theorem aBuild_sound {t : TypeId} {ps ps' : List (Nat × Value)} {v : Value} (e : aBuild P t ps = some v) (hr : PR ρ ps ps') (w : World) :
    ∃ v', (Instr.build t ps'.toArray).run P w = .ok v' w ∧ VR ρ v v' := by
  unfold aBuild at e
  split at e
  · rename_i z fields hz hu
    split at e
    · rename_i pl hpl
      split at e
      · rename_i cs hcs
        simp at e; subst e
        obtain ⟨cs', h1, h2⟩ := fill_sound _ hr (zeroOf_VR (ρ := ρ) hz).cells hcs
        refine ⟨.agg cs', ?_, VR.of_agg h2⟩
        obtain ⟨hl, hg⟩ := aPlaces_get hpl
        have hm : (fields.mapM fun f => (do pure (f.offset, ← sizeOf f.type) : Sem (Nat × Nat))).run P w = .ok pl.toArray w := by
          rw [Array.mapM_eq_mapM_toList]
          have := run_mapM_list (P := P) (fun f : Field => (do pure (f.offset, ← sizeOf f.type) : Sem (Nat × Nat))) w fields.toList pl (fun i f hi => by
            obtain ⟨n, h1, h2⟩ := hg i f hi
            exact ⟨_, h1, by simp [run_sizeOf_of h2]⟩) hl
          simp only [Sem.run_map, this, Result.andThen_ok]
        simp only [Instr.build, Sem.run_bind, run_zeroValue_of hz, run_underlying hu, Result.andThen_ok, hm, h1]
        rfl
      · simp at e
    · simp at e
  · rename_i z len elem hz hu
    split at e
    · rename_i size hsz
      split at e
      · rename_i cs hcs
        simp at e; subst e
        obtain ⟨cs', h1, h2⟩ := fill_sound _ hr (zeroOf_VR (ρ := ρ) hz).cells hcs
        refine ⟨.agg cs', ?_, VR.of_agg h2⟩
        simp [Instr.build, run_zeroValue_of hz, run_underlying hu, run_sizeOf_of hsz, h1]
      · simp at e
    · simp at e
  · simp at e

/-! ### '==' -/

theorem frozen_none {arr : Array Value} {elem : TypeId} {b : Nat} (h : w.heap[b]? = some (.cells arr elem (0, 0))) (o : Nat) : w.frozen? ⟨b, o, none⟩ = false := by
  simp [World.frozen?, h]

theorem run_sameAddr {a b : Addr} {arr arr' : Array Value} {el el' : TypeId} (ha : w.heap[a.block]? = some (.cells arr el (0, 0))) (hb : w.heap[b.block]? = some (.cells arr' el' (0, 0))) :
    (sameAddr a b).run P w = .ok (if a.block = b.block then a == b else false) w := by
  obtain ⟨a, ao, as⟩ := a
  obtain ⟨b, bo, bs⟩ := b
  simp only at ha hb
  by_cases e : a = b
  · subst e
    simp [sameAddr]
  · have e' : (a == b) = false := by simpa using e
    simp [sameAddr, e, e', World.frozen?, ha, hb, noView, viewAt, World.shape?, mayBeOne, stringish]

theorem live_obj {h : AHeap} {b : Nat} {l : Loc} (hv : live h b = true) (H : HQ ρ h.get w) (hl : ρ b = some l) : ∃ arr el, w.heap[l.block]? = some (.cells arr el (0, 0)) := by
  unfold live at hv
  split at hv
  · rename_i n t el ro opn sz hb
    obtain ⟨_, _, _, _, arr, ha, _⟩ := H.obj b _ l hb hl
    exact ⟨arr, el, ha⟩
  · simp at hv

theorem live_some {h : AHeap} {b : Nat} (hv : live h b = true) : ∃ o, h.get b = some o := by
  unfold live at hv
  split at hv
  · rename_i hb; exact ⟨_, hb⟩
  · simp at hv

theorem aEqual_sound {t : TypeId} {x y x' y' : Value} {h : AHeap} {r : Bool} (e : aEqual P t x y h = some r) (H : HQ ρ h.get w) (hx : VR ρ x x') (hy : VR ρ y y') :
    ∀ d, (Op.equalIn (d + 1) t x' y').run P w = .ok r w := by
  intro d
  unfold aEqual at e
  split at e
  · rename_i elem b hu
    cases hx
    cases hy <;> simp at e <;> subst e <;> (rw [Op.equalIn, Sem.run_bind, run_underlying hu]; rfl)
  · rename_i elem a hne hu
    cases hy
    cases hx <;> simp at e <;> subst e <;> first | exact absurd rfl hne | (rw [Op.equalIn, Sem.run_bind, run_underlying hu]; rfl)
  · rename_i elem a o b p hu
    split at e
    · rename_i n hn
      split at e
      · rename_i hl
        simp only [Bool.and_eq_true] at hl
        cases hx with
        | ptr hx =>
        cases hy with
        | ptr hy =>
        rename_i la lb
        obtain ⟨arr, el, ha⟩ := live_obj hl.1 H hx
        obtain ⟨arr', el', hb⟩ := live_obj hl.2 H hy
        have hs := run_sameAddr (P := P) (w := w) (a := ⟨la.block, la.base + o, none⟩) (b := ⟨lb.block, lb.base + p, none⟩) ha hb
        have hrun : (Op.equalIn (d + 1) t (.pointer (some ⟨la.block, la.base + o, none⟩)) (.pointer (some ⟨lb.block, lb.base + p, none⟩))).run P w =
            .ok (if la.block = lb.block then (⟨la.block, la.base + o, none⟩ : Addr) == ⟨lb.block, lb.base + p, none⟩ else false) w := by
          rw [Op.equalIn, Sem.run_bind, run_underlying hu]
          simp only [Result.andThen_ok, Sem.run_bind, run_sizeOf_of hn]
          simp [hs]
        rw [hrun]
        split at e
        · rename_i hab
          have hab := Nat.eq_of_beq_eq_true hab
          subst hab
          rw [hx] at hy; cases hy
          simp at e; subst e
          simp only [if_true]
          congr 1
          by_cases hop : o = p
          · subst hop; simp
          · have h1 : Nat.beq o p = false := by cases hb : Nat.beq o p with | false => rfl | true => exact absurd (Nat.eq_of_beq_eq_true hb) hop
            rw [h1]
            simp; omega
        · rename_i hab
          have hab : a ≠ b := Nat.ne_of_beq_eq_false hab
          simp at e; subst e
          obtain ⟨oa, hoa⟩ := live_some hl.1
          obtain ⟨ob, hob⟩ := live_some hl.2
          rw [if_neg (H.inj a b _ _ la lb hoa hob hx hy hab)]
      · simp at e
    · simp at e
  · rename_i elem n m b l c hu
    cases hx
    cases hy <;> simp at e <;> subst e <;> (rw [Op.equalIn, Sem.run_bind, run_underlying hu]; rfl)
  · rename_i elem a n m l c hne hu
    cases hy
    cases hx <;> simp at e <;> subst e <;> first | exact absurd rfl hne | (rw [Op.equalIn, Sem.run_bind, run_underlying hu]; rfl)
  · rename_i k elem b hu
    cases hx
    cases hy <;> simp at e <;> subst e <;> (rw [Op.equalIn, Sem.run_bind, run_underlying hu]; rfl)
  · rename_i k elem a hne hu
    cases hy
    cases hx <;> simp at e <;> subst e <;> first | exact absurd rfl hne | (rw [Op.equalIn, Sem.run_bind, run_underlying hu]; rfl)
  · rename_i hu
    cases hx; cases hy; simp at e; subst e; rw [Op.equalIn, Sem.run_bind, run_underlying hu]; rfl
  · rename_i hu
    cases hx; cases hy; simp at e; subst e; rw [Op.equalIn, Sem.run_bind, run_underlying hu]; rfl
  · rename_i hu
    cases hx; cases hy; simp at e; subst e; rw [Op.equalIn, Sem.run_bind, run_underlying hu]; rfl
  · rename_i hu
    cases hx; cases hy; simp at e; subst e; rw [Op.equalIn, Sem.run_bind, run_underlying hu]; rfl
  · rename_i hu
    cases hx; cases hy; simp at e; subst e; rw [Op.equalIn, Sem.run_bind, run_underlying hu]; rfl
  · simp at e
end
end Go.Abs
end
section
/-! The evaluator's quiet operations, continued: comparisons, maps, slices. -/
namespace Go.Abs
noncomputable section
variable {P : Program} {ρ : Ren} {g : Got} {w : World}

theorem stat_bind {α β : Type} (f : α → Sem β) : ∀ x : Sem α, stat P (x.bind f) = match stat P x with | some a => stat P (f a) | none => none := by
  intro x
  induction x with
  | pure a => rfl
  | program k ih => simp only [Sem.bind, stat]; exact ih P
  | _ => rfl
theorem stat_bind' {α β : Type} (x : Sem α) (f : α → Sem β) : stat P (x >>= f) = match stat P x with | some a => stat P (f a) | none => none := stat_bind f x
theorem stat_bind_some {α β : Type} {x : Sem α} {f : α → Sem β} {b : β} (h : stat P (x >>= f) = some b) : ∃ a, stat P x = some a ∧ stat P (f a) = some b := by
  rw [stat_bind'] at h
  split at h
  · rename_i a ha; exact ⟨a, ha, h⟩
  · cases h

theorem aEqual_shape {t : TypeId} {x y x' y' : Value} {h : AHeap} {r : Bool} (e : aEqual P t x y h = some r) (hx : VR ρ x x') (hy : VR ρ y y') :
    (∀ op a b, (eqGuard op t a b x' y').run P w = .ok () w) ∧ binOp .eql t x' y' = (do pure (.bool (← Op.equal t x' y'))) ∧ binOp .neq t x' y' = (do pure (.bool (!(← Op.equal t x' y')))) := by
  unfold aEqual at e
  split at e
  · cases hx; cases hy <;> exact ⟨fun op a b => by cases op <;> rfl, rfl, rfl⟩
  · cases hy; cases hx <;> first | exact ⟨fun op a b => by cases op <;> rfl, rfl, rfl⟩ | simp at e
  · cases hx; cases hy; exact ⟨fun op a b => by cases op <;> rfl, rfl, rfl⟩
  · cases hx; cases hy <;> exact ⟨fun op a b => by cases op <;> rfl, rfl, rfl⟩
  · cases hy; cases hx <;> exact ⟨fun op a b => by cases op <;> rfl, rfl, rfl⟩
  · cases hx; cases hy <;> exact ⟨fun op a b => by cases op <;> rfl, rfl, rfl⟩
  · cases hy; cases hx <;> exact ⟨fun op a b => by cases op <;> rfl, rfl, rfl⟩
  · cases hx; cases hy; exact ⟨fun op a b => by cases op <;> rfl, rfl, rfl⟩
  · cases hx; cases hy; exact ⟨fun op a b => by cases op <;> rfl, rfl, rfl⟩
  · cases hx; cases hy; exact ⟨fun op a b => by cases op <;> rfl, rfl, rfl⟩
  · cases hx; cases hy; exact ⟨fun op a b => by cases op <;> rfl, rfl, rfl⟩
  · cases hx; cases hy; exact ⟨fun op a b => by cases op <;> rfl, rfl, rfl⟩
  · simp at e

theorem aRng_sound {op : BinOp} {x y : Nat} {n m : Int} {r : Bool} (e : aRng op x y n = some r) (h : x ≤ m ∧ m ≤ y) (w : World) : (Op.intCmp op m n).run P w = .ok (.bool r) w := by
  obtain ⟨h1, h2⟩ := h
  cases op <;> simp only [aRng] at e <;> (try (cases e; done)) <;> (repeat' split at e) <;> (try (cases e; done)) <;> cases e <;> simp only [Op.intCmp, Sem.run_pure] <;> congr 2
  · simp; omega
  · simp; omega
  · simp; omega
  · simp; omega
  · simp; omega
  · simp; omega
  · simp; omega
  · simp; omega
  · simp; omega
  · simp; omega

theorem aBin_sound {op : BinOp} {t : TypeId} {x y : Operand} {a b a' b' v : Value} {h : AHeap} (e : aBin P op t x y a b h = some v) (H : HQ ρ h.get w) (ha : VR ρ a a') (hb : VR ρ b b') :
    ∃ v', (do eqGuard op t x y a' b'; binOp op t a' b' : Sem Value).run P w = .ok v' w ∧ VR ρ v v' := by
  unfold aBin at e
  split at e
  · rename_i k m k' n
    cases ha; cases hb
    have hg : (eqGuard op t x y (.int k m) (.int k' n)).run P w = .ok () w := by cases op <;> rfl
    simp only [Sem.run_bind, hg, Result.andThen_ok]
    split at e
    · exact ⟨v, (statG_run e w).1, (statG_run e w).2 ρ⟩
    · exact ⟨v, (statG_run e w).1, (statG_run e w).2 ρ⟩
    · rename_i hn1 hn2
      split at e
      · rename_i hk
        have hk : k = k' := by simpa using hk
        subst hk
        refine ⟨v, ?_, (statG_run e w).2 ρ⟩
        rw [← (statG_run e w).1]
        congr 1
        cases op <;> first | exact absurd rfl hn1 | exact absurd rfl hn2 | simp [binOp]
      · simp at e
  · split at e
    · rename_i kf xa yb ki nn _ hk
      have hk : rngKind kf = ki := by simpa using hk
      split at e
      · rename_i r hr
        cases e
        cases hb
        cases ha with
        | @rng _ _ _ m h =>
          subst hk
          have hg : (eqGuard op t x y (.int (rngKind kf) m) (.int (rngKind kf) nn)).run P w = .ok () w := by cases op <;> rfl
          refine ⟨.bool r, ?_, .bool _⟩
          have hc := aRng_sound (P := P) hr h w
          simp only [Sem.run_bind, hg, Result.andThen_ok]
          rw [← hc]
          cases op <;> first | (simp only [aRng] at hr; cases hr; done) | simp [binOp]
      · simp at e
    · simp at e
  · split at e
    · rename_i hgr
      simp only [Bool.and_eq_true] at hgr
      rw [gr_eq hgr.1 ha, gr_eq hgr.2 hb]
      split at e
      · rename_i u hu
        simp only [Sem.run_bind, stat_run hu w, Result.andThen_ok]
        exact ⟨v, (statG_run e w).1, (statG_run e w).2 ρ⟩
      · simp at e
    · split at e
      · split at e
        · rename_i r hr
          simp at e; subst e
          obtain ⟨h1, h2, _⟩ := aEqual_shape (w := w) hr ha hb
          refine ⟨.bool r, ?_, .bool _⟩
          have he : (Op.equal t a' b').run P w = .ok r w := aEqual_sound hr H ha hb 9999
          simp only [Sem.run_bind, h1, Result.andThen_ok, h2, he, Sem.run_pure]
        · simp at e
      · split at e
        · rename_i r hr
          simp at e; subst e
          obtain ⟨h1, _, h2⟩ := aEqual_shape (w := w) hr ha hb
          refine ⟨.bool !r, ?_, .bool _⟩
          have he : (Op.equal t a' b').run P w = .ok r w := aEqual_sound hr H ha hb 9999
          simp only [Sem.run_bind, h1, Result.andThen_ok, h2, he, Sem.run_pure]
        · simp at e
      · simp at e

/-! ### Maps -/

def FoundR (ρ : Ren) : Option (Nat × Value) → Option (Nat × Value) → Prop
  | none, none => True
  | some (i, v), some (j, v') => j = i ∧ VR ρ v v'
  | _, _ => False

theorem keysGround_cons {e : MapEntry} {es : List MapEntry} (h : keysGround (e :: es) = true) : gr e.key = true ∧ keysGround es = true := by
  simpa [keysGround] using h

theorem findNow_sound (kind : TypeDesc) (k : Value) {es es' : List MapEntry} (hr : ML ρ es es') : keysGround es = true → ∀ i,
    (Instr.findNow kind k es i = none → Instr.findNow kind k es' i = none) ∧ (∀ r, Instr.findNow kind k es i = some r → ∃ r', Instr.findNow kind k es' i = some r' ∧ FoundR ρ r r') := by
  induction hr with
  | nil => intro _ i; exact ⟨fun h => by simp [Instr.findNow] at h, fun r h => by simp [Instr.findNow] at h; subst h; exact ⟨none, rfl, trivial⟩⟩
  | @cons e e' l l' he _ ih =>
    intro hg i
    obtain ⟨h1, h2⟩ := keysGround_cons hg
    have hk : e'.key = e.key := gr_eq h1 he.1
    obtain ⟨ih1, ih2⟩ := ih h2 (i + 1)
    simp only [Instr.findNow, hk]
    cases hs : Instr.sameNow kind k e.key with
    | none => exact ⟨fun _ => rfl, fun r h => by simp at h⟩
    | some b =>
      cases b with
      | true => exact ⟨fun h => by simp at h, fun r h => by simp at h; subst h; exact ⟨_, rfl, rfl, he.2.1⟩⟩
      | false => exact ⟨ih1, ih2⟩

theorem findAsking_sound (kt : TypeId) (k : Value) {es es' : List MapEntry} (hr : ML ρ es es') : keysGround es = true → ∀ (i : Nat) (r : Option (Nat × Value)),
    stat P (Instr.findAsking kt k es i) = some r → ∀ w, ∃ r', (Instr.findAsking kt k es' i).run P w = .ok r' w ∧ FoundR ρ r r' := by
  induction hr with
  | nil => intro _ i r h w; simp [Instr.findAsking, stat, pure] at h; subst h; exact ⟨none, rfl, trivial⟩
  | @cons e e' l l' he _ ih =>
    intro hg i r h w
    obtain ⟨h1, h2⟩ := keysGround_cons hg
    have hk : e'.key = e.key := gr_eq h1 he.1
    simp only [Instr.findAsking] at h ⊢
    obtain ⟨b, hb, h⟩ := stat_bind_some h
    simp only [hk, Sem.run_bind, stat_run hb w, Result.andThen_ok]
    cases b with
    | true => simp [stat, pure] at h; subst h; exact ⟨_, rfl, rfl, he.2.1⟩
    | false => simp at h ⊢; exact ih h2 (i + 1) r h w

theorem aFind_sound {kt : TypeId} {k k' : Value} {es es' : List MapEntry} {r : Option (Nat × Value)} (e : aFind P kt k es = some r) (hk : VR ρ k k') (hr : ML ρ es es') (w : World) :
    k' = k ∧ gr k = true ∧ keysGround es = true ∧ ∃ r', (Instr.findKey kt k es').run P w = .ok r' w ∧ FoundR ρ r r' := by
  unfold aFind at e
  split at e
  · rename_i hg
    simp only [Bool.and_eq_true] at hg
    refine ⟨gr_eq hg.1 hk, hg.1, hg.2, ?_⟩
    unfold Instr.findKey at e ⊢
    obtain ⟨u, hu, e⟩ := stat_bind_some e
    simp only [Sem.run_bind, stat_run hu w, Result.andThen_ok]
    cases hf : Instr.findNow u k es 0 with
    | none =>
      rw [(findNow_sound u k hr hg.2 0).1 hf]
      simp only [hf] at e
      exact findAsking_sound kt k hr hg.2 0 r e w
    | some r0 =>
      obtain ⟨r', h1, h2⟩ := (findNow_sound u k hr hg.2 0).2 r0 hf
      rw [h1]
      simp only [hf] at e
      simp [stat, pure] at e; subst e
      exact ⟨r', rfl, h2⟩
  · simp at e

theorem isEmpty_ML {es es' : List MapEntry} (h : ML ρ es es') : es'.isEmpty = es.isEmpty := by cases h <;> rfl

theorem run_getMap {r : Nat} {es : Array MapEntry} {c : Nat} (h : w.heap[r]? = some (.map es c)) : (getObj r).run P w = .ok (.map es c) w := by
  simp [getObj, Sem.run, h]

theorem aLookup_sound {t : TypeId} {x k x' k' v : Value} {ok : Bool} {h : AHeap} (e : aLookup P t x k ok h = some v) (H : HQ ρ h.get w) (hx : VR ρ x x') (hk : VR ρ k k') :
    ∃ v', (Instr.lookup t x' k' ok).run P w = .ok v' w ∧ VR ρ v v' := by
  unfold aLookup at e
  split at e
  · rename_i kt elem hu
    split at e
    · simp at e
    · rename_i es hes
      have hent : ∃ es' : Array MapEntry, ((x' = .map none ∧ es' = #[]) ∨ ∃ r c, x' = .map (some r) ∧ (getObj r).run P w = .ok (.map es' c) w) ∧ ML ρ es es'.toList := by
        split at hes
        · simp at hes; subst hes; cases hx; exact ⟨#[], .inl ⟨rfl, rfl⟩, .nil⟩
        · rename_i r
          split at hes
          · rename_i es0 c ro hr
            simp at hes; subst hes
            cases hx with
            | map hl =>
            obtain ⟨es', ho, hml⟩ := H.obj _ _ _ hr hl
            exact ⟨es', .inr ⟨_, c, rfl, run_getMap ho⟩, hml⟩
          · simp at hes
        · simp at hes
      obtain ⟨es', hx', hml⟩ := hent
      split at e
      · rename_i u f hck hf
        obtain ⟨rfl, hgk, _, r', h1, h2⟩ := aFind_sound hf hk hml w
        have hem : es'.isEmpty = es.isEmpty := by rw [← isEmpty_ML hml, Array.isEmpty_toList]
        have hck' := stat_run hck w
        rw [← hem] at hck'
        have hfin : ∀ (vz : Value) (b : Bool), (match r' with | some (_, v) => vz = v ∧ b = true | none => (zeroValue elem).run P w = .ok vz w ∧ b = false) →
            (Instr.lookup t x' k' ok).run P w = .ok (if ok then .tuple #[vz, .bool b] else vz) w := by
          intro vz b hvz
          cases r' with
          | none =>
            obtain ⟨hz, rfl⟩ := hvz
            rcases hx' with ⟨rfl, rfl⟩ | ⟨r, c, rfl, hg⟩
            · simp only [List.isEmpty_toArray, List.isEmpty_nil] at hck' h1
              simp [Instr.lookup, run_underlying hu, hck', h1, hz]
            · simp [Instr.lookup, run_underlying hu, hg, hck', h1, hz]
          | some p =>
            obtain ⟨j, v0⟩ := p
            obtain ⟨rfl, rfl⟩ := hvz
            rcases hx' with ⟨rfl, rfl⟩ | ⟨r, c, rfl, hg⟩
            · simp only [List.isEmpty_toArray, List.isEmpty_nil] at hck' h1
              simp [Instr.lookup, run_underlying hu, hck', h1]
            · simp [Instr.lookup, run_underlying hu, hg, hck', h1]
        cases f with
        | none =>
          cases r' with
          | some p => exact h2.elim
          | none =>
            simp only at e
            split at e
            · rename_i vz b hz
              split at hz
              · rename_i z hz'
                simp at hz; obtain ⟨rfl, rfl⟩ := hz
                simp at e; subst e
                refine ⟨_, hfin z false ⟨run_zeroValue_of hz' w, rfl⟩, ?_⟩
                cases ok with
                | true => exact VR.of_tuple (AR.push (AR.one (zeroOf_VR hz')) (.bool _))
                | false => exact zeroOf_VR hz'
              · simp at hz
            · simp at e
        | some p =>
          obtain ⟨i, v0⟩ := p
          cases r' with
          | none => exact h2.elim
          | some p' =>
            obtain ⟨j, v0'⟩ := p'
            obtain ⟨_, hv⟩ := h2
            simp at e; subst e
            refine ⟨_, hfin v0' true ⟨rfl, rfl⟩, ?_⟩
            cases ok with
            | true => exact VR.of_tuple (AR.push (AR.one hv) (.bool _))
            | false => exact hv
      · simp at e
  · simp at e

theorem ML.find {es es' : List MapEntry} (h : ML ρ es es') (b : Nat) : ∀ {e : MapEntry}, es.find? (·.born == b) = some e → ∃ e', es'.find? (·.born == b) = some e' ∧ MER ρ e e' := by
  induction h with
  | nil => intro e he; simp at he
  | @cons x x' l l' hx _ ih =>
    intro e he
    rw [List.find?_cons] at he ⊢
    rw [hx.2.2]
    cases hb : (x.born == b) with
    | true => simp [hb] at he; subst he; exact ⟨x', rfl, hx⟩
    | false => simp [hb] at he; exact ih (by simpa using he)

theorem aEntry_sound {it it' v : Value} {h : AHeap} (e : aEntry it h = some v) (H : HQ ρ h.get w) (hi : VR ρ it it') :
    ∃ v', (Instr.entry it').run P w = .ok v' w ∧ VR ρ v v' := by
  unfold aEntry at e
  split at e
  · rename_i r
    split at e
    · rename_i m since seen stepped hr
      split at e
      · rename_i stamp es clock ro hst hm
        split at e
        · rename_i en hcl hfi
          simp at e; subst e
          cases hi with
          | ptr hl =>
          rename_i l
          obtain ⟨h0, m', ho, hmm⟩ := H.obj _ _ _ hr hl
          obtain ⟨k, hk, rfl⟩ := hmm
          obtain ⟨es', hoe, hml⟩ := H.obj _ _ _ hm hk
          obtain ⟨e', hf', hme⟩ := hml.find stamp hfi
          refine ⟨.tuple #[e'.key, e'.val], ?_, VR.of_tuple (AR.push (AR.one hme.1) hme.2.1)⟩
          have hcl : clock = stepped := Nat.eq_of_beq_eq_true hcl
          have hf'' : es'.find? (·.born == stamp) = some e' := by rw [← Array.find?_toList]; exact hf'
          have hg1 : (getObj l.block).run P w = .ok (.mapIter (some k.block) since seen stepped) w := by simp [getObj, Sem.run, ho]
          rw [h0]
          simp [Instr.entry, hg1, hst, run_getMap hoe, hcl, hf'']
        · simp at e
      · simp at e
    · simp at e
  · simp at e

theorem aAssert_sound {x x' v : Value} {t asserted : TypeId} {ok : Bool} (e : aAssert P x asserted ok = some v) (hx : VR ρ x x') :
    ∃ v', (Instr.typeAssert x' t asserted ok).run P w = .ok v' w ∧ VR ρ v v' := by
  unfold aAssert at e
  split at e
  · simp at e
  · rename_i u ty v0 hni hu
    have hni' : ∀ ms, u ≠ .interface ms := fun ms h => hni ms (h ▸ rfl)
    cases hx with
    | iface t hv =>
    rename_i v0'
    split at e
    · rename_i ht
      have ht : ty = asserted := Nat.eq_of_beq_eq_true ht
      simp at e; subst e
      refine ⟨if ok then .tuple #[v0', .bool true] else v0', ?_, ?_⟩
      · cases u <;> first | exact absurd rfl (hni' _) | (simp only [Instr.typeAssert, Sem.run_bind, run_underlying hu, Result.andThen_ok, if_pos ht]; rfl)
      · cases ok with
        | true => exact VR.of_tuple (AR.push (AR.one hv) (.bool _))
        | false => exact hv
    · rename_i ht
      have ht : ty ≠ asserted := Nat.ne_of_beq_eq_false ht
      split at e
      · split at e
        · rename_i z hz
          simp at e; subst e
          refine ⟨.tuple #[z, .bool false], ?_, VR.of_tuple (AR.push (AR.one (zeroOf_VR hz)) (.bool _))⟩
          cases u <;> first | exact absurd rfl (hni' _) | simp [Instr.typeAssert, run_underlying hu, ht, run_zeroValue_of hz]
        · simp at e
      · simp at e
  · rename_i u hni hu
    have hni' : ∀ ms, u ≠ .interface ms := fun ms h => hni ms (h ▸ rfl)
    cases hx
    split at e
    · split at e
      · rename_i z hz
        simp at e; subst e
        refine ⟨.tuple #[z, .bool false], ?_, VR.of_tuple (AR.push (AR.one (zeroOf_VR hz)) (.bool _))⟩
        cases u <;> first | exact absurd rfl (hni' _) | simp [Instr.typeAssert, run_underlying hu, run_zeroValue_of hz]
      · simp at e
    · simp at e
  · simp at e

theorem aLen_sound {argTypes : Array TypeId} {ty : TypeId} {args args' : Array Value} {v : Value} {h : AHeap} (e : aLen P argTypes args h = some v) (H : HQ ρ h.get w) (ha : AR ρ args args') :
    (Builtin.len_ argTypes ty args').run P w = .ok v w ∧ VR ρ v v := by
  unfold aLen at e
  split at e
  · rename_i t x ht hx
    obtain ⟨x', hx', hr⟩ := ha.get hx
    split at e
    · rename_i hu; cases hr; simp at e; subst e; exact ⟨by simp [Builtin.len_, ht, hx', run_underlying hu, goInt], .int _ _⟩
    · rename_i n el hu; simp at e; subst e; exact ⟨by simp [Builtin.len_, ht, hx', run_underlying hu, goInt], .int _ _⟩
    · rename_i arr hu
      split at e
      · rename_i n el hu2; simp at e; subst e; exact ⟨by simp [Builtin.len_, ht, hx', run_underlying hu, run_underlying hu2, goInt], .int _ _⟩
      · simp at e
    · rename_i hu; cases hr <;> simp at e <;> subst e <;> exact ⟨by simp [Builtin.len_, ht, hx', run_underlying hu, goInt], .int _ _⟩
    · rename_i hu; cases hr; simp at e; subst e; exact ⟨by simp [Builtin.len_, ht, hx', run_underlying hu, goInt], .int _ _⟩
    · rename_i r hu
      split at e
      · rename_i es c ro hr'
        simp at e; subst e
        cases hr with
        | map hl =>
        obtain ⟨es', ho, hml⟩ := H.obj _ _ _ hr' hl
        have := hml.length
        exact ⟨by simp [Builtin.len_, ht, hx', run_underlying hu, run_getMap ho, goInt, this], .int _ _⟩
      · simp at e
    · simp at e
  · simp at e

theorem aCap_sound {argTypes : Array TypeId} {ty : TypeId} {args args' : Array Value} {v : Value} {h : AHeap} (e : aCap P argTypes args h = some v) (H : HQ ρ h.get w) (ha : AR ρ args args') :
    (Builtin.cap_ argTypes ty args').run P w = .ok v w ∧ VR ρ v v := by
  unfold aCap at e
  split at e
  · rename_i t x ht hx
    obtain ⟨x', hx', hr⟩ := ha.get hx
    split at e
    · rename_i hu; cases hr; simp at e; subst e; exact ⟨by simp [Builtin.cap_, ht, hx', run_underlying hu, goInt], .int _ _⟩
    · rename_i b o len cap hu
      split at e
      · rename_i bn tr el ro opn sz hb
        split at e
        · simp at e
        · rename_i ho
          simp at e; subst e
          cases hr with
          | slice hl hc =>
          obtain ⟨h1, h2, h3, _⟩ := H.obj _ _ _ hb hl
          unfold CapOK at hc
          have : ¬ (_ ∧ _) := fun hh => by
            rw [if_pos hh] at hc
            simp only [openEnd, h2, h1, h3] at ho hh
            simp [hh.1, hh.2] at ho
          rw [if_neg this] at hc
          subst hc
          exact ⟨by simp [Builtin.cap_, ht, hx', run_underlying hu, goInt], .int _ _⟩
      · simp at e
    · simp at e
  · simp at e
end
end Go.Abs
end
