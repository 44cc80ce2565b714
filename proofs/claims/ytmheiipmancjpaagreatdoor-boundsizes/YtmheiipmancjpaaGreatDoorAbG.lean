/- Proved here: the evaluator's steps through code, calls, results and loops are sound. By an AI agent. -/
import Derived.Test.YtmheiipmancjpaaGreatDoorAbF
import Derived.RangeFuncLeaves
import Derived.RangeFuncCalls
import Derived.RangeFuncOwn
import Derived.LoopNIn
set_option linter.unusedVariables false
set_option linter.unusedSimpArgs false
section
/-! Code, calls, loops over functions: all but the regions that draw their order. -/
namespace Go.Abs
noncomputable section
variable {ρ : Ren} {g : Got} {w : World}

/-! ### The names grow -/
def NextLe (h : AHeap) (r : ARes) : Prop := match r with | .val _ (some h') => h.next ≤ h'.next | _ => True

theorem NextLe.of {h h' : AHeap} {r : ARes} {v : Value} (e : some (.val v (some h')) = some r) (hn : h.next ≤ h'.next) : NextLe h r := by
  obtain rfl := Option.some.inj e; exact hn
theorem NextLe.none {h : AHeap} {r : ARes} {v : Value} (e : some (.val v none) = some r) : NextLe h r := by
  obtain rfl := Option.some.inj e; trivial
theorem NextLe.of_keep {h : AHeap} {r : ARes} {x : Option Value} (e : keep x = some r) : NextLe h r := by
  obtain ⟨v, _, rfl⟩ := keep_some e; trivial
theorem NextLe.one {h : AHeap} {r : ARes} (e : ∃ v h', r = .val v (some h') ∧ h'.next = h.next + 1) : NextLe h r := by
  obtain ⟨v, h', rfl, hn⟩ := e; show h.next ≤ h'.next; omega

section
variable {P : Program} {h h' : AHeap} {r : ARes}
theorem aStore_next {t : TypeId} {b o : Nat} {v : Value} (e : aStore P t b o v h = some h') : h.next ≤ h'.next := by
  unfold aStore at e
  repeat' split at e
  all_goals first | (simp at e; done) | (simp at e; subst e; exact Nat.le_refl _)
theorem aUpdate_next {t : TypeId} {x k v : Value} (e : aUpdate P t x k v h = some h') : h.next ≤ h'.next := by
  unfold aUpdate at e
  repeat' split at e
  all_goals first | (simp at e; done) | (simp at e; subst e; exact Nat.le_refl _)
theorem aEntryStore_next {x s v : Value} (e : aEntryStore x s v h = some h') : h.next ≤ h'.next := by
  unfold aEntryStore at e
  repeat' split at e
  all_goals first | (simp at e; done) | (simp at e; subst e; exact Nat.le_refl _)
theorem aEntryOf_next {t : TypeId} {x k : Value} (e : aEntryOf P t x k h = some r) : NextLe h r := by
  unfold aEntryOf at e
  repeat' split at e
  all_goals first | (simp at e; done) | exact NextLe.of e (Nat.le_refl _)
theorem aDelete_next {tys : Array TypeId} {args : Array Value} (e : aDelete P tys args h = some r) : NextLe h r := by
  unfold aDelete at e
  repeat' split at e
  all_goals first | (simp at e; done) | exact NextLe.of e (Nat.le_refl _)
theorem aClear_next {tys : Array TypeId} {args : Array Value} (e : aClear P tys args h = some r) : NextLe h r := by
  unfold aClear at e
  repeat' split at e
  all_goals first | (simp at e; done) | exact NextLe.of e (Nat.le_refl _) | skip
  all_goals (simp only at e; split at e <;> first | (simp at e; done) | exact NextLe.of e (Nat.le_refl _))
theorem aRange_next {t : TypeId} {x : Value} (e : aRange P t x h = some r) : NextLe h r := by
  unfold aRange at e
  simp only at e
  repeat' split at e
  all_goals first | (simp at e; done) | exact NextLe.of e (Nat.le_succ _)
theorem aNext_next {it : Value} {s : Bool} (e : aNext it s h = some r) : NextLe h r := by
  unfold aNext at e
  repeat' split at e
  all_goals first | (simp at e; done) | exact NextLe.of e (Nat.le_refl _) | exact NextLe.none e
theorem aCopy_next {tys : Array TypeId} {args : Array Value} (e : aCopy P tys args h = some r) : NextLe h r := by
  unfold aCopy at e
  repeat' split at e
  all_goals first | (simp at e; done) | exact NextLe.of e (Nat.le_refl _) | exact NextLe.none e | skip
  all_goals (simp only at e; repeat' split at e)
  all_goals first | (simp at e; done) | exact NextLe.of e (Nat.le_refl _) | exact NextLe.none e
theorem aAppend_next {tys : Array TypeId} {args : Array Value} (e : aAppend P tys args h = some r) : NextLe h r := by
  unfold aAppend at e
  simp only at e
  repeat' split at e
  all_goals first | (simp at e; done) | exact NextLe.of e (Nat.le_refl _) | exact NextLe.of e (Nat.le_succ _) | exact NextLe.none e
theorem aSlice_next {t : TypeId} {x : Value} {a b c : Option Value} (e : aSlice P t x a b c h = some r) : NextLe h r := by
  unfold aSlice at e
  simp only at e
  repeat' split at e
  all_goals first | (simp at e; done) | exact NextLe.none e
end

theorem aCallee_next {E : Env} {f : FuncId} {args : Array Value} {h : AHeap} {r : ARes} (e : aCallee E f args h = some r) : NextLe h r := by
  unfold aCallee at e
  repeat' split at e
  all_goals first | (simp at e; done) | exact NextLe.of e (Nat.le_succ _) | (obtain rfl := Option.some.inj e; trivial)

theorem aCall_next {E : Env} {c : Call} {ev : Operand → Option Value} {h : AHeap} {r : ARes} (e : aCall E c ev h = some r) : NextLe h r := by
  unfold aCall at e
  split at e
  · simp at e
  · split at e
    · rename_i b hb
      unfold aBuiltin at e
      split at e
      · exact aAppend_next e
      · exact aCopy_next e
      · exact NextLe.of_keep e
      · exact NextLe.of_keep e
      · split at e
        · exact NextLe.of_keep e
        · simp at e
      · split at e
        · exact NextLe.of_keep e
        · simp at e
      · exact aDelete_next e
      · exact aClear_next e
      · simp at e
    · repeat' split at e
      all_goals first | (simp at e; done) | exact aCallee_next e
    · repeat' split at e
      all_goals first | (simp at e; done) | exact aCallee_next e | (obtain rfl := Option.some.inj e; trivial)

theorem aop_next {E : Env} {o : Oper} {ev : Operand → Option Value} {h : AHeap} {r : ARes} (e : aop E o ev h = some r) : NextLe h r := by
  obtain ⟨dst, op, ty, pos, after, guard⟩ := o
  cases op <;> simp only [aop] at e <;> repeat' split at e
  all_goals first
    | (simp at e; done)
    | exact NextLe.of_keep e
    | exact NextLe.none e
    | exact NextLe.one (aNew_next e)
    | exact NextLe.one (aBuildSlice_next e)
    | exact NextLe.one (aMakeSlice_next e)
    | exact aEntryOf_next e
    | exact aRange_next e
    | exact aNext_next e
    | exact aCall_next e
    | exact aSlice_next e
    | exact NextLe.of e (Nat.le_succ _)
    | (rename_i hs; exact NextLe.of e (aStore_next hs))
    | (rename_i hs; exact NextLe.of e (aUpdate_next hs))
    | (rename_i hs; exact NextLe.of e (aEntryStore_next hs))
end
end Go.Abs
end
section
/-! Code, calls, loops over functions. -/
namespace Go.Abs
noncomputable section
variable {ρ : Ren} {g : Got} {w : World}

/-- The fence that lets everything by; x: whose round. -/
def FW (x : Option Nat) : Fence := { Fence.wide with round := x }
theorem FW_room (x : Option Nat) (n : Nat) : (FW x).room n := fun _ h => by simp [FW, Fence.wide] at h

inductive DR (ρ : Ren) : List Nat → List Deferred → Prop
  | nil : DR ρ [] []
  | cons {D : Nat} {k : Loc} {d : List Nat} {l : List Deferred} (h : ρ D = some k) (t : DR ρ d l) : DR ρ (D :: d) ({ target := .collected k.block, args := #[] } :: l)
theorem DR.mono {ρ ρ' : Ren} (hρ : ρ.le ρ') {d : List Nat} {l : List Deferred} (h : DR ρ d l) : DR ρ' d l := by
  induction h with
  | nil => exact .nil
  | cons h _ ih => exact .cons (hρ _ _ h) ih

def GOK (P : Program) (ρ : Ren) : Prop := ∀ g, g < P.globals.size → ∃ l, ρ g = some l ∧ l.block = g ∧ l.base = 0
theorem GOK.mono {P : Program} {ρ ρ' : Ren} (hρ : ρ.le ρ') (h : GOK P ρ) : GOK P ρ' := fun g hg => let ⟨l, a, b⟩ := h g hg; ⟨l, hρ _ _ a, b⟩

def RoR (ρ : Ren) : Option Nat → Option Nat → Prop
  | none, none => True
  | some l, some b => ∃ k, ρ l = some k ∧ k.block = b
  | _, _ => False
theorem RoR.mono {ρ ρ' : Ren} (hρ : ρ.le ρ') {a b : Option Nat} (h : RoR ρ a b) : RoR ρ' a b := by
  cases a <;> cases b <;> simp only [RoR] at h ⊢
  obtain ⟨k, h1, h2⟩ := h; exact ⟨k, hρ _ _ h1, h2⟩

inductive ExR : AExit → Exit → Prop
  | normal : ExR .normal .normal
  | exit (id : Nat) : ExR (.exit id) (.exit id)
  | goto (l : Nat) : ExR (.goto l) (.goto l)
  | ret : ExR .ret .ret

theorem Fresh.left {n m k : Nat} (h : Fresh ρ n k) (hm : m ≤ k) : Fresh ρ n m := fun i h1 h2 => h i h1 (by omega)
theorem Moves.fresh {ρ₁ : Ren} {g₁ : Got} {n n₁ k : Nat} {w₁ : World} (m : Moves ρ g n w ρ₁ g₁ n₁ w₁) (h : Fresh ρ n k) : Fresh ρ₁ n₁ k := by
  intro i h1 h2
  cases hi : ρ₁ i with
  | none => rfl
  | some l =>
    rcases m.dom i (by simp [hi]) with hh | ⟨_, hh⟩
    · exact absurd (h i (Nat.le_trans m.next h1) h2) hh
    · omega

/-- Where a piece of code leaves off. -/
def After (ρ : Ren) (h : AHeap) (w : World) (e : AExit) (t' : ATmps) (d' : List Nat) (h' : AHeap) : Exit → Act → World → Prop := fun x a' w' =>
  ∃ ρ', ExR e x ∧ TR ρ' t' a'.tmps ∧ DR ρ' d' a'.defers ∧ HR ρ' h'.get w' ∧ h'.ok ∧ Moves ρ h.get h.next w ρ' h'.get h'.next w'

def CodeOK (E : Env) (f : FuncId → Option Nat → Code → ATmps → List Nat → AHeap → CodeRes) (wpx : Code → Fence → (Exit → Act → World → Prop) → Act → World → Prop) : Prop :=
  ∀ {fn : FuncId} {ro : Option Nat} {c : Code} {t : ATmps} {d : List Nat} {h : AHeap} {e : AExit} {t' : ATmps} {d' : List Nat} {h' : AHeap}, f fn ro c t d h = some (e, t', d', h') →
    h.next ≤ h'.next ∧ ∀ {ρ : Ren} {w : World} {a : Act} {ro' : Option Nat}, RoR ρ ro ro' → HR ρ h.get w → h.ok → Fresh ρ h.next h'.next → TR ρ t a.tmps → DR ρ d a.defers → GOK E.P ρ →
      wpx c (FW ro') (After ρ h w e t' d' h') a w

def CallOK (E : Env) (f : FuncId → Array Value → AHeap → Option (Value × AHeap)) : Prop :=
  ∀ {g : FuncId} {args : Array Value} {h : AHeap} {v : Value} {h' : AHeap}, f g args h = some (v, h') →
    h.next ≤ h'.next ∧ (∃ fn c, E.P.funcs[g]? = some fn ∧ fn.body = some c) ∧ ∀ {ρ : Ren} {w : World} {args' : Array Value}, HR ρ h.get w → h.ok → Fresh ρ h.next h'.next → AR ρ args args' → GOK E.P ρ →
      ∀ ro', CallsIn (FW ro') 0 E.P g args' w fun
        | .returned v', w' => ∃ ρ', VR ρ' v v' ∧ HR ρ' h'.get w' ∧ h'.ok ∧ Moves ρ h.get h.next w ρ' h'.get h'.next w'
        | _, _ => False

structure RecOK (E : Env) (r : Rec) : Prop where
  code : CodeOK E r.code fun c F Q a w => c.wpIn F 0 E.P Q a w
  rounds : ∃ N, CodeOK E r.rounds fun c F Q a w => Code.roundsIn F 0 E.P c Q N a w
  call : CallOK E r.call

/-! ### Slots -/
theorem getD_set (c : Array Value) (i j : Nat) (v : Value) (hi : i < c.size) : (c.setIfInBounds i v).getD j undef = if j = i then v else c.getD j undef := by
  simp only [Array.getD_eq_getD_getElem?, Array.getElem?_setIfInBounds]
  by_cases e : i = j
  · subst e; simp [hi]
  · have e' : ¬ j = i := fun h => e h.symm
    simp [e, e']

theorem TR.set {t : ATmps} {c : Array Value} (h : TR ρ t c) {v v' : Value} (hv : VR ρ v v') (i : Nat) : TR ρ (t.set i v) (c.setIfInBounds i v') := by
  obtain ⟨hn, hg⟩ := h
  obtain ⟨tn, tt⟩ := t
  rw [ATmps.set_mk]
  simp only at hn ⊢
  split
  · rename_i hle
    have hlt : i < c.size := by have := Nat.le_of_ble_eq_true hle; omega
    refine ⟨by simpa using hn, fun j => ?_⟩
    rw [getD_set c i j v' hlt]
    simp only [ATmps.get, getS_setS]
    by_cases e : j = i
    · simp [e, hv]
    · simp only [e, if_false]; exact hg j
  · rename_i hle
    have hge : ¬ i < c.size := fun hlt => by rw [Nat.ble_eq_true_of_le (by omega)] at hle; cases hle
    have : c.setIfInBounds i v' = c := by simp [Array.setIfInBounds, hge]
    rw [this]; exact ⟨hn, hg⟩
theorem TR.put {t : ATmps} {a : Act} (h : TR ρ t a.tmps) {v v' : Value} (hv : VR ρ v v') (dst : Option Tmp) : TR ρ (t.put dst v) (a.put dst v').tmps := by
  cases dst with
  | none => exact h
  | some d => exact h.set hv d
theorem put_defers (a : Act) (dst : Option Tmp) (v : Value) : (a.put dst v).defers = a.defers := by cases dst <;> rfl

theorem TR.enter {args args' : Array Value} (h : AR ρ args args') (n : Nat) : TR ρ (ATmps.enter args.toList n) (args' ++ Array.replicate (n - args'.size) undef) := by
  have hs := h.size
  refine ⟨by simp [ATmps.enter]; omega, fun i => ?_⟩
  have he : (ATmps.enter args.toList n).get i = (args.toList[i]?).getD undef := by
    show getS (fillS [] 0 args.toList) i = _
    rw [getS_fillS]
    by_cases hi : i < args.toList.length
    · rw [if_pos ⟨Nat.zero_le _, by omega⟩]; simp
    · rw [if_neg (by omega), List.getElem?_eq_none (by omega)]; rfl
  rw [he]
  simp only [Array.getD_eq_getD_getElem?]
  cases hv : args.toList[i]? with
  | some v =>
    obtain ⟨v', e, hr⟩ := LR.get h hv
    have hlt : i < args'.size := by
      have := (List.getElem?_eq_some_iff.1 e).1; simpa using this
    rw [Array.getElem?_append_left hlt]
    have e' : args'[i]? = some v' := by simpa using e
    simp [e', hr]
  | none =>
    have hge : args'.size ≤ i := by
      have : args.size ≤ i := by simpa using hv
      omega
    rw [Array.getElem?_append_right hge, Array.getElem?_replicate]
    show VR ρ undef _
    split
    · exact VR.undef
    · exact VR.undef

theorem aeval_sound {E : Env} {t : ATmps} {a : Act} (h : TR ρ t a.tmps) (hg : GOK E.P ρ) : Evs ρ (aeval E.P t) a.eval := by
  intro x v hx
  cases x with
  | tmp i => simp [aeval] at hx; subst hx; exact h.2 i
  | const c =>
    simp only [aeval] at hx
    split at hx
    · rename_i hgr; simp at hx; subst hx; exact ground_VR 6 _ hgr
    · simp at hx
  | global g =>
    simp only [aeval] at hx
    split at hx
    · rename_i hlt
      simp at hx; subst hx
      obtain ⟨l, h1, h2, h3⟩ := hg g (Nat.le_of_ble_eq_true hlt)
      have := VR.ptr (ρ := ρ) (b := g) (o := 0) h1
      rw [h2, h3] at this
      simpa [Act.eval] using this
    · simp at hx
  | func f => simp [aeval] at hx; subst hx; exact VR.of_func (.func f) .nil .nil

theorem awanted_sound {ops : Array Oper} {t : ATmps} {o : Oper} {b : Bool} (e : awanted ops t o = some b) {a : Act} (h : TR ρ t a.tmps) : Region.wanted o (yielded ops a.tmps) = b := by
  unfold awanted at e
  unfold Region.wanted
  split at e
  · rename_i hgd; simp at e; subst e; rw [hgd]
  · rename_i j want hgd
    rw [hgd]
    simp only
    split at e
    · rename_i hd
      simp at e; subst e
      simp [yielded, hd]
    · rename_i d hd
      have hv := h.2 d
      rw [Array.getD_eq_getD_getElem?] at hv
      split at e
      · rename_i x hx
        simp at e; subst e
        rw [hx] at hv
        cases hdd : a.tmps[d]? with
        | none => rw [hdd] at hv; cases hv
        | some y =>
          rw [hdd] at hv
          simp only [Option.getD_some] at hv
          cases hv
          simp [yielded, hd, hdd]
      · rename_i x hx
        simp at e; subst e
        rw [hx] at hv
        cases hdd : a.tmps[d]? with
        | none => simp [yielded, hd, hdd]
        | some y =>
          rw [hdd] at hv
          simp only [Option.getD_some] at hv
          obtain ⟨y', rfl, _⟩ := hv.tuple_inv
          simp [yielded, hd, hdd]
      · simp at e

/-! ### A round of a loop over a function -/

theorem setParams_sound {a : ATmps} {c : Array Value} (h : TR ρ a c) : ∀ {ps : List Tmp} {vs vs' : List Value}, LR ρ vs vs' → ps.length = vs.length →
    TR ρ (setParams ps vs a) ((ps.zip vs').foldl (fun tmps (x : Tmp × Value) => tmps.setIfInBounds x.1 x.2) c) := by
  intro ps
  induction ps generalizing a c with
  | nil => intro vs vs' hv _; simpa [setParams] using h
  | cons p ps ih =>
    intro vs vs' hv hl
    cases hv with
    | nil => simp at hl
    | cons hv ht =>
      simp only [setParams, List.zip_cons_cons, List.foldl_cons]
      exact ih (h.set hv p) ht (by simpa using hl)

theorem aRound_sound {E : Env} {r : Rec} (R : RecOK E r) {l : Nat} {args : Array Value} {h : AHeap} {v : Value} {h' : AHeap} (e : aRound r l args h = some (v, h')) :
    h.next ≤ h'.next ∧ ∀ {ρ : Ren} {w : World} {k : Loc} {args' : Array Value}, ρ l = some k → HR ρ h.get w → h.ok → Fresh ρ h.next h'.next → AR ρ args args' → GOK E.P ρ →
      ∃ fn tm assign body, (Instr.yield k.block args').run E.P w = .ok (.round k.block fn tm assign body) w ∧ ∀ ro', RoundIn (FW ro') 0 E.P k.block fn tm assign body w fun
        | .returned v', w' => ∃ ρ', VR ρ' v v' ∧ HR ρ' h'.get w' ∧ h'.ok ∧ Moves ρ h.get h.next w ρ' h'.get h'.next w'
        | _, _ => False := by
  unfold aRound at e
  split at e
  · rename_i a hl
    split at e
    · simp at e
    · rename_i hsz
      have hsz : args.toList.length = a.params.toList.length := Nat.eq_of_beq_eq_true hsz
      split at e
      · rename_i t1 h1 hassign
        split at e
        · rename_i a1 hl1
          split at e
          · rename_i hst
            split at e
            · rename_i x tx dx h2 hbody
              split at e
              · rename_i a2 hl2
                obtain ⟨n1, c1⟩ := R.code hassign
                obtain ⟨n2, c2⟩ := R.code hbody
                simp at e
                obtain ⟨rfl, rfl⟩ := e
                have hn2 : h1.next ≤ h2.next := n2
                refine ⟨Nat.le_trans n1 hn2, ?_⟩
                intro ρ w k args' hk H hok hfr hargs hG
                obtain ⟨tm, kd, fn, htm, hkd, ho⟩ := H.get hl hk
                have hasz : args'.size = a.params.size := by have := hargs.size; simp at hsz; omega
                refine ⟨fn, (a.params.zip args').foldl (fun tmps (t, a) => tmps.setIfInBounds t a) tm, a.assign, a.body, ?_, fun ro' => ?_⟩
                · have hgo : (getObj k.block).run E.P w = .ok (.loop { state := a.state, pending := a.pending, fn, tmps := tm, params := a.params, assign := a.assign, body := a.body, defers := kd.block }) w := by
                    simp [getObj, Sem.run, ho]
                  simp [Instr.yield, Instr.getLoop, hgo, hasz]
                · refine roundIn_of_wpIn trivial ?_
                  have htm' : TR ρ (setParams a.params.toList args.toList a.tmps) ((a.params.zip args').foldl (fun tmps (t, a) => tmps.setIfInBounds t a) tm) := by
                    have := setParams_sound htm (ps := a.params.toList) hargs (by omega)
                    rw [← Array.foldl_toList, Array.toList_zip]
                    exact this
                  refine wpIn_mono (c1 (ro' := some k.block) ⟨k, hk, rfl⟩ H hok (hfr.left (Nat.le_trans (Nat.le_refl _) hn2)) htm' .nil hG) ?_
                  rintro e' a' w1 ⟨ρ1, hex, htr1, hdr1, H1, hok1, m1⟩
                  cases hex
                  have hk1 := m1.le _ _ hk
                  obtain ⟨tm1, kd1, fn1, htm1, hkd1, ho1⟩ := H1.get hl1 hk1
                  have hgo1 : (getObj k.block).run E.P w1 = .ok (.loop { state := a1.state, pending := a1.pending, fn := fn1, tmps := tm1, params := a1.params, assign := a1.assign, body := a1.body, defers := kd1.block }) w1 := by
                    simp [getObj, Sem.run, ho1]
                  obtain ⟨w2, s1, H2, m2⟩ := setObj_sound (P := E.P) H1 (.loop { a1 with state := .busy }) hl1 hk1 rfl ho1 rfl
                    (.loop { state := .busy, pending := a1.pending, fn := fn1, tmps := tm1, params := a1.params, assign := a1.assign, body := a1.body, defers := kd1.block }) ⟨tm1, kd1, fn1, htm1, hkd1, rfl⟩ h1.next
                  refine ⟨w2, ?_, ?_⟩
                  · simp only [Instr.beginRound, Instr.getLoop, Sem.run_bind, hgo1, Result.andThen_ok, Sem.run_pure, s1, hst]
                  · rw [← AHeap.get_put'] at H2 m2
                    have hok2 : (h1.put l (.loop { a1 with state := .busy })).ok := hok1.put hl1 _
                    have hfr2 : Fresh ρ1 (h1.put l (.loop { a1 with state := .busy })).next h2.next := m1.fresh hfr
                    refine wpIn_mono (c2 (ro' := some k.block) ⟨k, hk1, rfl⟩ H2 hok2 hfr2 htr1 hdr1 (hG.mono m1.le)) ?_
                    rintro e2 a2' w3 ⟨ρ3, hex3, htr3, hdr3, H3, hok3, m3⟩
                    have hk3 := m3.le _ _ hk1
                    obtain ⟨tm3, kd3, fn3, htm3, hkd3, ho3⟩ := H3.get hl2 hk3
                    have hgo3 : (getObj k.block).run E.P w3 = .ok (.loop { state := a2.state, pending := a2.pending, fn := fn3, tmps := tm3, params := a2.params, assign := a2.assign, body := a2.body, defers := kd3.block }) w3 := by
                      simp [getObj, Sem.run, ho3]
                    obtain ⟨w4, s4, H4, m4⟩ := setObj_sound (P := E.P) H3 (.loop { a2 with state := if (jumpOf x).isNone then .ready else .done, pending := jumpOf x }) hl2 hk3 rfl ho3 rfl
                      (.loop { state := if (jumpOf x).isNone then .ready else .done, pending := jumpOf x, fn := fn3, tmps := tm3, params := a2.params, assign := a2.assign, body := a2.body, defers := kd3.block }) ⟨tm3, kd3, fn3, htm3, hkd3, rfl⟩ h2.next
                    have hend : (Instr.endRound k.block (jumpOf x)).run E.P w3 = .ok (.bool (jumpOf x).isNone) w4 := by
                      simp only [Instr.endRound, Instr.getLoop, Sem.run_bind, hgo3, Result.andThen_ok, Sem.run_pure, s4]
                    have hfin : ∃ ρ', VR ρ' (.bool (jumpOf x).isNone) (.bool (jumpOf x).isNone) ∧ HR ρ' (h2.put l (.loop { a2 with state := if (jumpOf x).isNone then .ready else .done, pending := jumpOf x })).get w4 ∧
                        (h2.put l (.loop { a2 with state := if (jumpOf x).isNone then .ready else .done, pending := jumpOf x })).ok ∧
                        Moves ρ h.get h.next w ρ' (h2.put l (.loop { a2 with state := if (jumpOf x).isNone then .ready else .done, pending := jumpOf x })).get h2.next w4 := by
                      refine ⟨ρ3, .bool _, by rw [AHeap.get_put']; exact H4, hok3.put hl2 _, ?_⟩
                      rw [AHeap.get_put']
                      exact ((m1.trans m2).trans m3).trans m4
                    cases hex3 with
                    | normal => exact ⟨_, _, hend, hfin⟩
                    | exit id => exact ⟨_, _, hend, hfin⟩
                    | goto l => exact ⟨_, _, hend, hfin⟩
                    | ret => exact ⟨_, _, hend, hfin⟩
              · simp at e
            · simp at e
          · simp at e
        · simp at e
      · simp at e
  · simp at e
end
end Go.Abs
end
section
/-! Operations in their order; results; the loop over a function; the step. -/
namespace Go.Abs
noncomputable section
variable {ρ : Ren} {g : Got} {w : World}

theorem wanted_eq {E : Env} {o : Oper} {ev : Operand → Option Value} {h : AHeap} {r : ARes} (e : aop E o ev h = some r) : ∀ c, o.op ≠ .defer c := by
  intro c hc
  simp only [aop, hc] at e
  cases e

theorem about_true {E : Env} {ro : Option Nat} {o : Oper} {a : Act} : ∀ f, o.about E.P w a.eval = some f → (FW ro).fn f := fun _ _ => trivial

/-- ONE OPERATION, AND WHAT IT CALLS. -/
theorem aDo_sound {E : Env} (F : Fits E) {r : Rec} (R : RecOK E r) {o : Oper} {t : ATmps} {h : AHeap} {v : Value} {h' : AHeap} (e : aDo r (aop E o (aeval E.P t) h) h = some (v, h')) :
    h.next ≤ h'.next ∧ ∀ {ρ : Ren} {w : World} {a : Act} {ro' : Option Nat}, HR ρ h.get w → h.ok → Fresh ρ h.next h'.next → TR ρ t a.tmps → GOK E.P ρ →
      ∀ (next : Act → World → Prop) (Q : Exit → Act → World → Prop), (∀ v' w' ρ', VR ρ' v v' → HR ρ' h'.get w' → h'.ok → Moves ρ h.get h.next w ρ' h'.get h'.next w' → next (a.put o.dst v') w') →
        o.wpIn (FW ro') 0 E.P a w next Q := by
  unfold aDo at e
  split at e
  · rename_i x v0 hx
    simp at e; obtain ⟨rfl, rfl⟩ := e
    refine ⟨Nat.le_refl _, ?_⟩
    intro ρ w a ro' H hok hfr ht hG next Q hK
    obtain ⟨v', h1, h2⟩ := aop_sound F hx H hok (fun _ _ hh => by cases hh) (aeval_sound ht hG)
    refine ⟨about_true, ?_⟩
    rw [Oper.semAt_eq _ _ _ (wanted_eq hx), h1]
    exact hK v' w ρ h2 H hok (Moves.refl _ _ _ _)
  · rename_i x v0 h0 hx
    simp at e; obtain ⟨rfl, rfl⟩ := e
    refine ⟨aop_next hx, ?_⟩
    intro ρ w a ro' H hok hfr ht hG next Q hK
    obtain ⟨v', w', ρ', h1, h2, h3, h4, h5⟩ := aop_sound F hx H hok (fun _ _ hh => by cases hh; exact hfr) (aeval_sound ht hG)
    refine ⟨about_true, ?_⟩
    rw [Oper.semAt_eq _ _ _ (wanted_eq hx)]
    rcases h1 with h1 | ⟨h1, rfl⟩
    · rw [h1]; exact hK v' w' ρ' h2 h3 h5 h4
    · rw [h1]; exact hK undef w' ρ' h2 h3 h5 h4
  · rename_i x g args hx
    obtain ⟨hn, ⟨fn, c, hfn, hbody⟩, hcall⟩ := R.call e
    refine ⟨hn, ?_⟩
    intro ρ w a ro' H hok hfr ht hG next Q hK
    obtain ⟨args', h1, h2⟩ := aop_sound F hx H hok (fun _ _ hh => by cases hh) (aeval_sound ht hG)
    refine ⟨about_true, ?_⟩
    rw [Oper.semAt_eq _ _ _ (wanted_eq hx), h1 fn c hfn hbody]
    refine ⟨fun hh => by simp [FW, Fence.wide] at hh, ?_⟩
    refine (hcall H hok hfr h2 hG ro').mono ?_
    intro e' w' he'
    cases e' with
    | returned v' => obtain ⟨ρ', q1, q2, q3, q4⟩ := he'; exact hK v' w' ρ' q1 q2 q3 q4
    | panicked ch => exact he'.elim
    | outgrown => exact he'.elim
  · rename_i x l args hx
    obtain ⟨hn, hround⟩ := aRound_sound R e
    refine ⟨hn, ?_⟩
    intro ρ w a ro' H hok hfr ht hG next Q hK
    obtain ⟨k, args', hk, ha, h1⟩ := aop_sound F hx H hok (fun _ _ hh => by cases hh) (aeval_sound ht hG)
    obtain ⟨fn, tm, assign, body, hy, hr⟩ := hround hk H hok hfr ha hG
    refine ⟨about_true, ?_⟩
    rw [Oper.semAt_eq _ _ _ (wanted_eq hx), h1, hy]
    refine ⟨fun hh => by simp [FW, Fence.wide] at hh, ?_⟩
    refine (hr ro').mono ?_
    intro e' w' he'
    cases e' with
    | returned v' => obtain ⟨ρ', q1, q2, q3, q4⟩ := he'; exact hK v' w' ρ' q1 q2 q3 q4
    | panicked ch => exact he'.elim
    | outgrown => exact he'.elim
  · simp at e

/-- OPERATIONS IN THE TEXT's ORDER. -/
theorem aOps_sound {E : Env} (F : Fits E) {r : Rec} (R : RecOK E r) {ops : Array Oper} : ∀ {l : List Oper} {i : Nat} {t : ATmps} {h : AHeap} {t' : ATmps} {h' : AHeap}, aOps r E ops l t h = some (t', h') → (∀ j, l[j]? = ops[i + j]?) →
    h.next ≤ h'.next ∧ ∀ {ρ : Ren} {w : World} {a : Act} {ro' : Option Nat}, HR ρ h.get w → h.ok → Fresh ρ h.next h'.next → TR ρ t a.tmps → GOK E.P ρ →
      ∀ (Q : Exit → Act → World → Prop), (∀ a' w' ρ', TR ρ' t' a'.tmps → a'.defers = a.defers → HR ρ' h'.get w' → h'.ok → Moves ρ h.get h.next w ρ' h'.get h'.next w' → Q .normal a' w') →
        wpOpsIn (FW ro') 0 E.P ops Q (List.range' i l.length) a w := by
  intro l
  induction l with
  | nil =>
    intro i t h t' h' e _
    simp [aOps] at e; obtain ⟨rfl, rfl⟩ := e
    refine ⟨Nat.le_refl _, ?_⟩
    intro ρ w a ro' H hok hfr ht hG Q hK
    exact hK a w ρ ht rfl H hok (Moves.refl _ _ _ _)
  | cons o l ih =>
    intro i t h t' h' e hl
    have ho : ops[i]? = some o := by have := hl 0; simpa using this.symm
    have hl' : ∀ j, l[j]? = ops[i + 1 + j]? := fun j => by have := hl (j + 1); simp at this; rw [this]; congr 1; omega
    unfold aOps at e
    split at e
    · simp at e
    · rename_i hw
      split at e
      · rename_i v h1 hd
        obtain ⟨n1, s1⟩ := aDo_sound F R hd
        obtain ⟨n2, s2⟩ := ih e hl'
        refine ⟨Nat.le_trans n1 n2, ?_⟩
        intro ρ w a ro' H hok hfr ht hG Q hK
        rw [List.length_cons, List.range'_succ]
        simp only [wpOpsIn, ho, awanted_sound hw ht, if_true]
        refine s1 H hok (hfr.left n2) ht hG _ _ ?_
        intro v' w' ρ' hv' H' hok' m'
        refine s2 H' hok' (m'.fresh hfr) ((ht.mono m'.le).put hv' _) (hG.mono m'.le) Q ?_
        intro a2 w2 ρ2 ht2 hd2 H2 hok2 m2
        exact hK a2 w2 ρ2 ht2 (by rw [hd2, put_defers]) H2 hok2 (m'.trans m2)
      · simp at e
    · rename_i hw
      obtain ⟨n2, s2⟩ := ih e hl'
      refine ⟨n2, ?_⟩
      intro ρ w a ro' H hok hfr ht hG Q hK
      rw [List.length_cons, List.range'_succ]
      simp only [wpOpsIn, ho, awanted_sound hw ht, Bool.false_eq_true, if_false]
      refine ⟨about_true, ?_⟩
      refine s2 H hok hfr (ht.put VR.undef _) hG Q ?_
      intro a2 w2 ρ2 ht2 hd2 H2 hok2 m2
      exact hK a2 w2 ρ2 ht2 (by rw [hd2, put_defers]) H2 hok2 m2

theorem aTake_next : ∀ {d : List Nat} {h h' : AHeap}, aTake d h = some h' → h'.next = h.next := by
  intro d
  induction d with
  | nil => intro h h' e; simp [aTake] at e; subst e; rfl
  | cons D d ih =>
    intro h h' e
    unfold aTake at e
    split at e
    · rw [ih e]; rfl
    · simp at e

theorem run_takeDeferred' {P : Program} {b : Nat} (h : w.heap[b]? = some (.deferred (some []))) : (Instr.takeDeferred b).run P w = .ok [] { w with heap := w.heap.setIfInBounds b (.deferred none) } := by
  simp [Instr.takeDeferred, getObj, setObj, Sem.run, h]

/-- The marks of a function that leaves. -/
theorem aTake_sound {E : Env} {fn : Func} {tmps : Array Value} {R : Ending → World → Prop} : ∀ {d : List Nat} {h h' : AHeap}, aTake d h = some h' → ∀ {ρ : Ren} {w : World} {l : List Deferred}, DR ρ d l → HR ρ h.get w → h.ok →
    (∀ w', HR ρ h'.get w' → h'.ok → Moves ρ h.get h.next w ρ h'.get h'.next w' → ∃ v, (results fn tmps).run E.P w' = .ok v w' ∧ R (.returned v) w') →
      ∀ ro', LeavesInM (FW ro') 0 E.P fn tmps R l .returning w := by
  intro d
  induction d with
  | nil =>
    intro h h' e ρ w l hd H hok hK ro'
    simp [aTake] at e; subst e
    cases hd
    obtain ⟨v, h1, h2⟩ := hK w H hok (Moves.refl _ _ _ _)
    exact ⟨v, h1, h2⟩
  | cons D d ih =>
    intro h h' e ρ w l hd H hok hK ro'
    unfold aTake at e
    split at e
    · rename_i hD
      cases hd with
      | cons hk ht =>
      rename_i k l
      have ho := H.get hD hk
      have hsub : ∀ j x, (h.del D).get j = some x → h.get j = some x := fun j x hj => by
        rw [AHeap.get_del] at hj
        by_cases ej : j = D
        · simp [ej] at hj
        · rw [if_neg ej] at hj; exact hj
      have hlt : k.block < w.heap.size := H.block_lt hD hk
      have ht1 := H.turn (.deferred false) hD hk rfl (w' := { w with heap := w.heap.setIfInBounds k.block (.deferred none) }) (by simp) (fun B hB => by simp [Ne.symm hB]) (by simp [hlt, OR]) h.next
      have hsub2 : ∀ j x, (h.del D).get j = some x → (Got.upd h.get D (.deferred false)) j = some x := fun j x hj => by
        have := hj
        rw [AHeap.get_del] at hj
        by_cases ej : j = D
        · simp [ej] at hj
        · rw [if_neg ej] at hj; simp [Got.upd, ej, hj]
      refine ⟨by simp, .inl ⟨k.block, _, rfl, run_takeDeferred' ho, ?_⟩⟩
      refine ih e ht (ht1.1.sub hsub2) (hok.del D) ?_ ro'
      intro w' H' hok' m'
      refine hK w' H' hok' ((ht1.2.trans (Moves.sub hsub2 h.next)).trans m')
    · simp at e

def resFn (c : Array Value) : ResultVar → Sem Value
  | .tmp t => pure (c.getD t undef)
  | .cell a t => do loadVar t (← asAddr (c.getD a undef))
theorem results_eq (fn : Func) (c : Array Value) : results fn c = (do let vs ← fn.results.mapM (resFn c); pure (if h : vs.size = 1 then vs[0] else .tuple vs)) := rfl

theorem aResult_sound {E : Env} {t : ATmps} {h : AHeap} {c : Array Value} (H : HR ρ h.get w) (ht : TR ρ t c) : ∀ {rs : List ResultVar} {vs : List Value}, aResult E t h rs = some vs →
    ∃ vs' : List Value, LR ρ vs vs' ∧ (rs.mapM (resFn c)).run E.P w = .ok vs' w := by
  intro rs
  induction rs with
  | nil => intro vs e; simp [aResult] at e; subst e; exact ⟨[], .nil, by simp⟩
  | cons x rs ih =>
    intro vs e
    cases x with
    | tmp i =>
      simp only [aResult] at e
      split at e
      · rename_i ws hws
        simp at e; subst e
        obtain ⟨vs', h1, h2⟩ := ih hws
        exact ⟨c.getD i undef :: vs', .cons (ht.2 i) h1, by simp only [List.mapM_cons, resFn, Sem.run_bind, Sem.run_pure, Result.andThen_ok, h2]⟩
      · simp at e
    | cell a ty =>
      simp only [aResult] at e
      split at e
      · rename_i b o ha
        split at e
        · rename_i v ws hv hws
          simp at e; subst e
          obtain ⟨vs', h1, h2⟩ := ih hws
          have hp := ht.2 a
          rw [ha] at hp
          cases hcc : c.getD a undef <;> rw [hcc] at hp <;> cases hp
          rename_i l hl
          obtain ⟨v', q1, q2⟩ := aLoad_sound hv H.quiet hl
          refine ⟨v' :: vs', .cons q2 h1, ?_⟩
          have hx : (resFn c (.cell a ty)).run E.P w = .ok v' w := by
            simp only [resFn, Sem.run_bind, hcc, asAddr, Sem.run_pure, Result.andThen_ok, q1]
          simp only [List.mapM_cons, Sem.run_bind, hx, Sem.run_pure, Result.andThen_ok, h2]
        · simp at e
      · simp at e

theorem one_sound {vs vs' : List Value} (h : LR ρ vs vs') : VR ρ (one vs) (if hs : vs'.toArray.size = 1 then vs'.toArray[0] else .tuple vs'.toArray) := by
  cases h with
  | nil => exact VR.of_tuple .nil
  | cons hv ht =>
    cases ht with
    | nil => exact hv
    | cons hv2 ht2 =>
      rw [dif_neg (by simp)]
      exact VR.of_tuple (LR.cons hv (.cons hv2 ht2))

theorem results_sound {E : Env} {t : ATmps} {h : AHeap} {c : Array Value} (H : HR ρ h.get w) (ht : TR ρ t c) {fn : Func} {vs : List Value} (e : aResult E t h fn.results.toList = some vs) :
    ∃ v', (results fn c).run E.P w = .ok v' w ∧ VR ρ (one vs) v' := by
  obtain ⟨vs', h1, h2⟩ := aResult_sound (E := E) H ht e
  refine ⟨_, ?_, one_sound h1⟩
  rw [results_eq, Sem.run_bind, Array.mapM_eq_mapM_toList, Sem.run_map, h2]
  rfl
end
end Go.Abs
end
section
/-! The loop over a function. -/
namespace Go.Abs
noncomputable section
variable {ρ : Ren} {g : Got} {w : World}

theorem del_sub (h : AHeap) (b : Nat) : ∀ j x, (h.del b).get j = some x → h.get j = some x := fun j x hj => by
  rw [AHeap.get_del] at hj
  by_cases ej : j = b
  · simp [ej] at hj
  · rw [if_neg ej] at hj; exact hj

/-- THE RECORD OF A LOOP IS LAID. -/
theorem enter_sound {E : Env} {fn : FuncId} {t : ATmps} {tm : Array Value} {ps : Array Tmp} {assign body : Code} {ro ro' : Option Nat} {h : AHeap} {d : List Nat} {D : Nat} {d' : List Nat} {h0 : AHeap}
    (e : (match ro with
        | none => some (h.next, h.next :: d, h.add (.deferred true))
        | some l0 => match h.get l0 with | some (.loop a) => some (a.defers, d, h) | _ => none) = some (D, d', h0)) (f : FuncId) :
    h.next ≤ h0.next ∧ ∀ {l : List Deferred}, RoR ρ ro ro' → HR ρ h.get w → h.ok → Fresh ρ h.next (h0.next + 1) → TR ρ t tm → DR ρ d l →
    ∃ (k : Loc) (mark : List Deferred) (w1 : World) (ρ1 : Ren), (Instr.enterLoop fn tm ps assign body ro').run E.P w = .ok (k.block, mark) w1 ∧ ρ1 h0.next = some k ∧ DR ρ1 d' (mark ++ l) ∧
      HR ρ1 (h0.add (.loop { state := .ready, pending := none, fn := f, tmps := t, params := ps, assign, body, defers := D })).get w1 ∧ (h0.add (.loop { state := .ready, pending := none, fn := f, tmps := t, params := ps, assign, body, defers := D })).ok ∧
      Moves ρ h.get h.next w ρ1 (h0.add (.loop { state := .ready, pending := none, fn := f, tmps := t, params := ps, assign, body, defers := D })).get (h0.next + 1) w1 := by
  cases ro with
  | none =>
    simp at e
    obtain ⟨rfl, rfl, rfl⟩ := e
    refine ⟨Nat.le_succ _, ?_⟩
    intro l hro H hok hfr ht hd
    cases ro' with
    | some x => exact hro.elim
    | none =>
    have hf0 : ρ h.next = none := hfr _ (Nat.le_refl _) (by simp [AHeap.add]; omega)
    obtain ⟨H1, m1, hok1⟩ := newObj_sound H hok hf0 (.deferred true) (.deferred (some [])) rfl
    have hf1 : (ρ.upd h.next ⟨w.heap.size, 0, 0, 0, 0, false⟩) (h.add (.deferred true)).next = none := by
      have : (h.add (.deferred true)).next ≠ h.next := by simp [AHeap.add]
      simp only [Ren.upd, if_neg this]
      exact hfr _ (by simp [AHeap.add]) (by simp)
    have hD1 : (ρ.upd h.next ⟨w.heap.size, 0, 0, 0, 0, false⟩) h.next = some ⟨w.heap.size, 0, 0, 0, 0, false⟩ := Ren.upd_same _ _ _
    obtain ⟨H2, m2, hok2⟩ := newObj_sound H1 hok1 hf1 (.loop { state := .ready, pending := none, fn := f, tmps := t, params := ps, assign, body, defers := h.next })
      (.loop { state := .ready, pending := none, fn, tmps := tm, params := ps, assign, body, defers := w.heap.size })
      ⟨tm, _, fn, (ht.mono m1.le).mono (Ren.le_upd hf1), Ren.le_upd hf1 _ _ hD1, rfl⟩
    refine ⟨_, [{ target := .collected w.heap.size, args := #[] }], _, _, ?_, Ren.upd_same _ _ _, ?_, H2, hok2, m1.trans m2⟩
    · simp [Instr.enterLoop]
    · refine .cons (k := ⟨w.heap.size, 0, 0, 0, 0, false⟩) (Ren.le_upd hf1 _ _ hD1) ((hd.mono m1.le).mono (Ren.le_upd hf1))
  | some l0 =>
    simp only at e
    split at e
    · rename_i a hl0
      simp at e
      obtain ⟨rfl, rfl, rfl⟩ := e
      refine ⟨Nat.le_refl _, ?_⟩
      intro l hro H hok hfr ht hd
      cases ro' with
      | none => exact hro.elim
      | some x =>
      obtain ⟨k0, hk0, rfl⟩ := hro
      obtain ⟨tm0, kd, fn0, htm0, hkd, ho⟩ := H.get hl0 hk0
      have hgo : (getObj k0.block).run E.P w = .ok (.loop { state := a.state, pending := a.pending, fn := fn0, tmps := tm0, params := a.params, assign := a.assign, body := a.body, defers := kd.block }) w := by
        simp [getObj, Sem.run, ho]
      have hf0 : ρ h.next = none := hfr _ (Nat.le_refl _) (by simp)
      obtain ⟨H2, m2, hok2⟩ := newObj_sound H hok hf0 (.loop { state := .ready, pending := none, fn := f, tmps := t, params := ps, assign, body, defers := a.defers })
        (.loop { state := .ready, pending := none, fn, tmps := tm, params := ps, assign, body, defers := kd.block })
        ⟨tm, _, fn, ht.mono (Ren.le_upd hf0), Ren.le_upd hf0 _ _ hkd, rfl⟩
      refine ⟨_, [], _, _, ?_, Ren.upd_same _ _ _, ?_, H2, hok2, m2⟩
      · simp [Instr.enterLoop, Instr.getLoop, hgo]
      · exact hd.mono (Ren.le_upd hf0)
    · simp at e

theorem aRangeFunc_sound {E : Env} (F : Fits E) {r : Rec} (R : RecOK E r) {f : FuncId} {ro : Option Nat} {gx : Operand} {ps : Array Tmp} {assign body : Code} {t : ATmps} {d : List Nat} {h : AHeap} {x : AExit} {t' : ATmps} {d' : List Nat} {h' : AHeap}
    (e : aRangeFunc r E f ro gx ps assign body t d h = some (x, t', d', h')) :
    h.next ≤ h'.next ∧ ∀ {ρ : Ren} {w : World} {a : Act} {ro' : Option Nat}, RoR ρ ro ro' → HR ρ h.get w → h.ok → Fresh ρ h.next h'.next → TR ρ t a.tmps → DR ρ d a.defers → GOK E.P ρ →
      (Code.rangeFunc gx ps assign body).wpIn (FW ro') 0 E.P (After ρ h w x t' d' h') a w := by
  unfold aRangeFunc at e
  split at e
  · rename_i gf first captured hg
    split at e
    · simp at e
    · rename_i hcl
      split at e
      · simp at e
      · rename_i D d1 h0 hent
        simp only at e
        split at e
        · simp at e
        · rename_i v h2 hcall
          obtain ⟨hn2, ⟨fn, c, hfn, hbody⟩, hc⟩ := R.call hcall
          have hn0 := (enter_sound (ρ := fun _ => none) (w := default) (E := E) (fn := 0) (t := t) (tm := #[]) (ps := ps) (assign := assign) (body := body) (ro' := none) hent f).1
          have hn2' : h0.next + 1 ≤ h2.next := hn2
          split at e
          · rename_i a hl
            -- what comes behind, once the state and the pending jump are known
            have fin : ∀ (st : a.state ≠ .busy) (x : AExit) (jc : Option Code), a.pending = jc → (∀ {Q : Exit → Act → World → Prop} {F : Fence} {a' : Act} {w' : World}, (∀ ex, ExR x ex → Q ex a' w') → (match jc with | none => Q .normal a' w' | some c => c.wpIn F 0 E.P Q a' w')) →
                h.next ≤ (h2.del h0.next).next ∧ ∀ {ρ : Ren} {w : World} {a' : Act} {ro' : Option Nat}, RoR ρ ro ro' → HR ρ h.get w → h.ok → Fresh ρ h.next (h2.del h0.next).next → TR ρ t a'.tmps → DR ρ d a'.defers → GOK E.P ρ →
                  (Code.rangeFunc gx ps assign body).wpIn (FW ro') 0 E.P (After ρ h w x t d1 (h2.del h0.next)) a' w := by
              intro st x jc hj hjump
              subst hj
              have hnd : (h2.del h0.next).next = h2.next := rfl
              refine ⟨by rw [hnd]; omega, ?_⟩
              intro ρ w a' ro' hro H hok hfr ht hd hG
              rw [hnd] at hfr
              refine wpIn_rangeFunc ?_
              intro fn' _
              obtain ⟨_, hsound⟩ := enter_sound (ρ := ρ) (w := w) (E := E) (fn := fn') (t := t) (tm := a'.tmps) (ps := ps) (assign := assign) (body := body) (ro' := ro') hent f
              obtain ⟨k, mark, w1, ρ1, hen, hk, hd1, H1, hok1, m1⟩ := hsound hro H hok (hfr.left hn2') ht hd
              have hgv := aeval_sound (E := E) ht hG gx _ hg
              obtain ⟨fn2, fi, ca, hcc, hf2, hfi, hca⟩ := hgv.func_inv
              cases hf2
              have hargs : AR ρ1 (first ++ #[Value.func (.yield h0.next) #[] #[]] ++ captured) (fi ++ #[Value.func (.yield k.block) #[] #[]] ++ ca) :=
                ((hfi.mono m1.le).append (AR.one (VR.of_func (.yield hk) .nil .nil))).append (hca.mono m1.le)
              have hcc' := hc H1 hok1 (m1.fresh hfr) hargs (hG.mono m1.le) ro'
              refine ⟨k.block, mark, w1, { target := .fn (.func gf) ca, args := fi ++ #[Value.func (.yield k.block) #[] #[]] }, w1, gf, fi ++ #[Value.func (.yield k.block) #[] #[]] ++ ca, w1, hen, ?_, fun _ _ => trivial, ?_, fun hh => by simp [FW, Fence.wide] at hh, ?_⟩
              · simp only [resolve]; simp only [hcc]; simp [Deferred.ofValue]; rfl
              · simp only [invoke]; exact F.enter gf fn c hfn hbody _ _
              · refine hcc'.mono ?_
                intro e' w3 he'
                cases e' with
                | panicked ch => exact he'.elim
                | outgrown => exact he'.elim
                | returned v' =>
                  obtain ⟨ρ3, _, H3, hok3, m3⟩ := he'
                  have hk3 := m3.le _ _ hk
                  obtain ⟨tm3, kd3, fn3, htm3, hkd3, ho3⟩ := H3.get hl hk3
                  have hgo3 : (getObj k.block).run E.P w3 = .ok (.loop { state := a.state, pending := a.pending, fn := fn3, tmps := tm3, params := a.params, assign := a.assign, body := a.body, defers := kd3.block }) w3 := by
                    simp [getObj, Sem.run, ho3]
                  obtain ⟨w4, s4, H4, m4⟩ := setObj_sound (P := E.P) H3 (.loop { a with state := .exhausted }) hl hk3 rfl ho3 rfl
                    (.loop { state := .exhausted, pending := a.pending, fn := fn3, tmps := tm3, params := a.params, assign := a.assign, body := a.body, defers := kd3.block }) ⟨tm3, kd3, fn3, htm3, hkd3, rfl⟩ h2.next
                  have hsub : ∀ j y, (h2.del h0.next).get j = some y → (Got.upd h2.get h0.next (.loop { a with state := .exhausted })) j = some y := fun j y hj => by
                    rw [AHeap.get_del] at hj
                    by_cases ej : j = h0.next
                    · simp [ej] at hj
                    · rw [if_neg ej] at hj; simp [Got.upd, ej, hj]
                  refine ⟨a.pending, w4, ?_, ?_⟩
                  · have hb : (a.state == LoopState.busy) = false := by simpa using st
                    simp only [Instr.endLoop, Instr.getLoop, Sem.run_bind, hgo3, Result.andThen_ok, Sem.run_pure, hb, Bool.false_eq_true, if_false, s4]
                  · refine hjump fun ex hex => ?_
                    refine ⟨ρ3, hex, (ht.mono m1.le).mono m3.le, hd1.mono m3.le, H4.sub hsub, hok3.del _, ?_⟩
                    exact ((m1.trans m3).trans m4).trans (Moves.sub hsub h2.next)
            split at e
            · simp at e
            · rename_i hst
              have hst' : a.state ≠ .busy := fun hb => hst hb
              split at e
              · rename_i hp
                obtain ⟨rfl, rfl, rfl, rfl⟩ : AExit.normal = x ∧ t = t' ∧ d1 = d' ∧ h2.del h0.next = h' := by simpa using e
                exact fin hst' .normal none hp fun hq => hq _ .normal
              · rename_i hp
                obtain ⟨rfl, rfl, rfl, rfl⟩ : AExit.ret = x ∧ t = t' ∧ d1 = d' ∧ h2.del h0.next = h' := by simpa using e
                exact fin hst' .ret (some .ret) hp fun hq => wpIn_ret (hq _ .ret)
              · rename_i id hp
                obtain ⟨rfl, rfl, rfl, rfl⟩ : AExit.exit id = x ∧ t = t' ∧ d1 = d' ∧ h2.del h0.next = h' := by simpa using e
                exact fin hst' (.exit id) (some (.exit id)) hp fun hq => wpIn_exit (hq _ (.exit id))
              · simp at e
          · simp at e
  · simp at e
end
end Go.Abs
end
