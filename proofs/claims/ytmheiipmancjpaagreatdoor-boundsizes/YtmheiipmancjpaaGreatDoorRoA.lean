/- Proved here: reading structs of numbers; what the row's condition gives (the letters' block). By an AI agent. -/
import Derived.ChangeArms
import Derived.OpenShut
import Derived.Test.YtmheiipmancjpaaGreatDoorAbM
import Derived.Test.YtmheiipmancjpaaGreatDoorRows
import Derived.ProofKit
import Derived.LaidMore
import Derived.Stop.Joined
import Derived.ChangeSame
import Derived.RowKit
set_option linter.unusedVariables false
set_option linter.unusedSimpArgs false
section
set_option linter.unusedVariables false
/-! Reading structs of numbers. -/
namespace Go.Flat
open Go.Abs (Stays)
section
variable {H : Type} {enc : TypeId × Value → H} {P : Program} {w w' : World} {base b' : Nat} {spare s' : Nat → Bool} {held h' : Bool} {fuel : Nat} {t : TypeId} {cs : List Value} {x : DataW H × List MemPlace}
theorem int_same {k : IntKind} (ht : P.underlying t = some (.int k)) (cs : List Value) (fuel : Nat) : DataW.trod enc P w base spare held fuel t cs = DataW.trod enc P w' b' s' h' fuel t cs := by
  cases fuel with
  | zero => simp [DataW.trod]
  | succ n =>
    unfold DataW.trod; rw [ht]
    rcases cs with _ | ⟨c, _ | ⟨d, l⟩⟩ <;> first | rfl | (cases c <;> rfl)
theorem flat_same {fs : Array Field} (ht : P.underlying t = some (.struct fs)) (hf : ∀ f ∈ fs.toList, ∃ k, P.underlying f.type = some (.int k)) (cs : List Value) (fuel : Nat) : DataW.trod enc P w base spare held fuel t cs = DataW.trod enc P w' b' s' h' fuel t cs := by
  cases fuel with
  | zero => simp [DataW.trod]
  | succ n =>
    unfold DataW.trod
    rw [ht]
    have : (fs.toList.mapM fun f => DataW.trod enc P w base spare held n f.type ((cs.drop f.offset).take (P.cellsOf f.type))) = fs.toList.mapM fun f => DataW.trod enc P w' b' s' h' n f.type ((cs.drop f.offset).take (P.cellsOf f.type)) := by
      generalize fs.toList = l at hf
      induction l with
      | nil => rfl
      | cons f l ih =>
        obtain ⟨k, hk⟩ := hf f (by simp)
        simp only [List.mapM_cons, ih fun g hg => hf g (by simp [hg])]
        rw [int_same (w' := w') (b' := b') (s' := s') (h' := h') hk]
    simp only [this]
/-- One cell of such a struct. -/
theorem flat_cell {fs : Array Field} (ht : P.underlying t = some (.struct fs)) (h : DataW.trod enc P w base spare held fuel t cs = some x) {i : Nat} {f : Field} (hf : fs[i]? = some f) (ho : f.offset = i) (hc : P.cellsOf f.type = 1) {k : IntKind} (hk : P.underlying f.type = some (.int k)) :
    ∃ m, cs[i]? = some (.int k m) ∧ (Lit.int k m).wf = true := by
  obtain ⟨xs, n, rfl, rfl, hl, hs, he⟩ := DataW.trod_struct ht h
  have hi : i < xs.length := by rw [hs]; exact (Array.getElem?_eq_some_iff.1 hf).1
  have h1 := he i f hf
  rw [ho, hc, List.getElem?_eq_getElem hi] at h1
  obtain ⟨m, e1, _, e3⟩ := DataW.trod_int hk h1
  refine ⟨m, ?_, e3⟩
  have : (List.take 1 (List.drop i cs))[0]? = some (.int k m) := by rw [e1]; rfl
  simpa [List.getElem?_take, List.getElem?_drop] using this
end
theorem stays_kept {w w' : World} (h : Stays w w') (may : MemPlace → Prop) : w.keptBut w' may := by
  refine ⟨h.os, h.out, fun i hi => ?_⟩
  rw [h.keep i hi]
  cases w.heap[i]? with
  | none => rfl
  | some o => cases o <;> first | exact ⟨rfl, rfl, rfl, fun _ _ => rfl⟩ | exact .inr ⟨rfl, rfl⟩ | rfl
end Go.Flat
end
section
set_option linter.unusedVariables false
set_option maxRecDepth 100000
namespace Go.Proofs.YtmheiipmancjpaaGreatDoor
open Go.ChangeShapes Go.WideShapes Go.ChangeAt Go.RowKit Go.Flat
open Go.Abs (Stays)
theorem own : ownKnob Tryz.prog.godebug = none := by kernel_rfl
theorem gLetters : Tryz.prog.globalNamed "estray/answer.letters" = some 0 := by kernel_rfl
theorem tLetters : ∃ t, (Tryz.prog.globals[0]?).map (·.type) = some t ∧ ∃ e, Tryz.prog.underlying t = some (.array 4 e) ∧ Tryz.prog.underlying e = some (.int .u8) ∧ Tryz.prog.cellsOf e = 1 ∧ Tryz.prog.cellsOf t = 4 :=
  ⟨525, by kernel_rfl, _, Tryz.underlying525, by kernel_rfl, by kernel_rfl, by kernel_rfl⟩
/-- WHAT THE CONDITION GIVES THE WALK: the letters' block. -/
theorem of_laid {W : World} (h : laidMetH Tryz.prog Rows.boundSizesRow.laid W) : ∃ t, W.heap[0]? = some (.cells #[.int .u8 0, .int .u8 111, .int .u8 108, .int .u8 102] t (0, 0)) := by
  rw [MakeChecks.laidMetH_plain _ _ _ (by kernel_rfl)] at h
  obtain ⟨ps, ⟨g0, t0, cs0, f0, p0, q0, hg0, ht0, hv0, hd0, _, rfl⟩, _, hz⟩ := h
  obtain rfl := Option.some.inj (gLetters.symm.trans hg0)
  obtain ⟨t, htt, e, hta, hte, hce, hct⟩ := tLetters
  obtain rfl := Option.some.inj (htt.symm.trans ht0)
  obtain ⟨xs, n, rfl, hx, hl, hxl, hel⟩ := DataW.trod_array hta hd0
  rw [hct] at hl
  have hsz : cs0.size = 4 := by simpa using hl
  obtain ⟨⟨c, u, hb⟩, -⟩ := hz 0 0 (by simp [MemPlace.row, hsz])
  have hc : c = cs0 := by
    have : World.var? Tryz.prog W "estray/answer.letters" = some c := by simp [World.var?, gLetters, hb]
    exact Option.some.inj (this.symm.trans hv0)
  subst hc
  refine ⟨u, ?_⟩
  rw [hb]
  have hat : ∀ i (v : Int), i < 4 → (xs.map (·.1))[i]? = some (.lit (.int .u8 v)) → c[i]? = some (.int .u8 v) := by
    intro i v hi hd
    have h1 := hel i hi
    have hi' : i < xs.length := by omega
    rw [hce, Nat.mul_one, List.getElem?_eq_getElem hi'] at h1
    obtain ⟨m, e1, e2, _⟩ := DataW.trod_int hte h1
    simp only [List.getElem?_map, List.getElem?_eq_getElem hi', e2, Option.map_some, Option.some.injEq] at hd
    have hm : m = v := by simpa using hd
    subst hm
    have : (List.take 1 (List.drop i c.toList))[0]? = some (.int .u8 m) := by rw [e1]; rfl
    simpa [List.getElem?_take, List.getElem?_drop] using this
  have hx' : xs.map (·.1) = [.lit (.int .u8 0), .lit (.int .u8 111), .lit (.int .u8 108), .lit (.int .u8 102)] := by
    have := congrArg Prod.fst hx
    exact (DataW.agg.inj this).symm
  rw [hx'] at hat
  have a0 := hat 0 _ (by omega) rfl
  have a1 := hat 1 _ (by omega) rfl
  have a2 := hat 2 _ (by omega) rfl
  have a3 := hat 3 _ (by omega) rfl
  have : c = #[.int .u8 0, .int .u8 111, .int .u8 108, .int .u8 102] := by
    apply Array.ext_getElem?
    intro i
    match i with
    | 0 => rw [a0]; rfl
    | 1 => rw [a1]; rfl
    | 2 => rw [a2]; rfl
    | 3 => rw [a3]; rfl
    | i + 4 => rw [Array.getElem?_eq_none (by omega)]; simp
  rw [this]
end Go.Proofs.YtmheiipmancjpaaGreatDoor
end
