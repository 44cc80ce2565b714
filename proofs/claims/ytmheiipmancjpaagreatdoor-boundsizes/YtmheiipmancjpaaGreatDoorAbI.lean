/- Proved here: a drawn region, and the evaluator whole, are sound. By an AI agent. -/
import Derived.Test.YtmheiipmancjpaaGreatDoorAbH
set_option linter.unusedVariables false
set_option linter.unusedSimpArgs false
section
/-! A region that draws its order is sound: the steps. -/
namespace Go.Abs
noncomputable section

section
variable {r : Rec} {E : Env} {ops : Array Oper}
variable {tf : ATmps} {hf : AHeap} {ρ0 : Ren} {g0 : Got} {n0 : Nat} {w0 : World} {d0 : List Deferred} {S : Nat → Bool} {ρ : Ren} {G : Got} {w : World} {a : Act} {A : List Ent} {t : ATmps} {h : AHeap} {B : List Ent}

def Invs (r : Rec) (E : Env) (ops : Array Oper) (tf : ATmps) (hf : AHeap) (ρ0 : Ren) (g0 : Got) (n0 : Nat) (w0 : World) (d0 : List Deferred) (S : Nat → Bool) (a : Act) (w : World) : Prop :=
  ∃ ρ G A t h B, Inv r E ops tf hf ρ0 g0 n0 w0 d0 S ρ G w a A t h B

/-- A step that keeps the world. -/
theorem Inv.still (I : Inv r E ops tf hf ρ0 g0 n0 w0 d0 S ρ G w a A t h B) (hsl : slotsOK ops (bits ops) = true) {B1 B2 : List Ent} {e : Ent} (hB : B = B1 ++ e :: B2) (hS : S e.i = false)
    (hready : ∀ j, ((bits ops).getD e.i 0).testBit j = true → S j = true) (he : e.eff = false) (hh : e.h' = e.h) {v' : Value} (hv : VR ρ e.v v') :
    Inv r E ops tf hf ρ0 g0 n0 w0 d0 (addS S e.i) ρ G w (a.put e.o.dst v') A t h B where
  seg := I.seg
  all := I.all
  inA := fun f hf => addS_le (I.inA f hf)
  noeff := fun f hf hs => by
    rcases addS_inv hs with h | h
    · have s := I.seg
      rw [hB] at s hf
      have : f = e := by
        obtain ⟨t1, h1, s1, s2⟩ := s.split
        rcases List.mem_append.1 hf with hf | hf
        · exact absurd h (s2.apart f (List.mem_append_right _ hf) e (by simp))
        · rcases List.mem_cons.1 hf with hf | hf
          · exact hf
          · cases s2 with
            | cons ho hb hd hs rest => exact absurd h.symm (rest.apart e (by simp) f hf)
      rw [this]; exact he
    · exact I.noeff f hf h
  down := fun i j hi hj => by
    rcases addS_inv hi with h | h
    · rw [h] at hj; exact addS_le (hready j hj)
    · exact addS_le (I.down i j h hj)
  hr := I.hr
  lo := I.lo
  hi := fun x o hx => by
    rw [I.hi x o hx]
    constructor
    · rintro ⟨f, h1, h2, h3, h4⟩; exact ⟨f, h1, addS_le h2, h3, h4⟩
    · rintro ⟨f, h1, h2, h3, h4⟩
      refine ⟨f, h1, ?_, h3, h4⟩
      rcases addS_inv h2 with h | h
      · exfalso
        have s := I.seg
        rw [hB] at s h1
        have : f = e := by
          obtain ⟨t1, h1', s1, s2⟩ := s.split
          rcases List.mem_append.1 h1 with hf | hf
          · exact absurd h (s2.apart f (List.mem_append_right _ hf) e (by simp))
          · rcases List.mem_cons.1 hf with hf | hf
            · exact hf
            · cases s2 with
              | cons ho hb hd hs rest => exact absurd h.symm (rest.apart e (by simp) f hf)
        rw [this, hh] at h4
        have := congrArg AHeap.next h4
        rw [AHeap.add_next] at this
        omega
      · exact h
  ok := I.ok
  fr := fun f hf hs => I.fr f hf (by
    cases hq : S f.i with
    | false => rfl
    | true => rw [addS_le hq] at hs; cases hs)
  tm := ((I.tm.put hv e.o.dst).congr (by rw [fold_n, put_n, fold_n]) (I.slots' hsl hB hS hready).2)
  df := by rw [put_defers]; exact I.df
  gok := I.gok
  mv := I.mv
  n0h := I.n0h

theorem Inv.uniq (I : Inv r E ops tf hf ρ0 g0 n0 w0 d0 S ρ G w a A t h B) {B1 B2 : List Ent} {e : Ent} (hB : B = B1 ++ e :: B2) {f : Ent} (hf : f ∈ B) (h : f.i = e.i) : f = e := by
  have s := I.seg
  rw [hB] at s hf
  obtain ⟨t1, h1', s1, s2⟩ := s.split
  rcases List.mem_append.1 hf with hf | hf
  · exact absurd h (s2.apart f (List.mem_append_right _ hf) e (by simp))
  · rcases List.mem_cons.1 hf with hf | hf
    · exact hf
    · cases s2 with
      | cons ho hb hd hs rest => exact absurd h.symm (rest.apart e (by simp) f hf)

/-- A step that makes a block, early or not. -/
theorem Inv.made (F : Fits E) (R : RecOK E r) (I : Inv r E ops tf hf ρ0 g0 n0 w0 d0 S ρ G w a A t h B) (hsl : slotsOK ops (bits ops) = true) {B1 B2 : List Ent} {e : Ent} (hB : B = B1 ++ e :: B2) (hS : S e.i = false)
    (hready : ∀ j, ((bits ops).getD e.i 0).testBit j = true → S j = true) (he : e.eff = false) {obj : AObj} (hh : e.h' = e.h.add obj) {v' : Value} {w' : World} {ρ' : Ren} (hv : VR ρ' e.v v')
    {gh : AHeap} (hgn : gh.next = e.h.next) (hgg : ∀ x, gh.get x = none) (H' : HR ρ' (gh.add obj).get w') (m : Moves ρ gh.get gh.next w ρ' (gh.add obj).get (gh.add obj).next w') :
    Inv r E ops tf hf ρ0 g0 n0 w0 d0 (addS S e.i) ρ' (G.upd e.h.next obj) w' (a.put e.o.dst v') A t h B := by
  have hnw : ∀ Bk, ¬ Wr ρ gh.get Bk := fun Bk ⟨i, o, l, hi, _⟩ => by rw [hgg i] at hi; cases hi
  have hntk : ∀ Bk, ¬ Tk ρ gh.get Bk := fun Bk ⟨i, o, l, hi, _⟩ => by rw [hgg i] at hi; cases hi
  have hkeep : ∀ Bk, Bk < w.heap.size → w'.heap[Bk]? = w.heap[Bk]? := fun Bk hB => m.keep Bk hB (hnw Bk)
  have s := I.seg
  rw [hB] at s
  obtain ⟨t1, h1', s1, s2⟩ := s.split
  have heh : h1' = e.h := by cases s2 with | cons ho hb hd hs rest => rfl
  have hn1 : h.next ≤ e.h.next := by rw [← heh]; exact (s1.next F R).1
  have hgx : G e.h.next = none := by
    cases hg : G e.h.next with
    | none => rfl
    | some o =>
      obtain ⟨l, hl, _⟩ := I.hr.obj _ _ hg
      have := I.fr e (by rw [hB]; simp) hS e.h.next (Nat.le_refl _) (by rw [hh, AHeap.add_next]; omega)
      rw [this] at hl; cases hl
  have hobj : (gh.add obj).get e.h.next = some obj := by rw [AHeap.get_add, if_pos hgn.symm]
  obtain ⟨lx, hlx, horx⟩ := H'.obj _ _ hobj
  have hnew : w.heap.size ≤ lx.block := by
    rcases Nat.lt_or_ge lx.block w.heap.size with hlt | hge
    · exact absurd (m.tr _ hlt ⟨_, _, _, hobj, hlx, rfl⟩) (hntk _)
    · exact hge
  have hold : ∀ x o, G x = some o → x ≠ e.h.next := fun x o hx e => by rw [e, hgx] at hx; cases hx
  have le := m.le
  refine { seg := I.seg, all := I.all, inA := fun f hf => addS_le (I.inA f hf), noeff := ?_, down := ?_, hr := ?_, lo := ?_, hi := ?_, ok := I.ok, fr := ?_, tm := ?_, df := ?_, gok := I.gok.mono le, mv := ?_, n0h := I.n0h }
  · intro f hf hs
    rcases addS_inv hs with h | h
    · rw [I.uniq hB hf h]; exact he
    · exact I.noeff f hf h
  · intro i j hi hj
    rcases addS_inv hi with h | h
    · rw [h] at hj; exact addS_le (hready j hj)
    · exact addS_le (I.down i j h hj)
  · refine ⟨fun x o hx => ?_, fun x y ox oy l1 l2 hx hy hl1 hl2 hxy => ?_⟩
    · unfold Got.upd at hx
      by_cases ex : x = e.h.next
      · rw [if_pos ex] at hx; cases hx
        exact ⟨lx, by rw [ex]; exact hlx, horx⟩
      · rw [if_neg ex] at hx
        obtain ⟨l, hl, hor⟩ := I.hr.obj x o hx
        refine ⟨l, le _ _ hl, ?_⟩
        rw [hkeep _ (I.hr.block_lt hx hl)]
        exact hor.mono le
    · unfold Got.upd at hx hy
      have old : ∀ {z oz lz}, G z = some oz → ρ' z = some lz → lz.block < w.heap.size ∧ ρ z = some lz := fun {z oz lz} hz hlz => by
        obtain ⟨l, hl, _⟩ := I.hr.obj z _ hz
        have := le _ _ hl
        rw [hlz] at this; cases this
        exact ⟨I.hr.block_lt hz hl, hl⟩
      by_cases ex : x = e.h.next
      · have ey : y ≠ e.h.next := fun h => hxy (ex.trans h.symm)
        rw [if_neg ey] at hy
        rw [ex, hlx] at hl1; cases hl1
        have := (old hy hl2).1
        omega
      · rw [if_neg ex] at hx
        by_cases ey : y = e.h.next
        · rw [ey, hlx] at hl2; cases hl2
          have := (old hx hl1).1
          omega
        · rw [if_neg ey] at hy
          exact I.hr.inj x y _ _ _ _ hx hy (old hx hl1).2 (old hy hl2).2 hxy
  · intro x hx
    have : x ≠ e.h.next := by omega
    simp only [Got.upd, this, if_false]
    exact I.lo x hx
  · intro x o hx
    unfold Got.upd
    by_cases ex : x = e.h.next
    · rw [if_pos ex]
      constructor
      · intro ho; cases ho
        exact ⟨e, by rw [hB]; simp, addS_same _ _, ex.symm, hh⟩
      · rintro ⟨f, h1, h2, h3, h4⟩
        rcases addS_inv h2 with h | h
        · have := I.uniq hB h1 h
          subst this
          rw [hh] at h4
          have h5 : (f.h.add obj).get f.h.next = (f.h.add o).get f.h.next := by rw [h4]
          rw [AHeap.get_add, AHeap.get_add, if_pos rfl, if_pos rfl] at h5
          exact h5
        · have := (I.hi x o hx).2 ⟨f, h1, h, h3, h4⟩
          rw [ex, hgx] at this; cases this
    · rw [if_neg ex, I.hi x o hx]
      constructor
      · rintro ⟨f, h1, h2, h3, h4⟩; exact ⟨f, h1, addS_le h2, h3, h4⟩
      · rintro ⟨f, h1, h2, h3, h4⟩
        rcases addS_inv h2 with h | h
        · have := I.uniq hB h1 h
          subst this
          exact absurd h3.symm ex
        · exact ⟨f, h1, h, h3, h4⟩
  · intro f hf hs x h1 h2
    have hne : f.i ≠ e.i := fun h => by rw [h, addS_same] at hs; cases hs
    have hSf : S f.i = false := by rw [addS_ne hne] at hs; exact hs
    cases hx : ρ' x with
    | none => rfl
    | some l =>
      exfalso
      rcases m.dom x (by simp [hx]) with h | ⟨h3, h4⟩
      · exact h (I.fr f hf hSf x h1 h2)
      · -- the name is e's own, and f's names are others
        have h4 : x < e.h'.next := by rw [hh]; simp only [AHeap.add_next] at h4 ⊢; omega
        rw [hgn] at h3
        rw [hB] at hf
        rcases List.mem_append.1 hf with hf | hf
        · have := (s1.next F R).2 f hf
          rw [heh] at this; omega
        · rcases List.mem_cons.1 hf with hf | hf
          · exact hne (by rw [hf])
          · cases s2 with
            | cons ho hb hd hs rest =>
              have := (rest.next F R).2 f hf
              omega
  · exact (((I.tm.mono le).put hv e.o.dst).congr (by rw [fold_n, put_n, fold_n]) (I.slots' hsl hB hS hready).2)
  · rw [put_defers]; exact I.df
  · have hle : e.h'.next ≤ hf.next := by
      cases s2 with
      | cons ho hb hd hs rest => exact (rest.next F R).1
    refine ⟨Ren.le_trans I.mv.le le, fun x hx => ?_, I.mv.next, Nat.le_trans I.mv.size m.size, fun Bk hBk hn => ?_, fun Bk hBk hw => ?_, fun Bk hBk hw => ?_, m.os.trans I.mv.os, m.out.trans I.mv.out⟩
    · rcases m.dom x hx with h | ⟨h3, h4⟩
      · exact I.mv.dom x h
      · right
        have := I.n0h
        rw [hh] at hle
        simp only [AHeap.add_next] at h4 hle
        omega
    · rw [hkeep Bk (Nat.lt_of_lt_of_le hBk I.mv.size)]; exact I.mv.keep Bk hBk hn
    · obtain ⟨i, o, l, hi, hl, hlb, hro⟩ := hw
      unfold Got.upd at hi
      by_cases ei : i = e.h.next
      · rw [ei, hlx] at hl; cases hl
        have := I.mv.size
        omega
      · rw [if_neg ei] at hi
        obtain ⟨l', hl', _⟩ := I.hr.obj i o hi
        rw [le _ _ hl'] at hl; cases hl
        exact I.mv.wr Bk hBk ⟨i, o, _, hi, hl', hlb, hro⟩
    · obtain ⟨i, o, l, hi, hl, hlb⟩ := hw
      unfold Got.upd at hi
      by_cases ei : i = e.h.next
      · rw [ei, hlx] at hl; cases hl
        have := I.mv.size
        omega
      · rw [if_neg ei] at hi
        obtain ⟨l', hl', _⟩ := I.hr.obj i o hi
        rw [le _ _ hl'] at hl; cases hl
        exact I.mv.tr Bk hBk ⟨i, o, _, hi, hl', hlb⟩

/-- An effect. -/
theorem Inv.effect (F : Fits E) (R : RecOK E r) (I : Inv r E ops tf hf ρ0 g0 n0 w0 d0 S ρ G w a A t h B) (hsl : slotsOK ops (bits ops) = true) {B1 B2 : List Ent} {e : Ent} (hB : B = B1 ++ e :: B2) (hS : S e.i = false)
    (hready : ∀ j, ((bits ops).getD e.i 0).testBit j = true → S j = true) (hp : ∀ f ∈ B1, S f.i = true) {v' : Value} {w' : World} {ρ' : Ren} (hv : VR ρ' e.v v')
    (H' : HR ρ' e.h'.get w') (hok' : e.h'.ok) (m : Moves ρ e.h.get e.h.next w ρ' e.h'.get e.h'.next w') :
    ∃ G', Inv r E ops tf hf ρ0 g0 n0 w0 d0 (addS S e.i) ρ' G' w' (a.put e.o.dst v') (A ++ B1 ++ [e]) (e.t.put e.o.dst e.v) e.h' B2 := by
  have s := I.seg
  rw [hB] at s
  obtain ⟨t1, h1', s1, s2⟩ := s.split
  have heh : h1' = e.h := by cases s2 with | cons ho hb hd hs rest => rfl
  have het : e.t = fold B1 t := by
    have ht1 := s1.slots
    cases s2 with | cons ho hb hd hs rest => exact ht1
  have hB1 : ∀ f ∈ B1, f ∈ B := fun f hf => by rw [hB]; simp [hf]
  have hB2 : ∀ f ∈ B2, f ∈ B := fun f hf => by rw [hB]; simp [hf]
  have hn1 : ∀ f ∈ B1, f.eff = false := fun f hf => I.noeff f (hB1 f hf) (hp f hf)
  rw [heh] at s1
  have hsub : ∀ x o, e.h.get x = some o → G x = some o := fun x o hx => I.known F R s1 hn1 hB1 hx (.inr hp)
  have hokE : e.h.ok := (s1.heap hn1).1 I.ok
  have hnx1 := s1.next F R
  have hnE : e.h.next ≤ e.h'.next := m.next
  have hrest : Seg r E ops (bits ops) (A ++ B1 ++ [e]) (e.t.put e.o.dst e.v) e.h' B2 tf hf := by
    cases s2 with | cons ho hb hd hs rest => exact rest
  have hnx2 := hrest.next F R
  have le := m.le
  have hne2 : ∀ f ∈ B2, f.i ≠ e.i := fun f hf h => hrest.apart e (by simp) f hf h.symm
  -- what waits beyond
  have wait : ∀ x o, e.h'.next ≤ x → (G x = some o ↔ ∃ f ∈ B2, S f.i = true ∧ f.h.next = x ∧ f.h' = f.h.add o) := by
    intro x o hx
    rw [I.hi x o (by omega)]
    constructor
    · rintro ⟨f, h1, h2, h3, h4⟩
      rw [hB] at h1
      rcases List.mem_append.1 h1 with h1 | h1
      · have h5 := hnx1.2 f h1
        have h6 : f.h'.next = f.h.next + 1 := by rw [h4]; rfl
        omega
      · rcases List.mem_cons.1 h1 with h1 | h1
        · rw [h1, hS] at h2; cases h2
        · exact ⟨f, h1, h2, h3, h4⟩
    · rintro ⟨f, h1, h2, h3, h4⟩; exact ⟨f, hB2 f h1, h2, h3, h4⟩
  have keepW : ∀ x o l, e.h'.next ≤ x → G x = some o → ρ x = some l → w'.heap[l.block]? = w.heap[l.block]? ∧ ¬ Tk ρ e.h.get l.block := by
    intro x o l hx hg hl
    have hnt : ¬ Tk ρ e.h.get l.block := by
      rintro ⟨i, oi, li, hi, hli, hlb⟩
      have hix : i ≠ x := by have := hokE i oi hi; omega
      exact I.hr.inj i x _ _ _ _ (hsub i oi hi) hg hli hl hix hlb
    refine ⟨m.keep _ (I.hr.block_lt hg hl) fun ⟨i, oi, li, hi, hli, hlb, _⟩ => hnt ⟨i, oi, li, hi, hli, hlb⟩, hnt⟩
  refine ⟨fun x => if x < e.h'.next then e.h'.get x else G x, ?_⟩
  -- what the new heap names
  have cases' : ∀ x o, (if x < e.h'.next then e.h'.get x else G x) = some o → (x < e.h'.next ∧ e.h'.get x = some o) ∨ (e.h'.next ≤ x ∧ G x = some o) := by
    intro x o hx
    by_cases hlt : x < e.h'.next
    · rw [if_pos hlt] at hx; exact .inl ⟨hlt, hx⟩
    · rw [if_neg hlt] at hx; exact .inr ⟨by omega, hx⟩
  refine { seg := hrest, all := ?_, inA := ?_, noeff := ?_, down := ?_, hr := ?_, lo := ?_, hi := ?_, ok := hok', fr := ?_, tm := ?_, df := ?_, gok := I.gok.mono le, mv := ?_, n0h := ?_ }
  · intro i hi
    obtain ⟨x, hx, hxi⟩ := I.all i hi
    exact ⟨x, by rw [hB] at hx; simpa using hx, hxi⟩
  · intro f hf
    simp only [List.mem_append, List.mem_singleton] at hf
    rcases hf with (hf | hf) | hf
    · exact addS_le (I.inA f hf)
    · exact addS_le (hp f hf)
    · rw [hf]; exact addS_same _ _
  · intro f hf hs
    rw [addS_ne (hne2 f hf)] at hs
    exact I.noeff f (hB2 f hf) hs
  · intro i j hi hj
    rcases addS_inv hi with h | h
    · rw [h] at hj; exact addS_le (hready j hj)
    · exact addS_le (I.down i j h hj)
  · refine ⟨fun x o hx => ?_, fun x y ox oy l1 l2 hx hy hl1 hl2 hxy => ?_⟩
    · rcases cases' x o hx with ⟨_, hx⟩ | ⟨hge, hx⟩
      · exact H'.obj x o hx
      · obtain ⟨l, hl, hor⟩ := I.hr.obj x o hx
        refine ⟨l, le _ _ hl, ?_⟩
        rw [(keepW x o l hge hx hl).1]
        exact hor.mono le
    · have two : ∀ {x y ox oy l1 l2}, e.h'.get x = some ox → e.h'.next ≤ y → G y = some oy → ρ' x = some l1 → ρ' y = some l2 → l1.block ≠ l2.block := by
        intro x y ox oy l1 l2 hx hge hy hl1 hl2 hb
        obtain ⟨l, hl, _⟩ := I.hr.obj y oy hy
        rw [le _ _ hl] at hl2; cases hl2
        exact (keepW y oy _ hge hy hl).2 (m.tr _ (I.hr.block_lt hy hl) ⟨x, ox, l1, hx, hl1, hb⟩)
      rcases cases' x ox hx with ⟨_, hx⟩ | ⟨hgx, hx⟩ <;> rcases cases' y oy hy with ⟨_, hy⟩ | ⟨hgy, hy⟩
      · exact H'.inj x y _ _ _ _ hx hy hl1 hl2 hxy
      · exact two hx hgy hy hl1 hl2
      · exact fun h => two hy hgx hx hl2 hl1 h.symm
      · obtain ⟨l, hl, _⟩ := I.hr.obj x ox hx
        obtain ⟨k, hk, _⟩ := I.hr.obj y oy hy
        rw [le _ _ hl] at hl1; cases hl1
        rw [le _ _ hk] at hl2; cases hl2
        exact I.hr.inj x y _ _ _ _ hx hy hl hk hxy
  · intro x hx; simp only [hx, if_true]
  · intro x o hx
    have hge : ¬ x < e.h'.next := by omega
    simp only [hge, if_false]
    rw [wait x o hx]
    constructor
    · rintro ⟨f, h1, h2, h3, h4⟩; exact ⟨f, h1, addS_le h2, h3, h4⟩
    · rintro ⟨f, h1, h2, h3, h4⟩; exact ⟨f, h1, by rw [addS_ne (hne2 f h1)] at h2; exact h2, h3, h4⟩
  · intro f hf hs x h1 h2
    have hSf : S f.i = false := by rw [addS_ne (hne2 f hf)] at hs; exact hs
    cases hx : ρ' x with
    | none => rfl
    | some l =>
      exfalso
      rcases m.dom x (by simp [hx]) with h | ⟨h3, h4⟩
      · exact h (I.fr f (hB2 f hf) hSf x h1 h2)
      · have := hnx2.2 f hf; omega
  · have hl := (I.slots' hsl hB hS hready).2
    have hBS' : B.filter (fun f => addS S e.i f.i) = B1 ++ e :: B2.filter (fun f => addS S e.i f.i) := by
      rw [hB, List.filter_append, List.filter_cons_of_pos (by simp [addS_same]), List.filter_eq_self.2 fun f hf => addS_le (hp f hf)]
    rw [hBS', fold_append, fold_cons, ← het] at hl
    exact ((I.tm.mono le).put hv e.o.dst).congr (by rw [fold_n, put_n, put_n, fold_n, het, fold_n]) hl
  · rw [put_defers]; exact I.df
  · have wrG : ∀ Bk, Wr ρ e.h.get Bk → Wr ρ G Bk := fun Bk ⟨i, o, l, hi, hr⟩ => ⟨i, o, l, hsub i o hi, hr⟩
    have tkG : ∀ Bk, Tk ρ e.h.get Bk → Tk ρ G Bk := fun Bk ⟨i, o, l, hi, hr⟩ => ⟨i, o, l, hsub i o hi, hr⟩
    refine ⟨Ren.le_trans I.mv.le le, fun x hx => ?_, I.mv.next, Nat.le_trans I.mv.size m.size, fun Bk hBk hn => ?_, fun Bk hBk hw => ?_, fun Bk hBk hw => ?_, m.os.trans I.mv.os, m.out.trans I.mv.out⟩
    · rcases m.dom x hx with h | ⟨h3, h4⟩
      · exact I.mv.dom x h
      · right
        have := I.n0h
        omega
    · have hlt := Nat.lt_of_lt_of_le hBk I.mv.size
      rw [m.keep Bk hlt fun hw => hn (I.mv.wr Bk hBk (wrG Bk hw))]; exact I.mv.keep Bk hBk hn
    · obtain ⟨i, o, l, hi, hl, hlb, hro⟩ := hw
      have hlt := Nat.lt_of_lt_of_le hBk I.mv.size
      rcases cases' i o hi with ⟨_, hi⟩ | ⟨hge, hi⟩
      · exact I.mv.wr Bk hBk (wrG Bk (m.wr Bk hlt ⟨i, o, l, hi, hl, hlb, hro⟩))
      · obtain ⟨l', hl', _⟩ := I.hr.obj i o hi
        rw [le _ _ hl'] at hl; cases hl
        exact I.mv.wr Bk hBk ⟨i, o, _, hi, hl', hlb, hro⟩
    · obtain ⟨i, o, l, hi, hl, hlb⟩ := hw
      have hlt := Nat.lt_of_lt_of_le hBk I.mv.size
      rcases cases' i o hi with ⟨_, hi⟩ | ⟨hge, hi⟩
      · exact I.mv.tr Bk hBk (tkG Bk (m.tr Bk hlt ⟨i, o, l, hi, hl, hlb⟩))
      · obtain ⟨l', hl', _⟩ := I.hr.obj i o hi
        rw [le _ _ hl'] at hl; cases hl
        exact I.mv.tr Bk hBk ⟨i, o, _, hi, hl', hlb⟩
  · have := I.n0h; omega
end
end
end Go.Abs
end
section
/-! A region that draws its order; the step of the evaluator. -/
namespace Go.Abs
noncomputable section

theorem first_of {p : Ent → Bool} : ∀ {l : List Ent}, (¬ ∀ x ∈ l, p x = true) → ∃ C f D, l = C ++ f :: D ∧ (∀ x ∈ C, p x = true) ∧ p f = false := by
  intro l
  induction l with
  | nil => intro h; exact absurd (fun f hf => by cases hf) h
  | cons x l ih =>
    intro h
    by_cases hx : p x = true
    · obtain ⟨C, f, D, h1, h2, h3⟩ := ih fun hc => h fun f hf => by
        rcases List.mem_cons.1 hf with rfl | hf
        · exact hx
        · exact hc f hf
      refine ⟨x :: C, f, D, by rw [h1]; rfl, fun y hy => ?_, h3⟩
      rcases List.mem_cons.1 hy with rfl | hy
      · exact hx
      · exact h2 y hy
    · exact ⟨[], x, l, rfl, fun y hy => (by cases hy), by simpa using hx⟩

section
variable {r : Rec} {E : Env} {ops : Array Oper}
variable {tf : ATmps} {hf : AHeap} {ρ0 : Ren} {g0 : Got} {n0 : Nat} {w0 : World} {d0 : List Deferred} {S : Nat → Bool} {ρ : Ren} {G : Got} {w : World} {a : Act} {A : List Ent} {t : ATmps} {h : AHeap} {B : List Ent}

/-- ONE OPERATION, WHENEVER IT COMES UP. -/
theorem Inv.step (F : Fits E) (R : RecOK E r) (I : Inv r E ops tf hf ρ0 g0 n0 w0 d0 S ρ G w a A t h B) (hsl : slotsOK ops (bits ops) = true) {i : Nat} {o : Oper} (ho : ops[i]? = some o) (hS : S i = false)
    (hready : ∀ j, ((bits ops).getD i 0).testBit j = true → S j = true) {ro' : Option Nat} {Q : Exit → Act → World → Prop} {K : Act → World → Prop}
    (hK : ∀ a' w', Invs r E ops tf hf ρ0 g0 n0 w0 d0 (addS S i) a' w' → K a' w') : wpOpIn (FW ro') 0 E.P ops Q i K a w := by
  obtain ⟨B1, e, B2, hB, rfl⟩ := I.split (Array.getElem?_eq_some_iff.1 ho).1 hS
  have s := I.seg
  rw [hB] at s
  obtain ⟨t1, h1', s1, s2⟩ := s.split
  have heh : h1' = e.h := by cases s2 with | cons ho hb hd hs rest => rfl
  rw [heh] at s1
  have heo : e.o = o := by have := s2.at_ e (by simp); rw [ho] at this; exact (Option.some.inj this).symm
  have hsk : SK r E ops (bits ops) (A ++ B1) e := by cases s2 with | cons ho hb hd hs rest => exact hs
  have hrest : Seg r E ops (bits ops) (A ++ B1 ++ [e]) (e.t.put e.o.dst e.v) e.h' B2 tf hf := by cases s2 with | cons ho hb hd hs rest => exact rest
  have hB1 : ∀ f ∈ B1, f ∈ B := fun f hf => by rw [hB]; simp [hf]
  have hBe : e ∈ B := by rw [hB]; simp
  obtain ⟨hlook, _⟩ := I.slots' hsl hB hS hready
  generalize hT : fold (B.filter fun f => S f.i) t = T at hlook
  have htm := I.tm
  rw [hT] at htm
  have hwant : awanted ops T e.o = awanted ops e.t e.o := awanted_slots hlook
  have hop : ∀ g : AHeap, aop E e.o (aeval E.P T) g = aop E e.o (aeval E.P e.t) g := fun g => aop_slots hlook
  unfold wpOpIn
  rw [ho]
  simp only
  rw [← heo]
  cases hsk with
  | off hw hv hh he =>
    rw [awanted_sound (hwant.trans hw) htm]
    simp only [Bool.false_eq_true, if_false]
    refine ⟨about_true (ro := ro'), hK _ _ ⟨ρ, G, A, t, h, B, ?_⟩⟩
    exact I.still hsl hB hS hready he hh (by rw [hv]; exact VR.undef)
  | quiet hw hk hx hp hh he =>
    rw [awanted_sound (hwant.trans hw) htm]
    simp only [if_true]
    -- the heap at which it is looked at
    have : ∃ C tt hc, Seg r E ops (bits ops) A t h C tt hc ∧ (∀ f ∈ C, f.eff = false) ∧ (∀ f ∈ C, f ∈ B) ∧ aop E e.o (aeval E.P e.t) hc = some (.val e.v none) := by
      by_cases hall : ∀ f ∈ B1, f.eff = false
      · exact ⟨B1, _, _, s1, hall, hB1, hx⟩
      · obtain ⟨C, f, D, h1, h2, h3⟩ := first_of (p := fun x => !x.eff) (l := B1) (fun hc => hall fun f hf => by simpa using hc f hf)
        have h2 : ∀ x ∈ C, x.eff = false := fun x hx => by simpa using h2 x hx
        have h3 : f.eff = true := by simpa using h3
        have hfB : f ∈ B := hB1 f (by rw [h1]; simp)
        rw [h1] at s1
        obtain ⟨tc, hc, q1, q2⟩ := s1.split
        have hch : hc = f.h := by cases q2 with | cons ho hb hd hs rest => rfl
        refine ⟨C, tc, f.h, hch ▸ q1, h2, fun y hy => hB1 y (by rw [h1]; simp [hy]), ?_⟩
        rcases hp f (by rw [h1]; simp) h3 with hb | hv
        · have := I.noeff f hfB (hready _ hb)
          rw [h3] at this; cases this
        · exact hv
    obtain ⟨C, tt, hc, q1, q2, q3, q4⟩ := this
    have HQ' := I.quiet F R q1 q2 q3
    obtain ⟨v, v', e1, e2, e3⟩ := quiet_sound hk ((hop hc).trans q4) HQ' (aeval_sound htm I.gok)
    cases e1
    refine ⟨about_true (ro := ro'), ?_⟩
    rw [Oper.semAt_eq _ _ _ (wanted_eq hx), e2]
    exact hK _ _ ⟨ρ, G, A, t, h, B, I.still hsl hB hS hready he hh e3⟩
  | alloc hw hk hx he =>
    rw [awanted_sound (hwant.trans hw) htm]
    simp only [if_true]
    obtain ⟨obj, hh, hform⟩ := alloc_form hk hx
    have hg := hform { next := e.h.next, bl := .leaf } rfl
    rw [← hop] at hg
    have hnone : ∀ x, ({ next := e.h.next, bl := .leaf } : AHeap).get x = none := fun x => rfl
    have H0 : HR ρ ({ next := e.h.next, bl := .leaf } : AHeap).get w := ⟨fun i o hi => (by rw [hnone] at hi; cases hi), fun i j oi oj li lj hi => (by rw [hnone] at hi; cases hi)⟩
    have hok0 : ({ next := e.h.next, bl := .leaf } : AHeap).ok := fun i o hi => by rw [hnone] at hi; cases hi
    have hfr := I.fr e hBe hS
    rw [hh] at hfr
    obtain ⟨v', w', ρ', e1, e2, e3, e4, e5⟩ := aop_sound F hg H0 hok0 (fun _ _ hh => by cases hh; exact hfr) (aeval_sound htm I.gok)
    refine ⟨about_true (ro := ro'), ?_⟩
    rw [Oper.semAt_eq _ _ _ (wanted_eq hx)]
    rcases e1 with e1 | ⟨e1, hu⟩
    · rw [e1]
      exact hK _ _ ⟨_, _, A, t, h, B, I.made F R hsl hB hS hready he hh e2 (gh := { next := e.h.next, bl := .leaf }) rfl hnone e3 e4⟩
    · rw [e1]
      refine hK _ _ ⟨_, _, A, t, h, B, I.made F R hsl hB hS hready he hh (v' := undef) ?_ (gh := { next := e.h.next, bl := .leaf }) rfl hnone e3 e4⟩
      rw [← hu]; exact e2
  | eff hw hx hp he =>
    rw [awanted_sound (hwant.trans hw) htm]
    simp only [if_true]
    have hpS : ∀ f ∈ B1, S f.i = true := fun f hf => hready _ (hp f (List.mem_append_right _ hf))
    have hn1 : ∀ f ∈ B1, f.eff = false := fun f hf => I.noeff f (hB1 f hf) (hpS f hf)
    have hsub : ∀ x o, e.h.get x = some o → G x = some o := fun x o hx => I.known F R s1 hn1 hB1 hx (.inr hpS)
    rw [← hop] at hx
    obtain ⟨_, hd⟩ := aDo_sound F R hx
    refine hd (I.hr.sub hsub) ((s1.heap hn1).1 I.ok) (I.fr e hBe hS) htm I.gok _ _ ?_
    intro v' w' ρ' hv' H' hok' m
    obtain ⟨G', I'⟩ := I.effect F R hsl hB hS hready hpS hv' H' hok' m
    exact hK _ _ ⟨_, _, _, _, _, _, I'⟩

/-- THE WHOLE REGION. -/
theorem draw_any (F : Fits E) (R : RecOK E r) (hsl : slotsOK ops (bits ops) = true) {ro' : Option Nat} {Q : Exit → Act → World → Prop}
    (hQ : ∀ a w, (∃ S, (∀ i, i < ops.size → S i = true) ∧ Invs r E ops tf hf ρ0 g0 n0 w0 d0 S a w) → Q .normal a w) :
    ∀ (fuel : Nat) (l : List Nat) (listed : Array Bool) (a : Act) (w : World), l.length ≤ fuel → (∀ i, i < ops.size → listed.getD i false = false → i ∈ l) → listed.size = ops.size →
      Invs r E ops tf hf ρ0 g0 n0 w0 d0 (fun i => listed.getD i false) a w → wpAnyIn (FW ro') 0 E.P .any ops Q fuel listed a w := by
  -- where nothing is ready, all is done
  have fin : ∀ (listed : Array Bool) (a : Act) (w : World), listed.size = ops.size → Invs r E ops tf hf ρ0 g0 n0 w0 d0 (fun i => listed.getD i false) a w → Region.ready .any ops listed = [] → Q .normal a w := by
    rintro listed a w hsz ⟨ρ, G, A, t, h, B, I⟩ hr
    refine hQ a w ⟨_, fun i hi => ?_, ρ, G, A, t, h, B, I⟩
    by_cases hall : ∀ e ∈ B, listed.getD e.i false = true
    · obtain ⟨e, he, rfl⟩ := I.all i hi
      rcases List.mem_append.1 he with he | he
      · exact I.inA e he
      · exact hall e he
    · exfalso
      have := first_of (p := fun x => listed.getD x.i false) hall
      obtain ⟨C, f, D, h1, h2, h3⟩ := this
      have s := I.seg
      rw [h1] at s
      obtain ⟨t1, h1', s1, s2⟩ := s.split
      have hfo := s2.at_ f (by simp)
      have hlt : f.i < listed.size := by rw [hsz]; exact (Array.getElem?_eq_some_iff.1 hfo).1
      have : f.i ∈ Region.ready .any ops listed := by
        rw [mem_ready]
        refine ⟨?_, f.o, hfo, fun ed hed hb => ?_⟩
        · rw [Array.getD_eq_getD_getElem?, Array.getElem?_eq_getElem hlt] at h3 ⊢
          exact h3
        · have hbit : ((bits ops).getD f.i 0).testBit ed.on = true := (bits_spec hfo ed.on).2 ⟨ed, hed, hb, .inl rfl⟩
          cases s2 with
          | cons ho hb hd hs rest =>
            obtain ⟨x, hx, hxi⟩ := hb _ hbit
            rw [← hxi]
            rcases List.mem_append.1 hx with hx | hx
            · exact I.inA x hx
            · exact h2 x hx
      rw [hr] at this; cases this
  intro fuel
  induction fuel with
  | zero =>
    intro l listed a w hl hm hsz hI
    have hnil : Region.ready .any ops listed = [] := by
      cases hr : Region.ready .any ops listed with
      | nil => rfl
      | cons x xs =>
        exfalso
        have hx : x ∈ Region.ready .any ops listed := by rw [hr]; simp
        obtain ⟨h1, o, h2, _⟩ := mem_ready.1 hx
        have hlt := (Array.getElem?_eq_some_iff.1 h2).1
        have hf : listed.getD x false = false := by
          rw [Array.getD_eq_getD_getElem?, Array.getElem?_eq_getElem (by omega)] at h1 ⊢; exact h1
        have := hm x hlt hf
        have : l = [] := List.length_eq_zero_iff.1 (by omega)
        simp_all
    exact ⟨hnil, fin listed a w hsz hI hnil⟩
  | succ fuel ih =>
    intro l listed a w hl hm hsz hI
    refine ⟨fin listed a w hsz hI, fun i hi => ?_⟩
    obtain ⟨h1, o, h2, h3⟩ := mem_ready.1 hi
    have hlt := (Array.getElem?_eq_some_iff.1 h2).1
    have hf : listed.getD i false = false := by
      rw [Array.getD_eq_getD_getElem?, Array.getElem?_eq_getElem (by omega)] at h1 ⊢; exact h1
    obtain ⟨ρ, G, A, t, h, B, I⟩ := hI
    refine I.step F R hsl h2 hf (fun j hj => ?_) ?_
    · obtain ⟨ed, hed, hb, hj⟩ := (bits_spec h2 j).1 hj
      rcases hj with rfl | ⟨_, hj⟩
      · exact h3 ed hed hb
      · exact I.down _ _ (h3 ed hed hb) hj
    · intro a' w' hI'
      have hS : (fun j => (listed.setIfInBounds i true).getD j false) = addS (fun j => listed.getD j false) i := by
        funext j
        by_cases hj : j = i
        · subst hj
          rw [addS_same]
          simp [Array.getD_eq_getD_getElem?, Array.getElem?_setIfInBounds, hsz, hlt]
        · rw [addS_ne hj]
          simp [Array.getD_eq_getD_getElem?, Array.getElem?_setIfInBounds, Ne.symm hj]
      refine ih (l.erase i) _ a' w' ?_ ?_ (by simpa using hsz) (by rw [hS]; exact hI')
      · have := hm i hlt hf
        rw [List.length_erase_of_mem this]; omega
      · intro j hj hjf
        have hne : j ≠ i := by
          rintro rfl
          simp [Array.getD_eq_getD_getElem?, Array.getElem?_setIfInBounds, hsz, hlt] at hjf
        have hjf' : listed.getD j false = false := by
          simpa [Array.getD_eq_getD_getElem?, Array.getElem?_setIfInBounds, Ne.symm hne] using hjf
        exact (List.mem_erase_of_ne hne).2 (hm j hj hjf')
end

theorem Moves.to_heap {ρ ρ' : Ren} {g g' : Got} {n n' : Nat} {w w1 w' : World} (m : Moves ρ g n w1 ρ' g' n' w') (h : w1.heap = w.heap) (he : w1.os = w.os ∧ w1.output = w.output := by exact ⟨rfl, rfl⟩) : Moves ρ g n w ρ' g' n' w' :=
  ⟨m.le, m.dom, m.next, by rw [← h]; exact m.size, fun B hB hn => by rw [← h] at hB ⊢; exact m.keep B hB hn, fun B hB => by rw [← h] at hB; exact m.wr B hB, fun B hB => by rw [← h] at hB; exact m.tr B hB, m.os.trans he.1, m.out.trans he.2⟩

theorem aDraw_sound {E : Env} (F : Fits E) {r : Rec} (R : RecOK E r) {id : Nat} {ops : Array Oper} {t : ATmps} {h : AHeap} {t' : ATmps} {h' : AHeap} (hsl : slotsOK ops (bits ops) = true)
    {l : List Nat} (e : aDraw r E ops (bits ops) l 0 t h [] = some (t', h')) :
    h.next ≤ h'.next ∧ ∀ {ρ : Ren} {w : World} {a : Act} {ro' : Option Nat}, HR ρ h.get w → h.ok → Fresh ρ h.next h'.next → TR ρ t a.tmps → GOK E.P ρ →
      ∀ (Q : Exit → Act → World → Prop), (∀ a' w' ρ', TR ρ' t' a'.tmps → a'.defers = a.defers → HR ρ' h'.get w' → h'.ok → Moves ρ h.get h.next w ρ' h'.get h'.next w' → Q .normal a' w') →
        (Code.region id ops true).wpIn (FW ro') 0 E.P Q a w := by
  obtain ⟨B, s, hall⟩ := draw_seg (A := []) e (fun j => by simp) (fun f hf => by cases hf)
  have hnx := s.next F R
  refine ⟨hnx.1, ?_⟩
  intro ρ w a ro' H hok hfr ht hG Q hK
  refine wpIn_region_any F.mixed ?_
  have hg0 : ∀ i, (Array.replicate ops.size false).getD i false = false := fun i => by
    rw [Array.getD_eq_getD_getElem?, Array.getElem?_replicate]; split <;> rfl
  refine draw_any (tf := t') (hf := h') (ρ0 := ρ) (g0 := h.get) (n0 := h.next) (w0 := w) (d0 := a.defers) F R hsl ?_ ops.size (List.range ops.size) _ a _ (by simp) (fun i hi _ => by simpa using hi) (by simp) ?_
  · rintro a' w' ⟨S, hS, ρ', G, A, t1, h1, B1, I⟩
    have hSB : ∀ f ∈ B1, S f.i = true := fun f hf => by
      exact hS f.i (Array.getElem?_eq_some_iff.1 (I.seg.at_ f hf)).1
    have hn1 : ∀ f ∈ B1, f.eff = false := fun f hf => I.noeff f hf (hSB f hf)
    have hsub : ∀ x o, h'.get x = some o → G x = some o := fun x o hx => I.known F R I.seg hn1 (fun _ h => h) hx (.inr hSB)
    refine hK a' w' ρ' ?_ I.df (I.hr.sub hsub) ((I.seg.heap hn1).1 I.ok) (I.mv.trans (Moves.sub hsub _))
    have := I.tm
    rw [List.filter_eq_self.2 hSB, ← I.seg.slots] at this
    exact this
  · refine ⟨ρ, h.get, [], t, h, B, ?_⟩
    refine { seg := s, all := by simpa using hall, inA := fun e he => (by cases he), noeff := fun e _ hs => (by rw [hg0] at hs; cases hs), down := fun i j hi => (by rw [hg0] at hi; cases hi), hr := H.heap_eq rfl, lo := fun _ _ => rfl, hi := ?_, ok := hok, fr := ?_, tm := ?_, df := rfl, gok := hG, mv := ?_, n0h := Nat.le_refl _ }
    · intro x o hx
      constructor
      · intro hg; have := hok x o hg; omega
      · rintro ⟨e, _, h2, _⟩; rw [hg0] at h2; cases h2
    · intro e he _ x h1 h2
      have := hnx.2 e he
      exact hfr x (by omega) (by omega)
    · rw [List.filter_eq_nil_iff.2 fun e _ => by rw [hg0]; simp]
      exact ht
    · refine ⟨Ren.le_refl _, fun _ h => .inl h, hnx.1, Nat.le_refl _, fun _ _ _ => rfl, fun _ _ h => h, fun _ _ h => h, rfl, rfl⟩
end
end Go.Abs
end
section
/-! The evaluator is sound. -/
namespace Go.Abs
noncomputable section

theorem After.then {ρ ρ1 : Ren} {h h1 : AHeap} {w w1 : World} {e : AExit} {t' : ATmps} {d' : List Nat} {h' : AHeap} (m : Moves ρ h.get h.next w ρ1 h1.get h1.next w1) {x : Exit} {a : Act} {w' : World} (A : After ρ1 h1 w1 e t' d' h' x a w') : After ρ h w e t' d' h' x a w' := by
  obtain ⟨ρ', q1, q2, q3, q4, q5, q6⟩ := A
  exact ⟨ρ', q1, q2, q3, q4, q5, m.trans q6⟩

theorem step_code {E : Env} (F : Fits E) {r : Rec} (R : RecOK E r) : CodeOK E (step r E).code fun c F Q a w => c.wpIn F 0 E.P Q a w := by
  intro fn ro c t d h e t' d' h' he
  have here : ∀ {x : AExit}, some (x, t, d, h) = some (e, t', d', h') → h.next ≤ h'.next ∧ ∀ {ρ : Ren} {w : World} {a : Act}, HR ρ h.get w → h.ok → TR ρ t a.tmps → DR ρ d a.defers → ∀ {y}, ExR x y → After ρ h w e t' d' h' y a w := by
    intro x hx
    simp only [Option.some.injEq, Prod.mk.injEq] at hx
    obtain ⟨rfl, rfl, rfl, rfl⟩ := hx
    exact ⟨Nat.le_refl _, fun H hok ht hd y hy => ⟨_, hy, ht, hd, H, hok, Moves.refl _ _ _ _⟩⟩
  cases c with
  | skip =>
    obtain ⟨n, q⟩ := here he
    exact ⟨n, fun hro H hok hfr ht hd hG => wpIn_skip (q H hok ht hd .normal)⟩
  | label l =>
    obtain ⟨n, q⟩ := here he
    exact ⟨n, fun hro H hok hfr ht hd hG => wpIn_label (q H hok ht hd .normal)⟩
  | exit id =>
    obtain ⟨n, q⟩ := here he
    exact ⟨n, fun hro H hok hfr ht hd hG => wpIn_exit (q H hok ht hd (.exit id))⟩
  | ret =>
    obtain ⟨n, q⟩ := here he
    exact ⟨n, fun hro H hok hfr ht hd hG => wpIn_ret (q H hok ht hd .ret)⟩
  | scope b => simp [step] at he
  | goto l => simp [step] at he
  | refuse w => simp [step] at he
  | rangeFunc g ps assign body => exact aRangeFunc_sound F R he
  | region id ops draw =>
    cases draw with
    | false =>
      simp only [step] at he
      split at he
      · rename_i t1 h1 hx
        simp only [Option.some.injEq, Prod.mk.injEq] at he
        obtain ⟨rfl, rfl, rfl, rfl⟩ := he
        obtain ⟨n, q⟩ := aOps_sound (i := 0) F R hx (fun j => by simp)
        refine ⟨n, fun hro H hok hfr ht hd hG => wpIn_region ?_⟩
        rw [List.range_eq_range', ← Array.length_toList]
        exact q H hok hfr ht hG _ fun a' w' ρ' h1 h2 h3 h4 h5 => ⟨ρ', .normal, h1, by rw [h2]; exact hd.mono h5.le, h3, h4, h5⟩
      · simp at he
    | true =>
      simp only [step] at he
      split at he
      · rename_i hsl
        split at he
        · rename_i t1 h1 hx
          simp only [Option.some.injEq, Prod.mk.injEq] at he
          obtain ⟨rfl, rfl, rfl, rfl⟩ := he
          obtain ⟨n, q⟩ := aDraw_sound (id := id) F R hsl hx
          refine ⟨n, fun hro H hok hfr ht hd hG => ?_⟩
          exact q H hok hfr ht hG _ fun a' w' ρ' h1 h2 h3 h4 h5 => ⟨ρ', .normal, h1, by rw [h2]; exact hd.mono h5.le, h3, h4, h5⟩
        · simp at he
      · simp at he
  | seq x y =>
    simp only [step] at he
    split at he
    · rename_i t1 d1 h1 hx
      obtain ⟨n1, q1⟩ := R.code hx
      obtain ⟨n2, q2⟩ := R.code he
      refine ⟨Nat.le_trans n1 n2, fun hro H hok hfr ht hd hG => wpIn_seq ?_⟩
      refine wpIn_mono (q1 hro H hok (hfr.left n2) ht hd hG) ?_
      rintro ex a' w' ⟨ρ', hex, ht', hd', H', hok', m⟩
      cases hex
      exact wpIn_mono (q2 (hro.mono m.le) H' hok' (m.fresh hfr) ht' hd' (hG.mono m.le)) fun _ _ _ A => A.then m
    · rename_i hne
      obtain ⟨n1, q1⟩ := R.code he
      refine ⟨n1, fun hro H hok hfr ht hd hG => wpIn_seq ?_⟩
      refine wpIn_mono (q1 hro H hok hfr ht hd hG) ?_
      rintro ex a' w' ⟨ρ', hex, rest⟩
      cases hex with
      | normal => exact absurd he (hne _ _ _)
      | exit id => exact ⟨ρ', .exit id, rest⟩
      | goto l => exact ⟨ρ', .goto l, rest⟩
      | ret => exact ⟨ρ', .ret, rest⟩
  | cond c x y =>
    simp only [step] at he
    split at he
    · rename_i hc
      obtain ⟨n1, q1⟩ := R.code he
      refine ⟨n1, fun hro H hok hfr ht hd hG => ?_⟩
      have hv := aeval_sound (E := E) ht hG c _ hc
      refine wpIn_cond_true ?_ (q1 hro H hok hfr ht hd hG)
      cases hcc : Act.eval _ c <;> rw [hcc] at hv <;> cases hv
      rfl
    · rename_i hc
      obtain ⟨n1, q1⟩ := R.code he
      refine ⟨n1, fun hro H hok hfr ht hd hG => ?_⟩
      have hv := aeval_sound (E := E) ht hG c _ hc
      refine wpIn_cond_false ?_ (q1 hro H hok hfr ht hd hG)
      cases hcc : Act.eval _ c <;> rw [hcc] at hv <;> cases hv
      rfl
    · simp at he
  | block id x =>
    simp only [step] at he
    split at he
    · rename_i k t1 d1 h1 hx
      obtain ⟨n1, q1⟩ := R.code hx
      split at he
      · rename_i hk
        have hk := Nat.eq_of_beq_eq_true hk
        subst hk
        simp only [Option.some.injEq, Prod.mk.injEq] at he
        obtain ⟨rfl, rfl, rfl, rfl⟩ := he
        refine ⟨n1, fun hro H hok hfr ht hd hG => wpIn_block ?_⟩
        refine wpIn_mono (q1 hro H hok hfr ht hd hG) ?_
        rintro ex a' w' ⟨ρ', hex, rest⟩
        cases hex
        simp only [Exit.inBlock, if_true]
        exact ⟨ρ', .normal, rest⟩
      · rename_i hk
        have hk : k ≠ id := fun e => by rw [e, Nat.beq_refl] at hk; cases hk
        simp only [Option.some.injEq, Prod.mk.injEq] at he
        obtain ⟨rfl, rfl, rfl, rfl⟩ := he
        refine ⟨n1, fun hro H hok hfr ht hd hG => wpIn_block ?_⟩
        refine wpIn_mono (q1 hro H hok hfr ht hd hG) ?_
        rintro ex a' w' ⟨ρ', hex, rest⟩
        cases hex
        simp only [Exit.inBlock, if_neg hk]
        exact ⟨ρ', .exit k, rest⟩
    · rename_i hne
      obtain ⟨n1, q1⟩ := R.code he
      refine ⟨n1, fun hro H hok hfr ht hd hG => wpIn_block ?_⟩
      refine wpIn_mono (q1 hro H hok hfr ht hd hG) ?_
      rintro ex a' w' ⟨ρ', hex, rest⟩
      cases hex with
      | normal => exact ⟨ρ', .normal, rest⟩
      | exit id => exact absurd he (hne _ _ _ _)
      | goto l => exact ⟨ρ', .goto l, rest⟩
      | ret => exact ⟨ρ', .ret, rest⟩
  | loop x =>
    simp only [step] at he
    obtain ⟨N, RN⟩ := R.rounds
    obtain ⟨n1, q1⟩ := RN he
    exact ⟨n1, fun hro H hok hfr ht hd hG => wpIn_loop_rounds N (q1 hro H hok hfr ht hd hG)⟩

theorem rounds_mono {F : Fence} {n : Nat} {P : Program} {c : Code} {Q Q' : Exit → Act → World → Prop} (h : ∀ e a w, Q e a w → Q' e a w) : ∀ {m : Nat} {a : Act} {w : World}, Code.roundsIn F n P c Q m a w → Code.roundsIn F n P c Q' m a w := by
  intro m
  induction m with
  | zero => intro a w h; exact h.elim
  | succ m ih =>
    intro a w hm
    rw [roundsIn_succ] at hm ⊢
    refine wpIn_mono hm fun e a w he => ?_
    cases e <;> first | exact ih he | exact h _ _ _ he

theorem step_rounds {E : Env} {r : Rec} (R : RecOK E r) : ∃ N, CodeOK E (step r E).rounds fun c F Q a w => Code.roundsIn F 0 E.P c Q N a w := by
  obtain ⟨N, RN⟩ := R.rounds
  refine ⟨N + 1, ?_⟩
  intro fn ro c t d h e t' d' h' he
  simp only [step] at he
  split at he
  · rename_i t1 d1 h1 hx
    obtain ⟨n1, q1⟩ := R.code hx
    obtain ⟨n2, q2⟩ := RN he
    refine ⟨Nat.le_trans n1 n2, fun hro H hok hfr ht hd hG => ?_⟩
    show Code.roundsIn _ _ _ _ _ (N + 1) _ _
    rw [roundsIn_succ]
    refine wpIn_mono (q1 hro H hok (hfr.left n2) ht hd hG) ?_
    rintro ex a' w' ⟨ρ', hex, ht', hd', H', hok', m⟩
    cases hex
    exact rounds_mono (fun _ _ _ A => A.then m) (q2 (hro.mono m.le) H' hok' (m.fresh hfr) ht' hd' (hG.mono m.le))
  · rename_i hne
    obtain ⟨n1, q1⟩ := R.code he
    refine ⟨n1, fun hro H hok hfr ht hd hG => ?_⟩
    show Code.roundsIn _ _ _ _ _ (N + 1) _ _
    rw [roundsIn_succ]
    refine wpIn_mono (q1 hro H hok hfr ht hd hG) ?_
    rintro ex a' w' ⟨ρ', hex, rest⟩
    cases hex with
    | normal => exact absurd he (hne _ _ _)
    | exit id => exact ⟨ρ', .exit id, rest⟩
    | goto l => exact ⟨ρ', .goto l, rest⟩
    | ret => exact ⟨ρ', .ret, rest⟩

theorem step_call {E : Env} {r : Rec} (R : RecOK E r) : CallOK E (step r E).call := by
  intro g args h v h' he
  simp only [step] at he
  split at he
  · simp at he
  · rename_i fn hfn
    split at he
    · simp at he
    · rename_i c hc
      have fin : ∀ {x : AExit} {t : ATmps} {d : List Nat} {h1 : AHeap}, (x = .normal ∨ x = .ret) → r.code g none c (ATmps.enter args.toList fn.ntmps) [] h = some (x, t, d, h1) →
          (match aTake d h1 with
          | none => none
          | some h2 => match aResult E t h2 fn.results.toList with
            | some vs => some (one vs, h2)
            | none => none) = some (v, h') →
          h.next ≤ h'.next ∧ (∃ fn c, E.P.funcs[g]? = some fn ∧ fn.body = some c) ∧ ∀ {ρ : Ren} {w : World} {args' : Array Value}, HR ρ h.get w → h.ok → Fresh ρ h.next h'.next → AR ρ args args' → GOK E.P ρ →
            ∀ ro', CallsIn (FW ro') 0 E.P g args' w fun
              | .returned v', w' => ∃ ρ', VR ρ' v v' ∧ HR ρ' h'.get w' ∧ h'.ok ∧ Moves ρ h.get h.next w ρ' h'.get h'.next w'
              | _, _ => False := by
        intro x t d h1 hx hcode hrest
        split at hrest
        · simp at hrest
        · rename_i h2 htake
          split at hrest
          · rename_i vs hres
            simp only [Option.some.injEq, Prod.mk.injEq] at hrest
            obtain ⟨rfl, rfl⟩ := hrest
            obtain ⟨n1, q1⟩ := R.code hcode
            have hn2 := aTake_next htake
            refine ⟨by omega, ⟨fn, c, hfn, hc⟩, ?_⟩
            intro ρ w args' H hok hfr hargs hG ro'
            have key : CallsIn (FW none) 0 E.P g args' w fun
              | .returned v', w' => ∃ ρ', VR ρ' (one vs) v' ∧ HR ρ' h2.get w' ∧ h2.ok ∧ Moves ρ h.get h.next w ρ' h2.get h2.next w'
              | _, _ => False := by
              refine callsIn_of_wp_marks hfn hc trivial ?_
              refine wpIn_mono (q1 (ro' := none) trivial H hok (by rw [← hn2]; exact hfr) (TR.enter hargs fn.ntmps) .nil hG) ?_
              rintro ex a' w' ⟨ρ', hex, ht', hd', H', hok', m⟩
              have hl : LeavesInM (FW none) 0 E.P fn a'.tmps (fun
                | .returned v', w' => ∃ ρ', VR ρ' (one vs) v' ∧ HR ρ' h2.get w' ∧ h2.ok ∧ Moves ρ h.get h.next w ρ' h2.get h2.next w'
                | _, _ => False) a'.defers .returning w' := by
                refine aTake_sound htake hd' H' hok' ?_ none
                intro w2 H2 hok2 m2
                obtain ⟨v', r1, r2⟩ := results_sound (E := E) H2 ht' hres
                exact ⟨v', r1, ρ', r2, H2, hok2, m.trans m2⟩
              rcases hx with rfl | rfl <;> cases hex <;> exact hl
            cases ro' with
            | none => exact key
            | some l => exact key.inRound l
          · simp at hrest
      split at he
      · rename_i hcode; exact fin (.inl rfl) hcode he
      · rename_i hcode; exact fin (.inr rfl) hcode he
      · simp at he

/-- THE EVALUATOR IS SOUND. -/
theorem ev_ok {E : Env} (F : Fits E) : ∀ n, RecOK E (ev E n) := by
  intro n
  induction n with
  | zero => exact ⟨fun h => by simp [ev] at h, ⟨0, fun h => by simp [ev] at h⟩, fun h => by simp [ev] at h⟩
  | succ n ih => exact ⟨step_code F ih, step_rounds ih, step_call ih⟩
end
end Go.Abs
end
