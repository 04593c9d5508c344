import Derived.Test.YtmfbkbjelikmoaaFi16
namespace Go.FI
open Go.RowKit

/-! ### Forgetting -/
def maskL (keep : List Nat) : Nat → List DV → List DV
  | _, [] => []
  | i, d :: ds => (match keep.contains i with | true => d | false => .any) :: maskL keep (i + 1) ds
def St.mask (st : St) (keep : List Nat) (n : Nat) : St := ⟨maskL keep 0 st.tmps, st.heap.take n, st.pins⟩
theorem maskL_rel {E : Env} {w : World} {keep : List Nat} : ∀ {ds : List DV} {vs : List Value} (i : Nat), drelL E w ds vs → drelL E w (maskL keep i ds) vs
  | [], vs, i, h => by simpa [maskL, drelL] using h
  | d :: ds, vs, i, h => by
    simp only [drelL] at h
    obtain ⟨v, vs', rfl, hv, hx⟩ := h
    simp only [maskL, drelL]
    refine ⟨v, vs', rfl, ?_, maskL_rel (i + 1) hx⟩
    split
    · exact hv
    · simp [DV.rel]
theorem take_get {H : List Ob} {n i : Nat} {x : Ob} (h : (H.take n)[i]? = some x) : H[i]? = some x := by
  rw [List.getElem?_take] at h
  split at h
  · exact h
  · cases h
theorem StRel.mask {X : Ctx} {E : Env} {st : St} {a : Act} {w : World} (hs : StRel X E st a w) (keep : List Nat) (n : Nat) : StRel X E (st.mask keep n) a w :=
  ⟨maskL_rel 0 hs.tmps, hs.defers.keep (fun _ hD => hD.keep (fun _ _ _ => rfl) (fun _ hI => .inl hI) (fun i x _ hx hl hb => .inr ⟨i, x, take_get hx, hl, hb⟩)),
    ⟨fun i o ho => hs.heap.ob i o (take_get ho), fun i j x y b hx hy => hs.heap.one i j x y b (take_get hx) (take_get hy), fun i x b hx => hs.heap.off i x b (take_get hx), hs.heap.bnd⟩,
    ⟨hs.ctx.os, hs.ctx.tape, hs.ctx.output, hs.ctx.size, hs.ctx.kept, hs.ctx.new, hs.ctx.I0, fun i x b hx => hs.ctx.own i x b (take_get hx), hs.ctx.I⟩, hs.pins⟩
/-- What stands at a place of the code, by another proof. -/
structure Cut where
  tag : Nat
  rid : Nat
  code : Code
  keep : List Nat
  n : Nat
  st0 : St
  ex : Exit
  st : St
def cutAt : List Cut → Nat → Nat → Option Cut
  | [], _, _ => none
  | c :: l, tag, rid => match Nat.beq c.tag tag, Nat.beq c.rid rid with
    | true, true => some c
    | _, _ => cutAt l tag rid
/-- The first region of a code. -/
def rid0 : Code → Option Nat
  | .region id _ _ => some id
  | .seq a b => match rid0 a with | some i => some i | none => rid0 b
  | .cond _ a b => match rid0 a with | some i => some i | none => rid0 b
  | .block _ c => rid0 c
  | .loop c => rid0 c
  | .rangeFunc _ _ a b => match rid0 a with | some i => some i | none => rid0 b
  | .scope c => rid0 c
  | _ => none
/-- A name of a place: 0 a loop, 1 a region, 2 a condition, 3 a block, 4 a range over a function. -/
def keyOf (c : Code) : Nat × Nat :=
  match c with
  | .loop b => (0, (rid0 b).getD 0)
  | .region id _ _ => (1, id)
  | .cond _ a b => (2, match rid0 a with | some i => i | none => (rid0 b).getD 0)
  | .block id _ => (3, id)
  | .rangeFunc _ _ a b => (4, match rid0 a with | some i => i | none => (rid0 b).getD 0)
  | _ => (9, 0)
/-- The code at a place. -/
def codeAt (tag rid : Nat) : Code → Option Code
  | .seq a b => match codeAt tag rid a with | some c => some c | none => codeAt tag rid b
  | .cond x a b => match keyOf (.cond x a b) == (tag, rid) with
    | true => some (.cond x a b)
    | false => match codeAt tag rid a with | some c => some c | none => codeAt tag rid b
  | .block id c => match keyOf (.block id c) == (tag, rid) with
    | true => some (.block id c)
    | false => codeAt tag rid c
  | .loop c => match keyOf (.loop c) == (tag, rid) with
    | true => some (.loop c)
    | false => codeAt tag rid c
  | .rangeFunc f ps a b => match keyOf (.rangeFunc f ps a b) == (tag, rid) with
    | true => some (.rangeFunc f ps a b)
    | false => match codeAt tag rid a with | some c => some c | none => codeAt tag rid b
  | .scope c => codeAt tag rid c
  | .region id ops d => match keyOf (.region id ops d) == (tag, rid) with
    | true => some (.region id ops d)
    | false => none
  | _ => none
def fbody (P : Program) (f : Nat) : Code :=
  match P.funcs[f]? with
  | some fn => match fn.body with | some c => c | none => .skip
  | none => .skip
def fcode (P : Program) (f tag rid : Nat) : Code :=
  match codeAt tag rid (fbody P f) with | some c => c | none => .skip
def loopBody : Code → Code
  | .loop b => b
  | .rangeFunc _ _ _ b => b
  | c => c

def exBlock (id : Nat) (x : Ex) : Ex :=
  match x with
  | .no => .no
  | .yes (.exit i) st O => match Nat.beq i id with
    | true => .yes .normal st O
    | false => .yes (.exit i) st O
  | .yes ex st O => .yes ex st O
def exCond (d : DV) (x y : Unit → Ex) : Ex :=
  match d with
  | .pd (.bool true) => x ()
  | .pd (.bool false) => y ()
  | _ => .no
/-- What is asked at a cut: a range over a function stands in a function's own frame. -/
def cutTo (fr : Bool) (P : Program) (c : Code) (k : Cut) (st : St) : Ex :=
  match Nat.beq k.tag 4, fr with
  | true, true => .yes k.ex k.st [st.mask k.keep k.n = k.st0, Code0 P c k.st0 k.ex k.st]
  | true, false => .no
  | false, _ => .yes k.ex k.st [st.mask k.keep k.n = k.st0, CodeOK P c k.st0 k.ex k.st]
def evCodeB (fr : Bool) (P : Program) (L : List Ann) (C : List Cut) (c : Code) (st : St) : Ex :=
  match cutAt C (keyOf c).1 (keyOf c).2 with
  | some k => cutTo fr P c k st
  | none => match c with
    | .skip => .yes .normal st []
    | .label _ => .yes .normal st []
    | .exit id => .yes (.exit id) st []
    | .ret => .yes .ret st []
    | .region id ops false => evOps fr P L id ops.toList (List.range ops.size) st
    | .seq a b => exThen (evCodeB fr P L C a st) (evCodeB fr P L C b)
    | .cond x a b => exCond (evl st.tmps x) (fun _ => evCodeB fr P L C a st) (fun _ => evCodeB fr P L C b st)
    | .block id b => exBlock id (evCodeB fr P L C b st)
    | _ => .no
  termination_by structural c
abbrev evCode (P : Program) (L : List Ann) (C : List Cut) (c : Code) (st : St) : Ex := evCodeB false P L C c st
section
variable {P : Program}
theorem CodeB.wp {fr : Bool} {c : Code} {st st' : St} {ex : Exit} (h : CodeB fr P c st ex st') {r : Option Nat} (hr : rOK fr r) {X : Ctx} {E : Env} {a : Act} {w : World} (hs : StRel X E st a w) {Q : Exit → Act → World → Prop}
    (hQ : ∀ E' a' w', StRel X E' st' a' w' → Q ex a' w') : wpB r P c Q a w :=
  wpB_mono (h r hr X E a w hs) fun _ a' w' h => by
    obtain ⟨rfl, E', hs'⟩ := h
    exact hQ E' a' w' hs'
theorem CodeB.weak {fr : Bool} {c : Code} {st st0 st' : St} {ex : Exit} {keep : List Nat} {n : Nat} (h : CodeB fr P c st0 ex st') (e : st.mask keep n = st0) : CodeB fr P c st ex st' :=
  fun r hr X E a w hs => h r hr X E a w (e ▸ hs.mask keep n)
theorem CodeB.seq {fr : Bool} {a b : Code} {st st1 st2 : St} {ex : Exit} (h1 : CodeB fr P a st .normal st1) (h2 : CodeB fr P b st1 ex st2) : CodeB fr P (.seq a b) st ex st2 :=
  fun r hr X _ _ _ hs => wpB_seq (h1.wp hr hs fun E' a' w' hs' => h2 r hr X E' a' w' hs')
theorem CodeB.seqOut {fr : Bool} {a b : Code} {st st1 : St} {ex : Exit} (h1 : CodeB fr P a st ex st1) (hx : ex ≠ .normal) : CodeB fr P (.seq a b) st ex st1 :=
  fun _ hr X E _ w hs => wpB_seq (h1.wp hr hs fun E' a' w' hs' => by
    cases ex with
    | normal => exact absurd rfl hx
    | _ => exact ⟨rfl, E', hs'⟩)
theorem CodeB.block {fr : Bool} {id : Nat} {c : Code} {st st' : St} (h : CodeB fr P c st (.exit id) st') : CodeB fr P (.block id c) st .normal st' :=
  fun _ hr X E _ w hs => wpB_block (h.wp hr hs fun E' a' w' hs' => by
    simp only [Exit.inBlock, if_true]
    exact ⟨trivial, E', hs'⟩)
theorem CodeB.blockOut {fr : Bool} {id : Nat} {c : Code} {st st' : St} {ex : Exit} (h : CodeB fr P c st ex st') (hx : ex ≠ .exit id) : CodeB fr P (.block id c) st ex st' :=
  fun _ hr X E _ w hs => wpB_block (h.wp hr hs fun E' a' w' hs' => by
    cases ex with
    | exit i =>
      have : i ≠ id := fun h => hx (h ▸ rfl)
      simp only [Exit.inBlock, if_neg this]
      exact ⟨trivial, E', hs'⟩
    | _ => exact ⟨rfl, E', hs'⟩)
theorem CodeB.cond {fr : Bool} {x : Operand} {a b : Code} {t : Bool} {st st' : St} {ex : Exit} (hx : evl st.tmps x = .pd (.bool t)) (h : CodeB fr P (if t then a else b) st ex st') : CodeB fr P (.cond x a b) st ex st' :=
  fun r hr X E ac w hs => by
    have := evl_rel hs x
    rw [hx] at this
    simp only [DV.rel, PD.rel] at this
    exact wpB_cond this (h r hr X E ac w hs)
theorem exBlock_get {x : Ex} {id : Nat} {ex : Exit} {st' : St} {Os : List Prop} (h : exBlock id x = .yes ex st' Os) :
    (x = .yes (.exit id) st' Os ∧ ex = .normal) ∨ (x = .yes ex st' Os ∧ ex ≠ .exit id) := by
  unfold exBlock at h
  split at h
  · cases h
  · rename_i i st1 O1
    split at h
    · rename_i hb
      injection h with h1 h2 h3
      subst h1 h2 h3
      exact .inl ⟨by rw [Nat.eq_of_beq_eq_true hb], rfl⟩
    · rename_i hb
      injection h with h1 h2 h3
      subst h1 h2 h3
      exact .inr ⟨rfl, fun h => by injection h with h; exact Nat.ne_of_beq_eq_false hb h⟩
  · rename_i ex' st1 O1 hne
    injection h with h1 h2 h3
    subst h1 h2 h3
    exact .inr ⟨rfl, fun h => hne id (by rw [h])⟩
theorem cutTo_ok {fr : Bool} {c : Code} {k : Cut} {st st' : St} {ex : Exit} {Os : List Prop} (he : cutTo fr P c k st = .yes ex st' Os) (hO : All Os) : CodeB fr P c st ex st' := by
  unfold cutTo at he
  split at he
  · obtain ⟨rfl, rfl, rfl⟩ := yes3 he
    exact CodeB.weak hO.2.1 hO.1
  · cases he
  · obtain ⟨rfl, rfl, rfl⟩ := yes3 he
    exact CodeB.weak (CodeB.zero hO.2.1) hO.1
theorem evCodeB_ok {fr : Bool} {L : List Ann} {C : List Cut} : ∀ (c : Code) {st st' : St} {ex : Exit} {Os : List Prop}, evCodeB fr P L C c st = .yes ex st' Os → All Os → CodeB fr P c st ex st' := by
  intro c
  induction c with
  | seq a b iha ihb =>
    intro st st' ex Os he hO
    unfold evCodeB at he
    split at he
    · exact cutTo_ok he hO
    · rcases exThen_get he with ⟨st1, O1, O2, h1, h2, rfl⟩ | ⟨h1, hne⟩
      · obtain ⟨hO1, hO2⟩ := All_append hO
        exact (iha h1 hO1).seq (ihb h2 hO2)
      · exact (iha h1 hO).seqOut hne
  | cond x a b iha ihb =>
    intro st st' ex Os he hO
    unfold evCodeB at he
    split at he
    · exact cutTo_ok he hO
    · simp only at he
      unfold exCond at he
      split at he
      · rename_i hx
        exact CodeB.cond (t := true) hx (iha he hO)
      · rename_i hx
        exact CodeB.cond (t := false) hx (ihb he hO)
      · cases he
  | block id b ih =>
    intro st st' ex Os he hO
    unfold evCodeB at he
    split at he
    · exact cutTo_ok he hO
    · rcases exBlock_get he with ⟨h1, rfl⟩ | ⟨h1, hne⟩
      · exact (ih h1 hO).block
      · exact (ih h1 hO).blockOut hne
  | region id ops d =>
    intro st st' ex Os he hO
    unfold evCodeB at he
    split at he
    · exact cutTo_ok he hO
    · cases d with
      | true => cases he
      | false =>
        simp only at he
        exact fun _ hr X E a w hs => wpB_of (wpIn_region (evOps_ok hr _ he hO hs fun E' a' w' hs' => ⟨rfl, E', hs'⟩))
  | skip =>
    intro st st' ex Os he hO
    unfold evCodeB at he
    split at he
    · exact cutTo_ok he hO
    · obtain ⟨rfl, rfl, rfl⟩ := yes3 he
      exact fun _ _ X E a w hs => wpB_of (wpIn_skip ⟨rfl, E, hs⟩)
  | label l =>
    intro st st' ex Os he hO
    unfold evCodeB at he
    split at he
    · exact cutTo_ok he hO
    · obtain ⟨rfl, rfl, rfl⟩ := yes3 he
      exact fun _ _ X E a w hs => wpB_of (wpIn_label ⟨rfl, E, hs⟩)
  | «exit» id =>
    intro st st' ex Os he hO
    unfold evCodeB at he
    split at he
    · exact cutTo_ok he hO
    · obtain ⟨rfl, rfl, rfl⟩ := yes3 he
      exact fun _ _ X E a w hs => wpB_of (wpIn_exit ⟨rfl, E, hs⟩)
  | ret =>
    intro st st' ex Os he hO
    unfold evCodeB at he
    split at he
    · exact cutTo_ok he hO
    · obtain ⟨rfl, rfl, rfl⟩ := yes3 he
      exact fun _ _ X E a w hs => wpB_of (wpIn_ret ⟨rfl, E, hs⟩)
  | _ =>
    intro st st' ex Os he hO
    unfold evCodeB at he
    split at he
    · exact cutTo_ok he hO
    · cases he

theorem CodeB.mask {fr : Bool} {c : Code} {st st' : St} {ex : Exit} (h : CodeB fr P c st ex st') (keep : List Nat) (n : Nat) : CodeB fr P c st ex (st'.mask keep n) :=
  fun _ hr _ _ _ _ hs => h.wp hr hs fun E' _ _ hs' => ⟨rfl, E', hs'.mask keep n⟩
def exMask (x : Ex) (keep : List Nat) (n : Nat) : Ex :=
  match x with
  | .no => .no
  | .yes ex st O => .yes ex (st.mask keep n) O
theorem code_mask {L : List Ann} {C : List Cut} {c : Code} {st st' : St} {ex : Exit} {Os : List Prop} (keep : List Nat) (n : Nat) (he : exMask (evCode P L C c st) keep n = .yes ex st' Os) (hO : All Os) : CodeOK P c st ex st' := by
  unfold exMask at he
  split at he
  · cases he
  · rename_i ex1 st1 O1 h1
    injection he with e1 e2 e3
    subst e1 e2 e3
    exact (evCodeB_ok c h1 hO).mask keep n
def lookS : List (Nat × DV) → Nat → DV
  | [], _ => .any
  | (j, d) :: t, i => match Nat.beq j i with | true => d | false => lookS t i
/-- n slots: these, and of the others nothing. -/
def slots (n : Nat) (l : List (Nat × DV)) : List DV := (List.range n).map (lookS l)

/-! ### Loops -/
/-- A loop, from the start of a round. -/
def LoopOK (P : Program) (b : Code) (st : St) (ex : Exit) (st' : St) : Prop :=
  ∀ (r : Option Nat) X E a w, StRel X E st a w → ∀ (fr : Frame) (k : List Item) (cs : List Frame), fr.roundOf = r → fr.fn < P.funcs.size → ∃ e a' w', (e = ex ∧ ∃ E', StRel X E' st' a' w') ∧ ArrivesIn (Machine.fenced P (FW r)) P (lone (fr.atR a (.code b :: .inLoop b :: k)) cs w) fr k cs e a' w'
theorem LoopOK.code {b : Code} {st st' : St} {ex : Exit} (h : LoopOK P b st ex st') : CodeOK P (.loop b) st ex st' := by
  intro r _ X E a w hs fr k cs hro hb
  obtain ⟨e, a', w', hq, harr⟩ := h r X E a w hs fr k cs hro hb
  exact ⟨e, a', w', hq, .of_steps (.one (calmB rfl) stepR_loop) harr⟩
theorem LoopOK.out {b : Code} {st st' : St} {ex : Exit} (h : CodeOK P b st ex st') (hx : ex ≠ .normal) : LoopOK P b st ex st' := by
  intro r X E a w hs fr k cs hro hb
  obtain ⟨e, a', w', ⟨rfl, hq⟩, harr⟩ := h r (fun h => by cases h) X E a w hs fr (.inLoop b :: k) cs hro hb
  exact ⟨e, a', w', ⟨rfl, hq⟩, .pass (x := .inLoop b) rfl (fun _ _ => .inl hx) harr⟩
theorem LoopOK.step {b : Code} {st st1 st' : St} {ex : Exit} (h : CodeOK P b st .normal st1) (h' : LoopOK P b st1 ex st') : LoopOK P b st ex st' := by
  intro r X E a w hs fr k cs hro hb
  obtain ⟨e, a1, w1, ⟨rfl, E1, hs1⟩, harr⟩ := h r (fun h => by cases h) X E a w hs fr (.inLoop b :: k) cs hro hb
  obtain ⟨e, a', w', hq, harr'⟩ := h' r X E1 a1 w1 hs1 fr k cs hro hb
  exact ⟨e, a', w', hq, .of_steps (StepsIn.trans harr (.one (calmB rfl) stepR_inLoop)) harr'⟩
theorem LoopOK.mask {b : Code} {st st' : St} {ex : Exit} (h : LoopOK P b st ex st') (keep : List Nat) (n : Nat) : LoopOK P b st ex (st'.mask keep n) := by
  intro r X E a w hs fr k cs hro hb
  obtain ⟨e, a', w', ⟨rfl, E', hs'⟩, harr⟩ := h r X E a w hs fr k cs hro hb
  exact ⟨e, a', w', ⟨rfl, E', hs'.mask keep n⟩, harr⟩
end
end Go.FI
